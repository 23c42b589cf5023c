/- Put4, Txt, PutPool, Ops, Apply, Apply2, Take, Do1, Do2, Do3, Sem1, Move, Move2, Apply3, EntDraw, DrawP, DrawQ, Sem2, Sem3, Sem4, Same, Reads, SnapN, Prog1, Prog2, Prog3, Age1, Maps, Snaps. No condition. -/
import Derived.Test.YtgediecndaheiaaGreatPDraw2
set_option linter.all false
namespace Go.Proofs.YtgediecndaheiaaGreat.Pl
open Go.Proofs.YtgediecndaheiaaGreat.R Go.Proofs.YtgediecndaheiaaGreat.XS
def two (x : Int) : List Int := [x / 256 % 256, x % 256]
end Go.Proofs.YtgediecndaheiaaGreat.Pl
namespace Go.Proofs.YtgediecndaheiaaGreat.Pl
open Go.Proofs.YtgediecndaheiaaGreat.R Go.Proofs.YtgediecndaheiaaGreat.XS
def tx (s : ByteArray) : List Int := two (s.size : Int) ++ Vj s
end Go.Proofs.YtgediecndaheiaaGreat.Pl
namespace Go.Proofs.YtgediecndaheiaaGreat.Pl
open Go.Proofs.YtgediecndaheiaaGreat.R Go.Proofs.YtgediecndaheiaaGreat.XS
structure PoolF (q : List Int) (t : List y0) (l : List y9) (cs : List y8) (vs : List yc) : Prop where
 ql : q.length = t.length
 tl : t.length ≤ 20
 ll : l.length ≤ 16
 cl : cs.length = 24
 vl : vs.length ≤ 6
 nm : ∀ v ∈ vs, ByteArray.size v.1 ≤ 6
 nl : ∀ n ∈ t, List.length n ≤ 3
 sl : ∀ n ∈ t, ∀ s ∈ (show List yb from n), List.length s ≤ 60 ∧ ∀ k ∈ (show List y7 from s), YE k = true
theorem yxh {q : List Int} {t : List y0} {l : List y9} {cs : List y8} {vs : List yc} {z : Int} (h : yn q t l cs vs z = true) : PoolF q t l cs vs := by
 unfold yn at h
 simp only [Bool.and_eq_true] at h
 obtain ⟨h1, h2, h3, _, _, h4, _⟩ := h
 obtain ⟨t1, t2, t3, t4⟩ := JQ h1
 unfold ji at h2
 unfold zA at h3
 unfold wk at h4
 simp only [Bool.and_eq_true, Bool.not_eq_true', decide_eq_true_eq, beq_iff_eq] at h2 h3 h4
 refine ⟨t1, t3, by omega, by omega, by omega, fun v hv => ?_, fun n hn => (y1M (t4 n hn)).1, fun n hn s hs => y3x ((y1M (t4 n hn)).2 s hs)⟩
 obtain ⟨j, hj⟩ := kr _ vs 0 h4.1 v hv
 unfold yc1 at hj
 simp only [Bool.or_eq_false_iff, Bool.not_eq_false'] at hj
 have hn := hj.1
 unfold Yf at hn
 simp only [Bool.and_eq_true, zp] at hn
 omega
section
variable {q : List Int} {t : List y0} {l : List y9} {cs : List y8} {vs : List yc} (z : Int) (h : PoolF q t l cs vs)
include h
end
end Go.Proofs.YtgediecndaheiaaGreat.Pl
namespace Go.Proofs.YtgediecndaheiaaGreat.Pl
open Go.Proofs.YtgediecndaheiaaGreat.R Go.Proofs.YtgediecndaheiaaGreat.XS
def ycl (kind a b : Int) : Bool :=
 if kind = 2 then decide (a = 0) && inR b 0 1 else if kind = 3 ∨ kind = 7 then decide (a = 0) && decide (b = 0) else if kind = 4 then true else decide (b = 0)
def yfb (s : ByteArray) : Bool := s.toList == ([] : List UInt8)
def yss (kind : Int) (name tt : ByteArray) (a b : Int) : Bool :=
 inR kind 1 9 && (if kind ≥ 7 then yfb name else Yf name) && (if kind = 2 then Yf tt else yfb tt) && isW a && isW b && ycl kind a b
theorem y4E (kind : Int) (name tt : ByteArray) (a b : Int) : YZ (kind, name, tt, a, b) = some (ycl kind a b) := by
 unfold YZ ycl
 simp only [Bool.cond_eq_ite, Z8, Option.bind_some, beq_iff_eq]
 by_cases h2 : kind = 2 <;> by_cases h3 : kind = 3 <;> by_cases h7 : kind = 7 <;> by_cases h4 : kind = 4 <;> by_cases ha : a = 0 <;> by_cases hb : b = 0 <;> simp_all
theorem y2R : (ByteArray.toList { data := #[] }) = [] := by
 unfold ByteArray.toList ByteArray.toList.loop
 rfl
theorem y2S (kind : Int) (name tt : ByteArray) (a b : Int) (hn : name.size ≤ maxLen) (ht : tt.size ≤ maxLen) : vu (kind, name, tt, a, b) = some (yss kind name tt a b) := by
 unfold vu yss yfb
 simp only [Bool.cond_eq_ite, J3 _ hn, J3 _ ht, Z8, Vb, y4E, Option.bind_some, bi, y2R, decide_eq_true_eq]
 generalize (name.toList == ([] : List UInt8)) = n1
 generalize (tt.toList == ([] : List UInt8)) = n2
 generalize inR kind 1 9 = n3
 generalize ycl kind a b = n4
 by_cases h7 : kind ≥ 7 <;> by_cases h2 : kind = 2 <;> simp only [h7, h2, if_true, if_false, Option.bind_some] <;> cases n1 <;> cases n2 <;> cases n3 <;> cases n4 <;> cases Yf name <;> cases Yf tt <;> cases isW a <;> cases isW b <;> rfl
end Go.Proofs.YtgediecndaheiaaGreat.Pl
namespace Go.Proofs.YtgediecndaheiaaGreat.Pl
open Go.Proofs.YtgediecndaheiaaGreat.R Go.Proofs.YtgediecndaheiaaGreat.XS
abbrev P7a : Type := List yd × List y0 × List y9 × List y8 × List yc × Int × Int
theorem y9h {A : Type} {o : Option A} : (Option.bind o fun r => some r) = o := by cases o <;> rfl
theorem ycm {o : Option P7a} : (Option.bind o fun r => some (r.1, r.2.1, r.2.2.1, r.2.2.2.1, r.2.2.2.2.1, r.2.2.2.2.2.1, r.2.2.2.2.2.2)) = o := by cases o <;> rfl
theorem yrx {o : Option (List yd × List y0 × List y9 × List y8 × List yc × Int × Bool)} : (Option.bind o fun r => some (r.1, r.2.1, r.2.2.1, r.2.2.2.1, r.2.2.2.2.1, r.2.2.2.2.2.1, r.2.2.2.2.2.2)) = o := by cases o <;> rfl
theorem yxi {o : Option (Bool × List yd × List y0 × List y9 × List y8 × List yc × Int)} : (Option.bind o fun r => some (r.1, r.2.1, r.2.2.1, r.2.2.2.1, r.2.2.2.2.1, r.2.2.2.2.2.1, r.2.2.2.2.2.2)) = o := by cases o <;> rfl
theorem zL {A : Type} {P : A → Prop} (b : Bool) {x y : A} (hx : b = true → P x) (hy : b = false → P y) : P (bif b then x else y) := by cases b <;> first | exact hx rfl | exact hy rfl
structure Tn (q : List yd) (t : List y0) (l : List y9) (cs : List y8) (vs : List yc) : Prop where
 ql : q.length ≤ 100
 T : TS t
 ll : l.length ≤ 100
 cl : cs.length = 24
 vl : vs.length ≤ 100
 N : ∀ v ∈ vs, ByteArray.size v.1 ≤ 60
 e : q.length = t.length
 p : 0 < t.length
theorem Tn.sp {q : List yd} {t : List y0} {l : List y9} {cs : List y8} {vs : List yc} (h : Tn q t l cs vs) : SP q t l cs vs := by
 have hT := h.T.ok
 refine ⟨⟨Nat.le_trans h.ql (by decide), hT.len, hT.sum, Nat.le_trans h.ll (by decide), by rw [h.cl]; decide, Nat.le_trans h.vl (by decide)⟩, fun v hv => Nat.le_trans (h.N v hv) (by decide)⟩
theorem KW {q : List yd} {t : List y0} {l : List y9} {cs : List y8} {vs : List yc} {z : Int} (h : yn q t l cs vs z = true) : Tn q t l cs vs := by
 have hF := yxh h
 unfold yn at h
 rw [Bool.and_eq_true] at h
 have h1 := JQ h.1
 exact ⟨by have := hF.ql; have := hF.tl; omega, y1T h.1, by have := hF.ll; omega, hF.cl, by have := hF.vl; omega, fun v hv => by have := hF.nm v hv; omega, hF.ql, by omega⟩
def Res (q : List yd) (t : List y0) (l : List y9) (cs : List y8) (vs : List yc) (z : Int) (o : Option P7a) : Prop :=
 ∃ q' t' l' cs' vs' z' c, o = some (q', t', l', cs', vs', z', c) ∧ (yn q' t' l' cs' vs' z' = true ∨ (q', t', l', cs', vs', z') = (q, t, l, cs, vs, z))
theorem qS {s : ByteArray} (h : Yf s = true) : s.size ≤ 6 := by
 unfold Yf at h
 simp only [Bool.and_eq_true, zp] at h
 omega
def yG (vs : List yc) (n : ByteArray) : Int := zX (fun v : yc => ByteArray.toList v.1 == ByteArray.toList n) vs 0
theorem YM (vs : List yc) (n : ByteArray) : yG vs n = -1 ∨ (0 ≤ yG vs n ∧ yG vs n < vs.length) := by
 rcases YJ (fun v : yc => ByteArray.toList v.1 == ByteArray.toList n) yp vs 0 (Int.le_refl _) with h | ⟨h1, h2, h3⟩
 ·exact .inl h
 ·exact .inr ⟨h1, by simpa [yG] using h2⟩
section
variable (q : List yd) (t : List y0) (l : List y9) (cs : List y8) (vs : List yc) (z : Int)
theorem zy (n : ByteArray) (hv : vs.length ≤ 1048576) : zk (q, t, l, cs, vs, z, n) = some (yG vs n) := by
 unfold zk y0J
 refine (YU (step := wy _ _) (fun i => (n, i, q, t, l, cs, vs, z)) (fun v : yc => ByteArray.toList v.1 == ByteArray.toList n) (fun x => some x) (some (-1)) yp vs (by omega) ?_ ?_).trans ?_
 ·intro again i h0 h1
  have hw : Go.IntKind.wrap .i64 (i + 1) = i + 1 := w64 (by omega) (by omega)
  unfold wy
  simp only [Bool.cond_eq_ite, decide_eq_true_eq, h0, h1, if_true, hw]
  rfl
 ·intro again i hi
  unfold wy
  simp only [Bool.cond_eq_ite, decide_eq_true_eq, if_neg hi]
 ·rcases YM vs n with h | ⟨h1, h2⟩ <;> unfold yG at *
  ·rw [h]
   rfl
  ·rw [if_neg (by omega)]
def y7P (n : ByteArray) : Int := if yn q t l cs vs z = true ∧ Yf n = true then 0 else 1
noncomputable def yry (n : ByteArray) : Int := if yn q t l cs vs z = true ∧ Yf n = true then (if yG vs n < 0 then 2 else 0) else 1
noncomputable def Z9 (n : ByteArray) (b : Int) : Int := if yn q t l cs vs z = true ∧ Yf n = true then (if yG vs n < 0 then 2 else if (ya vs (yG vs n)).2.2.2 = true then 5 else if inR b 0 (Go.IntKind.wrap .i64 ((ya vs (yG vs n)).2.2.1 - 1)) = true then 0 else 4) else 1
variable {q t l cs vs} (h : SP q t l cs vs)
include h
theorem KF (n : ByteArray) (hn : n.size ≤ maxLen) : ZK (q, t, l, cs, vs, z, n) = some (y7P q t l cs vs z n) := by
 unfold ZK y7P
 simp only [Z1 z h, J3 n hn, Option.bind_some]
 cases yn q t l cs vs z <;> cases Yf n <;> rfl
theorem y1a (n : ByteArray) (hn : n.size ≤ maxLen) : JZ (q, t, l, cs, vs, z, n) = some (yry q t l cs vs z n) := by
 unfold JZ yry
 simp only [KF z h n hn, zy q t l cs vs z n h.S.2.2.2.2.2, Option.bind_some]
 unfold y7P
 by_cases hc : yn q t l cs vs z = true ∧ Yf n = true
 ·simp only [if_pos hc, beq_self_eq_true, cond_true, Option.bind_some]
  by_cases hv : yG vs n < 0
  ·simp only [if_pos hv, decide_eq_true hv]
   rfl
  ·simp only [if_neg hv, decide_eq_false hv]
   rfl
 ·simp only [if_neg hc]
  rfl
theorem wh (n : ByteArray) (hn : n.size ≤ maxLen) (b : Int) : Z5 (q, t, l, cs, vs, z, n, b) = some (Z9 q t l cs vs z n b) := by
 unfold Z5 Z9
 simp only [y1a z h n hn, zy q t l cs vs z n h.S.2.2.2.2.2, Z8, Option.bind_some]
 unfold yry
 by_cases hc : yn q t l cs vs z = true ∧ Yf n = true
 ·simp only [if_pos hc]
  by_cases hv : yG vs n < 0
  ·simp only [if_pos hv]
   rfl
  ·have h2 := YM vs n
   simp only [if_neg hv, show ((0 : Int) != 0) = false from rfl, cond_false, if_pos (show (0 : Int) ≤ yG vs n by omega), if_pos (show yG vs n < ((List.length vs : Nat) : Int) by omega)]
   cases (ya vs (yG vs n)).2.2.2 with
   | true => rfl
   | false => cases inR b 0 (Go.IntKind.wrap .i64 ((ya vs (yG vs n)).2.2.1 - 1)) <;> rfl
 ·simp only [if_neg hc]
  rfl
theorem W3 : yj (q, t, l, cs, vs, z) = some (q, t, l, cs, vs, z) := kt q t l cs vs z h.S
omit h in
theorem Res.same (c : Int) : Res q t l cs vs z (some (q, t, l, cs, vs, z, c)) := ⟨_, _, _, _, _, _, c, rfl, .inr rfl⟩
theorem yiU {q' : List yd} {t' : List y0} {l' : List y9} {cs' : List y8} {vs' : List yc} {z' : Int} (hx : SP q' t' l' cs' vs') (b : Bool) : yC (q, t, l, cs, vs, z, q', t', l', cs', vs', z', b) = some (if b = true ∧ yn q' t' l' cs' vs' z' = true then (q', t', l', cs', vs', z', 0) else (q, t, l, cs, vs, z, 6)) := by
 unfold yC
 simp only [Z1 z' hx, W3 z h, Option.bind_some]
 cases b <;> cases hp : yn q' t' l' cs' vs' z' <;> simp
theorem Res.fin {q' : List yd} {t' : List y0} {l' : List y9} {cs' : List y8} {vs' : List yc} {z' : Int} (hx : SP q' t' l' cs' vs') (b : Bool) : Res q t l cs vs z (yC (q, t, l, cs, vs, z, q', t', l', cs', vs', z', b)) := by
 rw [yiU z h hx b]
 by_cases hc : b = true ∧ yn q' t' l' cs' vs' z' = true
 ·rw [if_pos hc]
  exact ⟨_, _, _, _, _, _, _, rfl, .inl hc.2⟩
 ·rw [if_neg hc]
  exact ⟨_, _, _, _, _, _, _, rfl, .inr rfl⟩
end
theorem qv (l : List y9) (id fr : Int) (hl : l.length ≤ 1000) : ∃ l' b, ju (l, id, fr) = some (l', b) ∧ l'.length ≤ l.length + 1 := by
 unfold ju QD
 rw [ZE l id (by omega)]
 simp only [Option.bind_some]
 refine jV (step := Wz _) (fun u : Wy => l.length - u.2.2.2.2.1.toNat) (fun u => u.1 = l ∧ u.2.1 = id ∧ 0 ≤ u.2.2.2.2.1 ∧ u.2.2.2.2.1 ≤ l.length ∧ (u.2.2.2.2.2.length : Int) ≤ u.2.2.2.2.1 + (if u.2.2.2.1 = true then 1 else 0)) (fun _ (res : Option (List y9 × Bool)) => ∃ (l' : List y9) (b : Bool), res = some (l', b) ∧ l'.length ≤ l.length + 1) ?_ (l, id, fr, decide (z9 l id ≥ 0), 0, []) ⟨rfl, rfl, Int.le_refl _, by simp, by simp; split <;> omega⟩ (by simp; omega)
 ·rintro again ⟨l1, id1, fr1, d, i, o⟩ ⟨rfl, rfl, h0, h1, ho⟩ hag
  simp only at h0 h1 ho hl hag ⊢
  unfold Wz
  simp only [Bool.cond_eq_ite, decide_eq_true_eq]
  by_cases hi : i < (l1.length : Int)
  ·have hw : Go.IntKind.wrap .i64 (i + 1) = i + 1 := w64 (by omega) (by omega)
   have ho2 : o.length ≤ 1001 := by split at ho <;> omega
   simp only [if_pos hi, if_pos h0, hw, List.length_append, List.length_cons, List.length_nil]
   cases d with
   | true =>
    simp only [Bool.not_true, Bool.false_eq_true, if_false, Option.bind_some]
    rw [if_pos (by omega)]
    exact hag _ ⟨rfl, rfl, by simp only; omega, by simp only; omega, by simp at ho ⊢; omega⟩ (by simp only; omega)
   | false =>
    simp only [Bool.not_false, if_true, Option.bind_some, decide_eq_true_eq]
    split
    ·rw [if_pos (by omega), if_pos (by omega)]
     exact hag _ ⟨rfl, rfl, by simp only; omega, by simp only; omega, by simp at ho ⊢; omega⟩ (by simp only; omega)
    ·rw [if_pos (by omega)]
     exact hag _ ⟨rfl, rfl, by simp only; omega, by simp only; omega, by simp at ho ⊢; omega⟩ (by simp only; omega)
  ·have ho2 : o.length ≤ 1001 := by split at ho <;> omega
   simp only [if_neg hi, List.length_append, List.length_cons, List.length_nil, ZE l1 id1 (by omega), Option.bind_some, Kp o (by omega), Kp (o ++ [(id1, fr1)]) (by simp; omega)]
   cases d with
   | true =>
    have e1 : ∀ u : Bool, ∃ (l' : List y9) (b : Bool), (if u = true then (if (0 + l1.length) * 16 < 140737488355328 then some ([] ++ l1, false) else none) else some (o, true)) = some (l', b) ∧ l'.length ≤ l1.length + 1 := fun u => by
     rw [if_pos (show (0 + l1.length) * 16 < 140737488355328 by omega)]
     cases u
     ·exact ⟨_, _, rfl, by simp at ho; omega⟩
     ·exact ⟨_, _, rfl, by simp⟩
    simp only [Bool.not_true, Bool.false_eq_true, if_false]
    by_cases ha : z9 l1 id1 ≥ 0
    ·rw [if_pos ha]
     exact e1 true
    ·rw [if_neg ha]
     exact e1 _
   | false =>
    have e1 : ∀ u : Bool, ∃ (l' : List y9) (b : Bool), (if u = true then (if (0 + l1.length) * 16 < 140737488355328 then some ([] ++ l1, false) else none) else some (o ++ [(id1, fr1)], true)) = some (l', b) ∧ l'.length ≤ l1.length + 1 := fun u => by
     rw [if_pos (show (0 + l1.length) * 16 < 140737488355328 by omega)]
     cases u
     ·exact ⟨_, _, rfl, by simp at ho ⊢; omega⟩
     ·exact ⟨_, _, rfl, by simp⟩
    simp only [Bool.not_false, if_true]
    rw [if_pos (by omega)]
    by_cases ha : z9 l1 id1 ≥ 0
    ·rw [if_pos ha]
     exact e1 true
    ·rw [if_neg ha]
     exact e1 _
theorem y9i (vs : List yc) (n : ByteArray) (a s : Int) (f : Bool) (hv : vs.length ≤ 1000) (hN : ∀ v ∈ vs, ByteArray.size v.1 ≤ 60) (hn : n.size ≤ 60) : ∃ vs', Yd (vs, n, a, s, f) = some vs' ∧ vs'.length = vs.length + 1 ∧ ∀ v ∈ vs', ByteArray.size v.1 ≤ 60 := by
 unfold Yd WA
 simp only [List.nil_append, List.length_nil, List.length_append, List.length_cons]
 rw [if_pos (by omega), if_pos (by omega), w64 (by omega) (by omega)]
 refine jV (step := YG _) (fun u : Zn => u.1.toNat) (fun u => 0 ≤ u.1 ∧ u.1 ≤ vs.length ∧ u.2.1 = n ∧ u.2.2.2.2.2.length = vs.length + 1 ∧ ∀ v ∈ u.2.2.2.2.2, ByteArray.size v.1 ≤ 60) (fun _ (res : Option (List yc)) => ∃ vs' : List yc, res = some vs' ∧ vs'.length = vs.length + 1 ∧ ∀ v ∈ vs', ByteArray.size v.1 ≤ 60) ?_ (((vs.length + (0 + 1) : Nat) : Int) - 1, n, a, s, f, vs ++ [(n, a, s, f)]) ⟨by simp only; omega, by simp only; omega, rfl, by simp, fun v hv => ?_⟩ (by simp only; omega)
 ·rintro again ⟨k, n1, a1, s1, f1, o⟩ ⟨h0, h1, rfl, ho, hoN⟩ hag
  simp only at h0 h1 ho hoN hag ⊢
  unfold YG
  simp only [Bool.cond_eq_ite, decide_eq_true_eq]
  by_cases hk : k > 0
  ·have hw : Go.IntKind.wrap .i64 (k - 1) = k - 1 := w64 (by omega) (by omega)
   simp only [if_pos hk, hw, if_pos (show (0 : Int) ≤ k - 1 by omega), if_pos (show k - 1 < ((List.length o : Nat) : Int) by omega), if_pos h0, if_pos (show k < ((List.length o : Nat) : Int) by omega), Option.bind_some]
   split
   ·refine hag _ ⟨by simp only; omega, by simp only; omega, rfl, by simp only [List.length_set]; exact ho, fun v hv => ?_⟩ (by simp only; omega)
    rcases List.mem_or_eq_of_mem_set hv with h | rfl
    ·exact hoN v h
    ·exact hoN _ (yI yp o (k - 1) (by omega) (by omega))
   ·refine ⟨_, rfl, by rw [List.length_set]; exact ho, fun v hv => ?_⟩
    rcases List.mem_or_eq_of_mem_set hv with h | rfl
    ·exact hoN v h
    ·exact hn
  ·simp only [if_neg hk, Option.bind_some, Bool.false_eq_true, if_false, if_pos h0, if_pos (show k < ((List.length o : Nat) : Int) by omega)]
   refine ⟨_, rfl, by rw [List.length_set]; exact ho, fun v hv => ?_⟩
   rcases List.mem_or_eq_of_mem_set hv with h | rfl
   ·exact hoN v h
   ·exact hn
 ·rcases List.mem_append.1 hv with h | h
  ·exact hN v h
  ·rw [List.mem_singleton.1 h]
   exact hn
theorem y4F (cs : List y8) (n : Int) (hc : cs.length ≤ 1048576) : ∃ cs' i b, Y7 (cs, n) = some (cs', i, b) ∧ cs'.length = cs.length ∧ (b = true → 0 ≤ i ∧ i < cs.length) := by
 unfold Y7 Y6 kO
 simp only [List.nil_append, List.length_nil]
 rw [if_pos (by omega)]
 simp only [Option.bind_some]
 refine jV (step := zI _ _) (fun u : w5 => cs.length - u.2.2.1.toNat) (fun u => u.1 = cs ∧ 0 ≤ u.2.2.1 ∧ u.2.2.1 ≤ cs.length ∧ u.2.2.2 = cs) (fun _ (res : Option (List y8 × Int × Bool)) => ∃ (cs' : List y8) (i : Int) (b : Bool), res = some (cs', i, b) ∧ cs'.length = cs.length ∧ (b = true → 0 ≤ i ∧ i < cs.length)) ?_ (cs, n, 0, cs) ⟨rfl, Int.le_refl _, by simp, rfl⟩ (by simp; omega)
 ·rintro again ⟨l1, n1, i, o⟩ ⟨e1, h0, h1, e2⟩ hag
  simp only at e1 e2 h0 h1 hag ⊢
  subst e1
  subst e2
  unfold zI
  simp only [Bool.cond_eq_ite, decide_eq_true_eq, JP o hc, Vb, Option.bind_some]
  by_cases hi : i < (o.length : Int)
  ·have hw : Go.IntKind.wrap .i64 (i + 1) = i + 1 := w64 (by omega) (by omega)
   simp only [if_pos hi, if_pos h0, hw, List.length_set, Option.bind_some]
   split
   ·simp only [Option.bind_some]
    split
    ·split
     ·exact ⟨_, _, _, rfl, by simp, fun _ => ⟨h0, hi⟩⟩
     ·exact hag _ ⟨rfl, by simp only; omega, by simp only; omega, rfl⟩ (by simp only; omega)
    ·exact ⟨_, _, _, rfl, rfl, fun h => by cases h⟩
   ·simp only [Option.bind_some, Bool.false_eq_true, if_false]
    exact ⟨_, _, _, rfl, rfl, fun h => by cases h⟩
  ·simp only [if_neg hi, Option.bind_some, Bool.false_eq_true, if_false]
   exact ⟨_, _, _, rfl, rfl, fun h => by cases h⟩
end Go.Proofs.YtgediecndaheiaaGreat.Pl
namespace Go.Proofs.YtgediecndaheiaaGreat.Pl
open Go.Proofs.YtgediecndaheiaaGreat.R Go.Proofs.YtgediecndaheiaaGreat.XS
theorem SP.of {q : List yd} {t : List y0} {l : List y9} {cs : List y8} {vs : List yc} (h : TQ q t) (hl : l.length ≤ 1048576) (hc : cs.length ≤ 1048576) (hv : vs.length ≤ 1048576) (hN : ∀ v ∈ vs, ByteArray.size v.1 ≤ maxLen) : SP q t l cs vs :=
 ⟨⟨h.q, h.T.len, h.T.sum, hl, hc, hv⟩, hN⟩
theorem kC {n : Nat} (h : n ≤ 60) : n ≤ maxLen := Nat.le_trans h (by decide)
section
variable {q : List yd} {t : List y0} {l : List y9} {cs : List y8} {vs : List yc} (z : Int) (h : SP q t l cs vs)
include h
theorem yfc (n : ByteArray) (s : Int) (hn : n.size ≤ 60) : Res q t l cs vs z (YV (q, t, l, cs, vs, z, n, s)) := by
 unfold YV
 simp only [KF z h n (kC hn), W3 z h, zy q t l cs vs z n h.S.2.2.2.2.2, Z8, Option.bind_some, ycm, y9h]
 refine zL (P := Res q t l cs vs z) _ (fun _ => Res.same z _) fun hf => zL (P := Res q t l cs vs z) _ (fun _ => Res.same z _) fun _ => zL (P := Res q t l cs vs z) _ (fun _ => Res.same z _) fun _ => ?_
 have hp : yn q t l cs vs z = true := by
  unfold y7P at hf
  by_cases hc : yn q t l cs vs z = true ∧ Yf n = true
  ·exact hc.1
  ·rw [if_neg hc] at hf
   cases hf
 have hT := KW hp
 obtain ⟨l', b, e1, h1⟩ := qv l z 0 (by have := hT.ll; omega)
 obtain ⟨vs', e2, h2, h3⟩ := y9i vs n z s false (by have := hT.vl; omega) hT.N hn
 rw [e1]
 simp only [Option.bind_some]
 rw [e2]
 simp only [Option.bind_some]
 exact Res.fin z h (SP.of h.tq (by have := hT.ll; omega) h.S.2.2.2.2.1 (by have := hT.vl; omega) fun v hv => kC (h3 v hv)) b
theorem yll (n m : ByteArray) (f : Bool) (hn : n.size ≤ 60) (hm : m.size ≤ 60) : Res q t l cs vs z (jv (q, t, l, cs, vs, z, n, m, f)) := by
 unfold jv
 simp only [KF z h n (kC hn), W3 z h, zy q t l cs vs z _ h.S.2.2.2.2.2, J3 m (kC hm), Option.bind_some, ycm, y9h]
 cases hf : y7P q t l cs vs z n != 0 with
 | true =>
  simp only [cond_true, Option.bind_some]
  exact Res.same z _
 | false =>
 simp only [cond_false, Option.bind_some]
 have hp : yn q t l cs vs z = true := by
  unfold y7P at hf
  by_cases hc : yn q t l cs vs z = true ∧ Yf n = true
  ·exact hc.1
  ·rw [if_neg hc] at hf
   cases hf
 have hT := KW hp
 refine zL (P := Res q t l cs vs z) _ (fun _ => Res.same z _) fun _ => zL (P := Res q t l cs vs z) _ (fun _ => Res.same z _) fun hi => zL (P := Res q t l cs vs z) _ (fun _ => Res.same z _) fun _ => ?_
 have hi' : 0 ≤ yG vs n ∧ yG vs n < ((List.length vs : Nat) : Int) := by
  have := of_decide_eq_false hi
  have := YM vs n
  omega
 obtain ⟨l', b, e1, h1⟩ := qv l z (ya vs (yG vs n)).2.1 (by have := hT.ll; omega)
 obtain ⟨l2, b2, e2, h2⟩ := qv l' (Go.IntKind.wrap .i64 (z + 1)) (ya vs (yG vs n)).2.1 (by have := hT.ll; omega)
 obtain ⟨vs', e3, h3, h4⟩ := y9i (vs.set (Int.toNat (yG vs n)) ((ya vs (yG vs n)).1, z, (ya vs (yG vs n)).2.2)) m (Go.IntKind.wrap .i64 (z + 1)) (ya vs (yG vs n)).2.2.1 f (by rw [List.length_set]; have := hT.vl; omega) (fun v hv => by
  rcases List.mem_or_eq_of_mem_set hv with hv | rfl
  ·exact hT.N v hv
  ·exact hT.N (ya vs (yG vs n)) (yI yp vs _ hi'.1 hi'.2)) hm
 simp only [if_pos hi'.1, if_pos hi'.2]
 rw [e1]
 simp only [Option.bind_some]
 rw [e2]
 simp only [Option.bind_some]
 rw [e3]
 simp only [Option.bind_some]
 rw [List.length_set] at h3
 have hS : SP q t l2 cs vs' := SP.of h.tq (by have := hT.ll; omega) h.S.2.2.2.2.1 (by have := hT.vl; omega) fun v hv => kC (h4 v hv)
 cases b <;> simp only [cond_true, cond_false, Option.bind_some] <;> exact Res.fin z h hS _
theorem ylm (n : ByteArray) (hn : n.size ≤ 60) : Res q t l cs vs z (jw (q, t, l, cs, vs, z, n)) := by
 unfold jw
 simp only [y1a z h n (kC hn), W3 z h, zy q t l cs vs z _ h.S.2.2.2.2.2, Option.bind_some, ycm, y9h]
 refine zL (P := Res q t l cs vs z) _ (fun _ => Res.same z _) fun hf => ?_
 have hi : 0 ≤ yG vs n ∧ yG vs n < ((List.length vs : Nat) : Int) := by
  unfold yry at hf
  have := YM vs n
  by_cases hc : yn q t l cs vs z = true ∧ Yf n = true
  ·rw [if_pos hc] at hf
   by_cases hv : yG vs n < 0
   ·rw [if_pos hv] at hf
    cases hf
   ·omega
  ·rw [if_neg hc] at hf
   cases hf
 have hv := h.S.2.2.2.2.2
 have hw : Go.IntKind.wrap .i64 (yG vs n + 1) = yG vs n + 1 := w64 (by omega) (by omega)
 simp only [hw]
 rw [if_pos (Int.le_refl _), if_pos hi.1, if_pos (by omega), if_pos (by simp only [List.length_nil, List.length_drop, List.length_take]; omega), if_pos (by omega), if_pos (by omega), if_pos (Int.le_refl _), if_pos (by simp only [List.length_append, List.length_nil, List.length_drop, List.length_take]; omega)]
 refine Res.fin z h (SP.of h.tq h.S.2.2.2.1 h.S.2.2.2.2.1 (by simp only [List.length_append, List.length_nil, List.length_drop, List.length_take]; omega) fun v hv => ?_) true
 simp only [List.nil_append, List.mem_append] at hv
 rcases hv with hv | hv
 ·exact h.N v (List.mem_of_mem_take (List.mem_of_mem_drop hv))
 ·exact h.N v (List.mem_of_mem_take (List.mem_of_mem_drop hv))
theorem ycn (a b c d e : Int) : ∃ r q' t' cs', zx (q, t, l, cs, vs, z, a, b, c, d, e) = some (r, q', t', l, cs', vs, z) ∧ SP q' t' l cs' vs := by
 have hq := h.tq
 unfold zx
 simp only [Kr q t a b hq.T hq.q, JS q t a b c d e hq.T hq.Q hq.q, Option.bind_some]
 cases (yx q t (a, b, c, d, e)).2.2 with
 | false => exact ⟨_, _, _, _, rfl, h⟩
 | true =>
  unfold wB
  simp only [Bool.not_true, cond_false, KV cs _ h.S.2.2.2.2.1]
  have hT := Ka (a, b, c, d, e) hq
  have key : ∀ u : Bool, ∃ r q' t' cs', (Option.bind (bif u then Option.bind (some (y36 cs (Za q t a b).2.2.2.1)) fun r2 => some ((yx q t (a, b, c, d, e)).1, (yx q t (a, b, c, d, e)).2.1, l, r2, vs, z) else some ((yx q t (a, b, c, d, e)).1, (yx q t (a, b, c, d, e)).2.1, l, cs, vs, z)) fun r3 => some (true, r3.1, r3.2.1, r3.2.2.1, r3.2.2.2.1, r3.2.2.2.2.1, r3.2.2.2.2.2)) = some (r, q', t', l, cs', vs, z) ∧ SP q' t' l cs' vs := fun u => by
   cases u
   ·exact ⟨_, _, _, _, rfl, hT.sp h h.S.2.2.2.1 h.S.2.2.2.2.1⟩
   ·exact ⟨_, _, _, _, rfl, hT.sp h h.S.2.2.2.1 (by rw [y4A]; exact h.S.2.2.2.2.1)⟩
  cases (Za q t a b).2.2.2.2.2
  ·exact key false
  ·exact key ((Za q t a b).2.2.1 == 1)
theorem yhx (n : ByteArray) (b w : Int) (hn : n.size ≤ 60) : Res q t l cs vs z (Zp (q, t, l, cs, vs, z, n, b, w)) := by
 obtain ⟨cs', i, u, e1, h1, h2⟩ := y4F cs w h.S.2.2.2.2.1
 have hS : SP q t l cs' vs := SP.of h.tq h.S.2.2.2.1 (by rw [h1]; exact h.S.2.2.2.2.1) h.S.2.2.2.2.2 h.N
 have main : Z9 q t l cs vs z n b = 0 → Res q t l cs vs z (bif u then if (0 : Int) ≤ yG vs n then if yG vs n < ((List.length vs : Nat) : Int) then if (0 : Int) ≤ i then if i < ((List.length cs' : Nat) : Int) then Option.bind (zx (q, t, l, cs', vs, z, b, (ya vs (yG vs n)).2.1, (1 : Int), i, (yo cs' i).1)) fun r7 => yC (q, t, l, cs, vs, z, r7.2.1, r7.2.2.1, r7.2.2.2.1, r7.2.2.2.2.1, r7.2.2.2.2.2.1, r7.2.2.2.2.2.2, r7.1) else none else none else none else none else yC (q, t, l, cs, vs, z, q, t, l, cs', vs, z, false)) := by
  intro hb
  have hi : 0 ≤ yG vs n ∧ yG vs n < ((List.length vs : Nat) : Int) := by
   unfold Z9 at hb
   have := YM vs n
   by_cases hc : yn q t l cs vs z = true ∧ Yf n = true
   ·rw [if_pos hc] at hb
    by_cases hv : yG vs n < 0
    ·rw [if_pos hv] at hb
     cases hb
    ·omega
   ·rw [if_neg hc] at hb
    cases hb
  cases u with
  | false => exact Res.fin z h hS false
  | true =>
   have h3 := h2 rfl
   obtain ⟨r, q', t', cs2, e2, h4⟩ := ycn z hS b (ya vs (yG vs n)).2.1 1 i (yo cs' i).1
   simp only [cond_true, if_pos hi.1, if_pos hi.2, if_pos h3.1, if_pos (show i < ((List.length cs' : Nat) : Int) by rw [h1]; exact h3.2), e2, Option.bind_some]
   exact Res.fin z h h4 r
 unfold Zp
 simp only [wh z h n (kC hn), W3 z h, zy q t l cs vs z _ h.S.2.2.2.2.2, Vb, e1, Option.bind_some, ycm, y9h]
 cases hb : Z9 q t l cs vs z n b == 0 with
 | false =>
  have hne : (Z9 q t l cs vs z n b != 0) = true := by
   rw [bne, hb]
   rfl
  simp only [cond_false, Option.bind_some, hne, cond_true]
  exact Res.same z _
 | true =>
  have h0 : Z9 q t l cs vs z n b = 0 := by simpa using hb
  cases hw : isW w with
  | false =>
   simp only [cond_true, Option.bind_some, Bool.not_false, show ((4 : Int) != 0) = true from rfl]
   exact Res.same z _
  | true =>
   have hne : (Z9 q t l cs vs z n b != 0) = false := by
    rw [bne, hb]
    rfl
   simp only [cond_true, Option.bind_some, Bool.not_true, cond_false, hne]
   exact main h0
theorem Wi (i b : Int) (h0 : 0 ≤ i) (h1 : i < (vs.length : Int)) : ∃ r q' t' cs', Ym (q, t, l, cs, vs, z, i, b) = some (r, q', t', l, cs', vs, z) ∧ SP q' t' l cs' vs := by
 have hq := h.tq
 unfold Ym
 simp only [if_pos h0, if_pos h1, y1O q t l _ _ hq.T h.S.2.2.2.1, Kr q t _ _ hq.T hq.q, Option.bind_some, yxi, y9h]
 have key : ∀ u : Bool, ∃ r q' t' cs', (bif u then zx (q, t, l, cs, vs, z, b, (ya vs i).2.1, (2 : Int), (0 : Int), (0 : Int)) else bif (!(Za q t b (ya vs i).2.1).2.2.2.2.2) then some (true, q, t, l, cs, vs, z) else zx (q, t, l, cs, vs, z, b, (ya vs i).2.1, (0 : Int), (0 : Int), (0 : Int))) = some (r, q', t', l, cs', vs, z) ∧ SP q' t' l cs' vs := fun u => by
  cases u
  ·cases (Za q t b (ya vs i).2.1).2.2.2.2.2
   ·exact ⟨_, _, _, _, rfl, h⟩
   ·exact ycn z h _ _ _ _ _
  ·exact ycn z h _ _ _ _ _
 cases (ans (yc6 t l b (ya vs i).2.1)).2.2.2.2.2
 ·exact key false
 ·exact key _
theorem ydp (n : ByteArray) (b : Int) (hn : n.size ≤ 60) : Res q t l cs vs z (Yw (q, t, l, cs, vs, z, n, b)) := by
 unfold Yw
 simp only [wh z h n (kC hn), W3 z h, zy q t l cs vs z _ h.S.2.2.2.2.2, Option.bind_some, ycm, y9h]
 refine zL (P := Res q t l cs vs z) _ (fun _ => Res.same z _) fun hb => ?_
 have hi : 0 ≤ yG vs n ∧ yG vs n < ((List.length vs : Nat) : Int) := by
  unfold Z9 at hb
  have := YM vs n
  by_cases hc : yn q t l cs vs z = true ∧ Yf n = true
  ·rw [if_pos hc] at hb
   by_cases hv : yG vs n < 0
   ·rw [if_pos hv] at hb
    cases hb
   ·omega
  ·rw [if_neg hc] at hb
   cases hb
 obtain ⟨r, q', t', cs', e1, h1⟩ := Wi z h (yG vs n) b hi.1 hi.2
 rw [e1]
 exact Res.fin z h h1 r
omit h in
theorem yco {n : ByteArray} {b : Int} (hb : Z9 q t l cs vs z n b = 0) : (0 ≤ yG vs n ∧ yG vs n < ((List.length vs : Nat) : Int)) ∧ yn q t l cs vs z = true := by
 unfold Z9 at hb
 have := YM vs n
 by_cases hc : yn q t l cs vs z = true ∧ Yf n = true
 ·rw [if_pos hc] at hb
  by_cases hv : yG vs n < 0
  ·rw [if_pos hv] at hb
   cases hb
  ·exact ⟨by omega, hc.1⟩
 ·rw [if_neg hc] at hb
  cases hb
theorem yfd (n : ByteArray) (s : Int) (hn : n.size ≤ 60) : Res q t l cs vs z (YW (q, t, l, cs, vs, z, n, s)) := by
 have fin : ∀ (i : Int) (s : Int) (ok : Bool) (q' : List yd) (t' : List y0) (cs' : List y8), 0 ≤ i → i < (vs.length : Int) → SP q' t' l cs' vs → Res q t l cs vs z (if (0 : Int) ≤ i then if i < ((List.length vs : Nat) : Int) then yC (q, t, l, cs, vs, z, q', t', l, cs', List.set vs (Int.toNat i) ((ya vs i).1, (ya vs i).2.1, s, (ya vs i).2.2.2), z, ok) else none else none) := by
  intro i s ok q' t' cs' h0 h1 hS
  rw [if_pos h0, if_pos h1]
  refine Res.fin z h ⟨⟨hS.S.1, hS.S.2.1, hS.S.2.2.1, hS.S.2.2.2.1, hS.S.2.2.2.2.1, by rw [List.length_set]; exact h.S.2.2.2.2.2⟩, fun v hv => ?_⟩ ok
  rcases List.mem_or_eq_of_mem_set hv with hv | rfl
  ·exact h.N v hv
  ·exact h.N (ya vs i) (yI yp vs i h0 h1)
 have loop : ∀ (k0 : Int × Int × Bool × List yd × List y0 × List y9 × List y8 × List yc × Int × Int × Int × List yd × List y0 × List y9 × List y8 × List yc → Option P7a) (k1 : Int × Int × Bool × List yd × List y0 × List y9 × List y8 × List yc × Int × Int × List yd × List y0 × List y9 × Int × List y8 × List yc → Option P7a) (s i b : Int) (ok : Bool) (y : Int), 0 ≤ i → i < (vs.length : Int) → b ≤ 1000 → -1000 ≤ b → 0 ≤ s →
   (∀ ok q' t' cs', SP q' t' l cs' vs → Res q t l cs vs z (k0 (s, i, ok, q, t, l, cs, vs, z, y, z, q', t', l, cs', vs))) →
   (∀ ok q' t' cs', SP q' t' l cs' vs → Res q t l cs vs z (k1 (s, i, ok, q, t, l, cs, vs, z, y, q', t', l, z, cs', vs))) →
   Res q t l cs vs z (Zd k0 k1 (Sum.inl (s, i, ok, b, q, t, l, cs, vs, z, y, z, q, t, l, cs, vs))) := by
  intro k0 k1 s i b ok y h0 h1 hb hb0 hs f0 f1
  unfold Zd
  refine jV (step := Ye k0 k1) (fun u : jO => match u with | .inl u => (u.2.2.2.1 + 1).toNat + 1 | .inr u => (u.2.2.2.1 + 1).toNat)
   (fun u => match u with
    | .inl u => ∃ b ok q' t' cs', b ≤ 1000 ∧ -1000 ≤ b ∧ SP q' t' l cs' vs ∧ u = (s, i, ok, b, q, t, l, cs, vs, z, y, z, q', t', l, cs', vs)
    | .inr u => ∃ b ok q' t' cs', b ≤ 1000 ∧ -1001 ≤ b ∧ SP q' t' l cs' vs ∧ u = (s, i, ok, b, q, t, l, cs, vs, z, y, q', t', l, z, cs', vs))
   (fun _ res => Res q t l cs vs z res) ?_ _ ⟨b, ok, q, t, cs, hb, hb0, h, rfl⟩ (by simp only; omega)
  intro again u hu hag
  cases u with
  | inl u =>
   obtain ⟨b, ok, q', t', cs', k1', k2', hS, rfl⟩ := hu
   unfold Ye
   simp only at hag ⊢
   by_cases hbs : b ≥ s
   ·cases ok with
    | false =>
     simp only [decide_eq_true hbs, cond_true, Option.bind_some, cond_false]
     exact f0 _ _ _ _ hS
    | true =>
     obtain ⟨r, q2, t2, cs2, e1, h2⟩ := Wi z hS i b h0 h1
     have hw : Go.IntKind.wrap .i64 (b - 1) = b - 1 := w64 (by omega) (by omega)
     simp only [decide_eq_true hbs, cond_true, Option.bind_some, e1, hw]
     exact hag _ ⟨b - 1, r, q2, t2, cs2, by omega, by omega, h2, rfl⟩ (by simp only; omega)
   ·simp only [decide_eq_false hbs, cond_false, Option.bind_some]
    exact f0 _ _ _ _ hS
  | inr u =>
   obtain ⟨b, ok, q', t', cs', k1', k2', hS, rfl⟩ := hu
   unfold Ye
   simp only at hag ⊢
   by_cases hbs : b ≥ s
   ·cases ok with
    | false =>
     simp only [decide_eq_true hbs, cond_true, Option.bind_some, cond_false]
     exact f1 _ _ _ _ hS
    | true =>
     obtain ⟨r, q2, t2, cs2, e1, h2⟩ := Wi z hS i b h0 h1
     have hw : Go.IntKind.wrap .i64 (b - 1) = b - 1 := w64 (by omega) (by omega)
     simp only [decide_eq_true hbs, cond_true, Option.bind_some, e1, hw]
     exact hag _ ⟨b - 1, r, q2, t2, cs2, by omega, by omega, h2, rfl⟩ (by simp only; omega)
   ·simp only [decide_eq_false hbs, cond_false, Option.bind_some]
    exact f1 _ _ _ _ hS
 unfold YW
 simp only [wh z h n (kC hn), W3 z h, zy q t l cs vs z _ h.S.2.2.2.2.2, Z8, Option.bind_some, ycm, y9h]
 cases hb : Z9 q t l cs vs z n 0 == 0 with
 | false =>
  have hne : (Z9 q t l cs vs z n 0 != 0) = true := by
   rw [bne, hb]
   rfl
  simp only [cond_false, Option.bind_some, hne, cond_true]
  exact Res.same z _
 | true =>
  have h0 : Z9 q t l cs vs z n 0 = 0 := by simpa using hb
  cases hs : inR s 1 12 with
  | false =>
   simp only [cond_true, Option.bind_some, Bool.not_false, show ((4 : Int) != 0) = true from rfl]
   exact Res.same z _
  | true =>
   have hne : (Z9 q t l cs vs z n 0 != 0) = false := by
    rw [bne, hb]
    rfl
   simp only [cond_true, Option.bind_some, Bool.not_true, cond_false, hne]
   obtain ⟨hi, hp⟩ := yco z h0
   rw [if_pos hi.1, if_pos hi.2]
   have hs' := zp.1 hs
   have hr : 1 ≤ (ya vs (yG vs n)).2.2.1 ∧ (ya vs (yG vs n)).2.2.1 ≤ 12 := by
    unfold yn at hp
    simp only [Bool.and_eq_true] at hp
    have hv := hp.2.2.2.2.2.1
    unfold wk at hv
    simp only [Bool.and_eq_true, Bool.not_eq_true'] at hv
    obtain ⟨j, hj⟩ := kr _ vs 0 hv.1 _ (yI yp vs _ hi.1 hi.2)
    unfold yc1 at hj
    simp only [Bool.or_eq_false_iff, Bool.not_eq_false', zp] at hj
    exact hj.2.1
   have hw : Go.IntKind.wrap .i64 ((ya vs (yG vs n)).2.2.1 - 1) = (ya vs (yG vs n)).2.2.1 - 1 := w64 (by omega) (by omega)
   rw [hw]
   exact loop _ _ s (yG vs n) _ true 0 hi.1 hi.2 (by omega) (by omega) (by omega) (fun ok q' t' cs' hS => fin _ s ok q' t' cs' hi.1 hi.2 hS) (fun ok q' t' cs' hS => fin _ s ok q' t' cs' hi.1 hi.2 hS)
end
end Go.Proofs.YtgediecndaheiaaGreat.Pl
namespace Go.Proofs.YtgediecndaheiaaGreat.Pl
open Go.Proofs.YtgediecndaheiaaGreat.R Go.Proofs.YtgediecndaheiaaGreat.XS
def YX (cs : List y8) : Int := zX (fun c : y8 => !c.2.1) cs 0
def yb3 (cs : List y8) (n : Int) : List y8 × Int × Bool :=
 if zA cs = true ∧ isW n = true ∧ ¬ YX cs < 0 then (cs.set (YX cs).toNat ((cs.getD (YX cs).toNat yS).1, true, n), YX cs, true) else (cs, 0, false)
theorem y0x {cs : List y8} (h : ¬ YX cs < 0) : 0 ≤ YX cs ∧ YX cs < (cs.length : Int) ∧ (cs.getD (YX cs).toNat yS).2.1 = false := by
 rcases YJ (fun c : y8 => !c.2.1) yS cs 0 (Int.le_refl _) with h1 | ⟨h1, h2, h3⟩
 ·exact absurd (show YX cs < 0 by unfold YX; omega) h
 ·rw [Int.sub_zero] at h3
  refine ⟨h1, by show zX (fun c : y8 => !c.2.1) cs 0 < _; omega, ?_⟩
  have : (!(cs.getD (YX cs).toNat yS).2.1) = true := h3
  simpa using this
theorem y9j (cs : List y8) (n : Int) : (yb3 cs n).1.length = cs.length := by
 unfold yb3
 split <;> simp
theorem y5g (cs : List y8) (hc : cs.length ≤ 1048576) : kg cs = some (YX cs) := by
 unfold kg y00
 refine (YU (step := JN _ _) (fun i => (cs, (cs.length : Int), i)) (fun c : y8 => !c.2.1) (fun i => some i) (some (-1)) yS cs (by omega) ?_ ?_).trans ?_
 ·intro again i h0 h1
  have hw : Go.IntKind.wrap .i64 (i + 1) = i + 1 := w64 (by omega) (by omega)
  unfold JN
  have hx : cs.getD i.toNat yS = yo cs i := rfl
  rw [hx]
  simp only [Bool.cond_eq_ite, decide_eq_true_eq, h0, h1, if_true, hw]
 ·intro again i hi
  unfold JN
  simp only [Bool.cond_eq_ite, decide_eq_true_eq, if_neg hi]
 ·unfold YX
  rcases y3A (fun c : y8 => !c.2.1) cs 0 with h | ⟨h, _⟩
  ·rw [h]
   rfl
  ·rw [if_neg (by omega)]
theorem y9k (cs : List y8) (i : Int) (n : Int) (h0 : 0 ≤ i) (h1 : i < (cs.length : Int)) :
  (List.set (List.set cs (Int.toNat i) ((yo cs i).1, true, (yo cs i).2.2)) (Int.toNat i) ((yo (List.set cs (Int.toNat i) ((yo cs i).1, true, (yo cs i).2.2)) i).1, (yo (List.set cs (Int.toNat i) ((yo cs i).1, true, (yo cs i).2.2)) i).2.1, n)) = cs.set i.toNat ((cs.getD i.toNat yS).1, true, n) := by
 have hr : yo (List.set cs (Int.toNat i) ((yo cs i).1, true, (yo cs i).2.2)) i = ((yo cs i).1, true, (yo cs i).2.2) := by
  show (List.set cs (Int.toNat i) ((yo cs i).1, true, (yo cs i).2.2)).getD i.toNat yS = _
  rw [List.getD_eq_getElem?_getD, List.getElem?_set_self (by omega)]
  rfl
 rw [hr, List.set_set]
 rfl
theorem y1b {cs : List y8} {n : Int} (h : ¬ (zA cs = true ∧ isW n = true ∧ ¬ YX cs < 0)) : yb3 cs n = (cs, 0, false) := if_neg h
theorem y3C {cs : List y8} {n : Int} (h : zA cs = true ∧ isW n = true ∧ ¬ YX cs < 0) : yb3 cs n = (cs.set (YX cs).toNat ((cs.getD (YX cs).toNat yS).1, true, n), YX cs, true) := if_pos h
theorem y38 (cs : List y8) (n : Int) (hc : cs.length ≤ 1048576) : jh (cs, n) = some (yb3 cs n) := by
 have e1 : zG cs = some cs := by
  unfold zG
  rw [if_pos (by simp only [List.length_nil]; omega)]
  rfl
 unfold jh
 simp only [e1, y5g cs hc, y4h, Vc cs hc, Option.bind_some]
 by_cases hf : YX cs < 0
 ·rw [y1b fun h => h.2.2 hf]
  simp only [decide_eq_true hf, cond_true, Option.bind_some]
 ·obtain ⟨f0, f1, _⟩ := y0x hf
  simp only [decide_eq_false hf, cond_false, Option.bind_some]
  cases hw : isW n with
  | false =>
   rw [y1b fun h => by rw [hw] at h; exact Bool.noConfusion h.2.1]
   rfl
  | true =>
   simp only [Bool.not_true, cond_false, Option.bind_some]
   cases hk : zA cs with
   | false =>
    rw [y1b fun h => by rw [hk] at h; exact Bool.noConfusion h.1]
    rfl
   | true =>
    rw [y3C ⟨hk, hw, hf⟩]
    simp only [Bool.not_true, cond_false, List.length_set, if_pos f0, if_pos f1, y9k cs _ n f0 f1]
theorem y39 (cs : List y8) (n : Int) (hc : cs.length ≤ 1048576) : Y7 (cs, n) = some (yb3 cs n) := by
 have e1 : Y6 cs = some cs := by
  unfold Y6
  rw [if_pos (by simp only [List.length_nil]; omega)]
  rfl
 unfold Y7 kO
 simp only [e1, Option.bind_some]
 by_cases hok : zA cs = true ∧ isW n = true
 ·refine (YU (step := zI _ _) (fun i => (cs, n, i, cs)) (fun c : y8 => !c.2.1) (fun i => some (cs.set i.toNat ((cs.getD i.toNat yS).1, true, n), i, true)) (some (cs, 0, false)) yS cs (by omega) ?_ ?_).trans ?_
  ·intro again i h0 h1
   have hw : Go.IntKind.wrap .i64 (i + 1) = i + 1 := w64 (by omega) (by omega)
   unfold zI
   have hx : cs.getD i.toNat yS = yo cs i := rfl
   have hs := y9k cs i n h0 h1
   rw [hx] at hs ⊢
   simp only [Bool.cond_eq_ite, decide_eq_true_eq, h0, h1, if_true, hw, JP cs hc, Vb, hok.1, hok.2, Option.bind_some, List.length_set, hs]
  ·intro again i hi
   unfold zI
   simp only [Bool.cond_eq_ite, decide_eq_true_eq, if_neg hi, Option.bind_some, Bool.false_eq_true, if_false]
  ·show (if YX cs < 0 then _ else _) = _
   by_cases hf : YX cs < 0
   ·rw [if_pos hf, y1b fun h => h.2.2 hf]
   ·rw [if_neg hf, y3C ⟨hok.1, hok.2, hf⟩]
    rfl
 ·rw [y1b fun h => hok ⟨h.1, h.2.1⟩]
  refine ZD (step := zI _ _) (fun _ => 0) (fun u => u = (cs, n, 0, cs)) (fun _ => some (cs, 0, false)) ?_ _ rfl (by decide)
  rintro again u rfl _
  unfold zI
  simp only [JP cs hc, Vb, Option.bind_some]
  cases hk : zA cs with
  | false => cases decide ((0 : Int) < (cs.length : Int)) <;> rfl
  | true =>
   have hw : isW n = false := by
    cases hw : isW n with
    | false => rfl
    | true => exact absurd ⟨hk, hw⟩ hok
   rw [hw]
   cases decide ((0 : Int) < (cs.length : Int)) <;> rfl
def y9l (q : List Int) (t : List y0) (i : Int) : List Int × List y0 := (q, t.set i.toNat (yU (yE (ye t i))))
theorem y9m (q : List Int) (t : List y0) (i : Int) (h : TS t) (hq : q.length ≤ 1048576) (h0 : 0 ≤ i) (h1 : i < (t.length : Int)) : Jt (q, t, i) = some (y9l q t i) := by
 have ht := h.ok.len
 have hN := nk h h0 h1
 have hk := hN.keys
 have hm : Go.IntKind.wrap .i64 ((t.length : Int) - 1) = (t.length : Int) - 1 := w64 (by omega) (by omega)
 unfold Jt WP
 simp only [VP q t hq (by omega) (fun n hn => (h.node n hn).q), Z8, hm, Option.bind_some]
 rw [zp.2 ⟨h0, by omega⟩, cond_true, if_pos h0, if_pos h1, Vf h h0 h1]
 simp only [Option.bind_some]
 rw [JR _ (by omega)]
 simp only [Option.bind_some]
 rw [if_pos h0, if_pos h1]
 rfl
end Go.Proofs.YtgediecndaheiaaGreat.Pl
namespace Go.Proofs.YtgediecndaheiaaGreat.Pl
open Go.Proofs.YtgediecndaheiaaGreat.R Go.Proofs.YtgediecndaheiaaGreat.XS
theorem y2s : ∀ (a b c : List UInt8), Go.Op.bytesLess a b = true → Go.Op.bytesLess b c = true → Go.Op.bytesLess a c = true
 | _, [], _, h, _ => by simp [Go.Op.bytesLess] at h
 | _, _ :: _, [], _, h => by simp [Go.Op.bytesLess] at h
 | [], _ :: _, _ :: _, _, _ => by simp [Go.Op.bytesLess]
 | x :: a, y :: b, z :: c, h1, h2 => by
  simp only [Go.Op.bytesLess, Bool.or_eq_true, Bool.and_eq_true, decide_eq_true_eq, beq_iff_eq] at *
  rcases h1 with h1 | ⟨rfl, h1⟩
  ·rcases h2 with h2 | ⟨rfl, h2⟩
   ·exact .inl (UInt8.lt_trans h1 h2)
   ·exact .inl h1
  ·rcases h2 with h2 | ⟨rfl, h2⟩
   ·exact .inl h2
   ·exact .inr ⟨rfl, y2s a b c h1 h2⟩
def y1c (n : ByteArray) (v : yc) : Bool := !(Go.Op.bytesLess (ByteArray.toList v.1) (ByteArray.toList n) || (ByteArray.toList v.1) == (ByteArray.toList n))
theorem yln {n : ByteArray} {u v : yc} (h : Go.Op.bytesLess (ByteArray.toList u.1) (ByteArray.toList v.1) = true) (hu : y1c n u = true) : y1c n v = true := by
 unfold y1c at *
 simp only [Bool.not_eq_true', Bool.or_eq_false_iff, beq_eq_false_iff_ne, ne_eq] at *
 refine ⟨?_, fun e => ?_⟩
 ·cases hb : Go.Op.bytesLess (ByteArray.toList v.1) (ByteArray.toList n) with
  | false => rfl
  | true => rw [y2s _ _ _ h hb] at hu; exact absurd hu.1 (by simp)
 ·rw [e] at h
  rw [h] at hu
  exact absurd hu.1 (by simp)
def qw (n : y9) : List y9 → List y9
 | [] => [n]
 | a :: l => if a.1 > n.1 then n :: a :: l else a :: qw n l
def y0g (id : Int) : List y9 → Nat
 | [] => 0
 | a :: l => if a.1 > id then 0 else y0g id l + 1
theorem y9n (id : Int) : ∀ l : List y9, y0g id l ≤ l.length
 | [] => Nat.le_refl _
 | a :: l => by
  have := y9n id l
  rw [y0g]
  split <;> simp <;> omega
theorem yfe (n : y9) : ∀ l : List y9, l.take (y0g n.1 l) ++ ([n] ++ l.drop (y0g n.1 l)) = qw n l
 | [] => rfl
 | a :: l => by
  rw [y0g, qw]
  split
  ·rfl
  ·rw [List.take_succ_cons, List.drop_succ_cons, List.cons_append, yfe n l]
theorem y2t (n : y9) : ∀ l : List y9, (qw n l).length = l.length + 1
 | [] => rfl
 | a :: l => by
  have := y2t n l
  rw [qw]
  split <;> simp [this]
def Kb (l : List y9) (id fr : Int) : List y9 × Bool := if 0 ≤ z9 l id ∨ ji (qw (id, fr) l) = false then (l, false) else (qw (id, fr) l, true)
theorem y0U (l : List y9) (id fr : Int) (hl : l.length ≤ 1000) : wc (l, id, fr) = some (Kb l id fr) := by
 unfold wc QV
 refine (ZD (step := WZ _) (fun x : JF => l.length - x.2.2.2.toNat) (fun x => ∃ j : Int, x = (l, id, fr, j) ∧ 0 ≤ j ∧ j ≤ l.length) (fun x => (fun x2 : JF => Option.bind (zS x2.1) fun r3 => Option.bind (zY (r3, x2.2.2.2, ([(x2.2.1, x2.2.2.1)] : List y9))) fun r4 => Option.bind (YB (x2.1, x2.2.1)) fun r5 => Option.bind (bif (decide (r5 ≥ (0 : Int))) then some true else Option.bind (jA r4) fun r7 => some (!r7)) fun u6 => bif u6 then Option.bind (zS x2.1) fun r8 => some (r8, false) else some (r4, true)) (l, id, fr, x.2.2.2 + (y0g id (l.drop x.2.2.2.toNat) : Nat))) ?_ _ ⟨0, rfl, Int.le_refl _, by omega⟩ (by simp only; omega)).trans ?_
 ·rintro again x ⟨j, rfl, j0, j1⟩ hag
  unfold WZ
  by_cases hj : j < (l.length : Int)
  ·have hw : Go.IntKind.wrap .i64 (j + 1) = j + 1 := w64 (by omega) (by omega)
   have hd : l.drop j.toNat = yM l j :: l.drop (j.toNat + 1) := by
    rw [List.drop_eq_getElem_cons (by omega)]
    congr 1
    show _ = l.getD j.toNat zc
    simp [show j.toNat < l.length by omega]
   simp only [decide_eq_true hj, cond_true, if_pos j0, if_pos hj, Option.bind_some, hw]
   rw [hd, y0g]
   by_cases ha : (yM l j).1 ≤ id
   ·rw [decide_eq_true ha, cond_true, if_neg (by omega), hag _ ⟨j + 1, rfl, by omega, by omega⟩ (by simp only; omega)]
    simp only
    rw [show (j + 1).toNat = j.toNat + 1 by omega, show j + 1 + ((y0g id (l.drop (j.toNat + 1)) : Nat) : Int) = j + ((y0g id (l.drop (j.toNat + 1)) + 1 : Nat) : Int) by omega]
   ·rw [decide_eq_false ha, cond_false, if_pos (by omega)]
    simp
  ·have hd : l.drop j.toNat = [] := List.drop_eq_nil_of_le (by omega)
   simp only [decide_eq_false hj, cond_false, Option.bind_some, hd, y0g]
   simp
 ·have hp := y9n id l
  simp only [Int.toNat_zero, List.drop_zero, Int.zero_add, y2q l (by omega), Option.bind_some]
  unfold zY
  simp only
  rw [if_pos (by omega), if_pos (by omega), if_pos (show List.length ([(id, fr)] : List y9) = 1 from rfl), if_pos (by omega)]
  simp only [Option.bind_some, Int.toNat_natCast, yfe (id, fr) l, ko l id (by omega), y0Q (qw (id, fr) l) (by rw [y2t]; omega)]
  unfold Kb
  by_cases ha : 0 ≤ z9 l id
  ·rw [if_pos (.inl ha), decide_eq_true (show z9 l id ≥ 0 from ha)]
   rfl
  ·rw [decide_eq_false (show ¬ z9 l id ≥ 0 from ha)]
   cases hb : ji (qw (id, fr) l) with
   | false => rw [if_pos (.inr rfl)]; rfl
   | true => rw [if_neg (by simp [ha])]; rfl
end Go.Proofs.YtgediecndaheiaaGreat.Pl
namespace Go.Proofs.YtgediecndaheiaaGreat.Pl
open Go.Proofs.YtgediecndaheiaaGreat.R Go.Proofs.YtgediecndaheiaaGreat.XS
def jj (v : yc) : List yc → List yc
 | [] => [v]
 | u :: r => if y1c v.1 u = true then v :: u :: r else u :: jj v r
theorem vg (v : yc) : ∀ l : List yc, (jj v l).length = l.length + 1
 | [] => rfl
 | u :: r => by
  have := vg v r
  rw [jj]
  split <;> simp [this]
theorem y9o (v : yc) : ∀ (l : List yc) (i : Nat), i ≤ l.length → (∀ j, j < i → y1c v.1 (l.getD j yp) = false) → (i < l.length → y1c v.1 (l.getD i yp) = true) → jj v l = l.take i ++ v :: l.drop i
 | [], i, hi, _, _ => by
  have : i = 0 := by simpa using hi
  subst this
  rfl
 | u :: r, 0, _, _, h2 => by
  have := h2 (by simp)
  rw [jj, if_pos (by simpa using this)]
  rfl
 | u :: r, i + 1, hi, h1, h2 => by
  have := h1 0 (by omega)
  rw [jj, if_neg (by simpa using this), y9o v r i (by simpa using hi) (fun j hj => by simpa using h1 (j + 1) (by omega)) (fun h => by simpa using h2 (by simpa using h))]
  rfl
def yiV (l : List yc) : Prop := ∀ j, j + 1 < l.length → Go.Op.bytesLess (ByteArray.toList (l.getD j yp).1) (ByteArray.toList (l.getD (j + 1) yp).1) = true
theorem ycp {l : List yc} (h : yiV l) (n : ByteArray) {j : Nat} : ∀ k : Nat, j + k < l.length → y1c n (l.getD j yp) = true → y1c n (l.getD (j + k) yp) = true
 | 0, _, ho => ho
 | k + 1, hk, ho => yln (h (j + k) hk) (ycp h n k (by omega) ho)
theorem yff {A : Type} : ∀ (X : List A) (y z : A) (Y : List A), (X ++ y :: Y).set X.length z = X ++ z :: Y
 | [], _, _, _ => rfl
 | x :: X, y, z, Y => by
  have := yff X y z Y
  simpa using this
theorem yCM {n : Nat} (h : n ≤ 1001) : (n + 1) * 40 < 140737488355328 := by omega
theorem yCN {n : Nat} (h : n ≤ 1001) : (n + 1 + 1) * 40 < 140737488355328 := by omega
theorem y2u (vs : List yc) (n : ByteArray) (a s : Int) (f : Bool) (hv : vs.length ≤ 1000) : jT (vs, n, a, s, f) = some (jj (n, a, s, f) vs) := by
 unfold jT Vv
 refine jV (step := J9 _) (fun x : J8 => vs.length - x.2.2.2.1.toNat)
  (fun x => ∃ (j : Int) (dn : Bool) (acc : List yc), x = (dn, vs, (vs.length : Int), j, n, a, s, f, acc) ∧ 0 ≤ j ∧ j ≤ vs.length ∧ acc.length ≤ 1001 ∧ (dn = true → acc ++ vs.drop j.toNat = jj (n, a, s, f) vs) ∧ (dn = false → acc ++ jj (n, a, s, f) (vs.drop j.toNat) = jj (n, a, s, f) vs))
  (fun _ res => res = some (jj (n, a, s, f) vs)) ?_ _ ⟨0, false, [], rfl, Int.le_refl _, by omega, by simp, fun h => Bool.noConfusion h, fun _ => by simp⟩ (by simp only; omega)
 rintro again x ⟨j, dn, acc, rfl, j0, j1, hl2, hd1, hd2⟩ hag
 have hL := vg (n, a, s, f) vs
 unfold J9
 by_cases hj : j < (vs.length : Int)
 ·have hw : Go.IntKind.wrap .i64 (j + 1) = j + 1 := w64 (by omega) (by omega)
  have hd : vs.drop j.toNat = ya vs j :: vs.drop (j.toNat + 1) := by
   rw [List.drop_eq_getElem_cons (by omega)]
   congr 1
   show _ = vs.getD j.toNat yp
   simp [show j.toNat < vs.length by omega]
  have hjn : (j + 1).toNat = j.toNat + 1 := by omega
  have heta : ((ya vs j).1, (ya vs j).2.1, (ya vs j).2.2.1, (ya vs j).2.2.2) = ya vs j := rfl
  have h1 := yCM hl2
  have h2 := yCN hl2
  have hap : ∀ a b : yc, (acc ++ [a]) ++ [b] ++ vs.drop (j.toNat + 1) = acc ++ (a :: b :: vs.drop (j.toNat + 1)) := fun a b => by simp only [List.append_assoc, List.cons_append, List.nil_append]
  have hap1 : ∀ (a : yc) (m : List yc), (acc ++ [a]) ++ m = acc ++ (a :: m) := fun a m => by simp only [List.append_assoc, List.cons_append, List.nil_append]
  rw [hd] at hd1 hd2
  cases dn with
  | true =>
   have h3 := hd1 rfl
   simp only [decide_eq_true hj, cond_true, if_pos j0, if_pos hj, Option.bind_some, hw, Bool.not_true, cond_false, List.length_cons, List.length_nil, Nat.zero_add, heta, if_pos h1]
   have h4 := congrArg List.length h3
   rw [List.length_append, List.length_cons, List.length_drop] at h4
   refine hag _ ⟨j + 1, true, acc ++ [ya vs j], rfl, by omega, by omega, by rw [List.length_append]; simp only [List.length_cons, List.length_nil]; omega, fun h => ?_, fun h => Bool.noConfusion h⟩ (by simp only; omega)
   rw [hjn, ← h3]
   exact hap1 _ _
  | false =>
   have h3 := hd2 rfl
   have h4 := congrArg List.length h3
   rw [List.length_append, vg, List.length_cons, List.length_drop] at h4
   rw [jj] at h3
   have hov : (!(Go.Op.bytesLess (ByteArray.toList ((ya vs j).1)) (ByteArray.toList n) || (ByteArray.toList ((ya vs j).1)) == (ByteArray.toList n))) = y1c n (ya vs j) := rfl
   simp only [decide_eq_true hj, cond_true, if_pos j0, if_pos hj, Option.bind_some, hw, Bool.not_false, List.length_cons, List.length_nil, Nat.zero_add, List.length_append, heta, if_pos h1, if_pos h2, hov]
   cases ho : y1c n (ya vs j) with
   | true =>
    rw [if_pos ho] at h3
    rw [cond_true]
    refine hag _ ⟨j + 1, true, _, rfl, by omega, by omega, by simp only [List.length_append, List.length_cons, List.length_nil]; omega, fun _ => ?_, fun h => Bool.noConfusion h⟩ (by simp only; omega)
    rw [hjn, ← h3]
    exact hap _ _
   | false =>
    rw [if_neg (by rw [ho]; exact Bool.false_ne_true)] at h3
    rw [cond_false]
    refine hag _ ⟨j + 1, false, _, rfl, by omega, by omega, by simp only [List.length_append, List.length_cons, List.length_nil]; omega, fun h => Bool.noConfusion h, fun _ => ?_⟩ (by simp only; omega)
    rw [hjn, ← h3]
    exact hap1 _ _
 ·have hd : vs.drop j.toNat = [] := List.drop_eq_nil_of_le (by omega)
  rw [hd] at hd1 hd2
  simp only [decide_eq_false hj, cond_false]
  cases dn with
  | true =>
   simp only [Bool.not_true, cond_false]
   rw [← hd1 rfl, List.append_nil]
  | false =>
   have h1 : (List.length acc + List.length ([(n, a, s, f)] : List yc)) * 40 < 140737488355328 := by simp only [List.length_cons, List.length_nil]; omega
   simp only [Bool.not_false, cond_true, if_pos h1]
   rw [← hd2 rfl]
   rfl
theorem y0V (vs : List yc) (n : ByteArray) (a s : Int) (f : Bool) (hv : vs.length ≤ 1000) (hs : yiV vs) : Yd (vs, n, a, s, f) = some (jj (n, a, s, f) vs) := by
 unfold Yd WA
 have h1 : (List.length ([] : List yc) + List.length vs) * 40 < 140737488355328 := by simp only [List.length_nil]; omega
 have h2 : (List.length (([] : List yc) ++ vs) + List.length ([(n, a, s, f)] : List yc)) * 40 < 140737488355328 := by simp only [List.nil_append, List.length_cons, List.length_nil]; omega
 simp only
 rw [if_pos h1, if_pos h2]
 simp only [List.nil_append]
 have hw0 : Go.IntKind.wrap .i64 ((((vs ++ [(n, a, s, f)]).length : Nat) : Int) - 1) = (vs.length : Int) := by
  rw [List.length_append, w64 (by simp only [List.length_cons, List.length_nil]; omega) (by simp only [List.length_cons, List.length_nil]; omega)]
  simp only [List.length_cons, List.length_nil]
  omega
 rw [hw0]
 refine jV (step := YG _) (fun x : Zn => x.1.toNat)
  (fun x => ∃ (j : Int) (u : yc), x = (j, n, a, s, f, vs.take j.toNat ++ u :: vs.drop j.toNat) ∧ 0 ≤ j ∧ j ≤ vs.length ∧ (j < vs.length → y1c n (vs.getD j.toNat yp) = true))
  (fun _ res => res = some (jj (n, a, s, f) vs)) ?_ _ ⟨(vs.length : Int), (n, a, s, f), by rw [Int.toNat_natCast, List.take_length, List.drop_length], by omega, Int.le_refl _, fun h => absurd h (Int.lt_irrefl _)⟩ (by simp only; omega)
 rintro again x ⟨j, u, rfl, j0, j1, ho⟩ hag
 have hxl : (vs.take j.toNat ++ u :: vs.drop j.toNat).length = vs.length + 1 := by
  simp only [List.length_append, List.length_take, List.length_cons, List.length_drop]
  omega
 have htl : (vs.take j.toNat).length = j.toNat := by rw [List.length_take]; omega
 have hset : ∀ y : yc, (vs.take j.toNat ++ u :: vs.drop j.toNat).set j.toNat y = vs.take j.toNat ++ y :: vs.drop j.toNat := fun y => by
  have := yff (vs.take j.toNat) u y (vs.drop j.toNat)
  rwa [htl] at this
 unfold YG
 have done : (0 < j → y1c n (vs.getD (j.toNat - 1) yp) = false) → some (vs.take j.toNat ++ (n, a, s, f) :: vs.drop j.toNat) = some (jj (n, a, s, f) vs) := fun hlast => by
  rw [y9o (n, a, s, f) vs j.toNat (by omega) (fun i hi => ?_) (fun h => ho (by omega))]
  cases hov : y1c n (vs.getD i yp) with
  | false => rfl
  | true =>
   have := ycp hs n (j := i) (j.toNat - 1 - i) (by omega) hov
   rw [show i + (j.toNat - 1 - i) = j.toNat - 1 by omega, hlast (by omega)] at this
   cases this
 by_cases hj : j > 0
 ·have hw : Go.IntKind.wrap .i64 (j - 1) = j - 1 := w64 (by omega) (by omega)
  have hrd : ya (vs.take j.toNat ++ u :: vs.drop j.toNat) (j - 1) = vs.getD (j.toNat - 1) yp := by
   show (vs.take j.toNat ++ u :: vs.drop j.toNat).getD (j - 1).toNat yp = _
   rw [show (j - 1).toNat = j.toNat - 1 by omega, List.getD_eq_getElem?_getD, List.getD_eq_getElem?_getD, List.getElem?_append_left (by rw [htl]; omega), List.getElem?_take, if_pos (by omega)]
  have hov : (!(Go.Op.bytesLess (ByteArray.toList ((vs.getD (j.toNat - 1) yp).1)) (ByteArray.toList n) || (ByteArray.toList ((vs.getD (j.toNat - 1) yp).1)) == (ByteArray.toList n))) = y1c n (vs.getD (j.toNat - 1) yp) := rfl
  have heta : ((vs.getD (j.toNat - 1) yp).1, (vs.getD (j.toNat - 1) yp).2.1, (vs.getD (j.toNat - 1) yp).2.2.1, (vs.getD (j.toNat - 1) yp).2.2.2) = vs.getD (j.toNat - 1) yp := rfl
  simp only [decide_eq_true hj, cond_true, hw, if_pos (show (0 : Int) ≤ j - 1 by omega), if_pos (show j - 1 < ((List.length (vs.take j.toNat ++ u :: vs.drop j.toNat) : Nat) : Int) by rw [hxl]; omega), if_pos j0, if_pos (show j < ((List.length (vs.take j.toNat ++ u :: vs.drop j.toNat) : Nat) : Int) by rw [hxl]; omega), hrd, hov, heta, hset, Option.bind_some]
  cases hb : y1c n (vs.getD (j.toNat - 1) yp) with
  | true =>
   rw [cond_true]
   have e1 : vs.take j.toNat = vs.take (j - 1).toNat ++ [vs.getD (j.toNat - 1) yp] := by
    rw [show j.toNat = (j.toNat - 1) + 1 by omega, List.take_succ, show (j - 1).toNat = j.toNat - 1 by omega]
    congr 1
    rw [List.getElem?_eq_getElem (by omega), Nat.add_sub_cancel]
    simp [show j.toNat - 1 < vs.length by omega]
   have e2 : vs.drop (j - 1).toNat = vs.getD (j.toNat - 1) yp :: vs.drop j.toNat := by
    rw [List.drop_eq_getElem_cons (by omega), show (j - 1).toNat + 1 = j.toNat by omega]
    congr 1
    simp [show (j - 1).toNat = j.toNat - 1 by omega, show j.toNat - 1 < vs.length by omega]
   refine hag _ ⟨j - 1, vs.getD (j.toNat - 1) yp, ?_, by omega, by omega, fun _ => by rw [show (j - 1).toNat = j.toNat - 1 by omega]; exact hb⟩ (by simp only; omega)
   rw [e1, e2, List.append_assoc]
   rfl
  | false =>
   rw [cond_false]
   exact done fun _ => hb
 ·simp only [decide_eq_false hj, cond_false, Option.bind_some, if_pos j0, if_pos (show j < ((List.length (vs.take j.toNat ++ u :: vs.drop j.toNat) : Nat) : Int) by rw [hxl]; omega), hset]
  exact done fun h => absurd h hj
theorem yhy {vs : List yc} {l : List y9} (h : wk vs l = true) : yiV vs := by
 intro j hj
 unfold wk at h
 simp only [Bool.and_eq_true, Bool.not_eq_true'] at h
 have := kq yp vs 0 h.1 (j + 1) hj
 unfold yc1 at this
 simp only [Bool.or_eq_false_iff, Bool.not_eq_false', Bool.and_eq_false_iff] at this
 rcases this.2.2.2.2.1 with h1 | h1
 ·have := of_decide_eq_false h1
  omega
 ·rwa [show ((0 : Int) + ((j + 1 : Nat) : Int) - 1).toNat = j by omega] at h1
theorem ylo {vs : List yc} (h : yiV vs) (i : Nat) (v : yc) (hv : v.1 = (vs.getD i yp).1) : yiV (vs.set i v) := by
 have hn : ∀ k, ((vs.set i v).getD k yp).1 = (vs.getD k yp).1 := fun k => by
  rw [List.getD_eq_getElem?_getD, List.getD_eq_getElem?_getD]
  by_cases hk : i = k
  ·subst hk
   by_cases hl : i < vs.length
   ·rw [List.getElem?_set_self hl]
    rw [List.getD_eq_getElem?_getD] at hv
    exact hv
   ·rw [List.getElem?_eq_none (by rw [List.length_set]; omega), List.getElem?_eq_none (by omega)]
  ·rw [List.getElem?_set_ne hk]
 intro j hj
 rw [hn, hn]
 exact h j (by simpa using hj)
section
variable (q : List yd) (t : List y0) (l : List y9) (cs : List y8) (vs : List yc) (z : Int)
theorem qT (n : ByteArray) (hv : vs.length ≤ 1048576) : JE (q, t, l, cs, vs, z, n) = some (yG vs n) := by
 unfold JE zn YR
 have key := YU (step := yY (fun x2 => some x2) (fun x3 => some ((-1 : Int), x3))) (fun i => (vs, (vs.length : Int), i, n)) (fun v : yc => ByteArray.toList v.1 == ByteArray.toList n) (fun i => some (i, n)) (some (-1, n)) yp vs (by omega) (fun again i h0 h1 => by
  have hw : Go.IntKind.wrap .i64 (i + 1) = i + 1 := w64 (by omega) (by omega)
  unfold yY Km
  simp only [Bool.cond_eq_ite, decide_eq_true_eq, h0, h1, if_true, hw, Option.bind_some]
  rfl) (fun again i hi => by
  unfold yY
  simp only [Bool.cond_eq_ite, decide_eq_true_eq, if_neg hi])
 simp only
 rw [key]
 rcases YM vs n with h | ⟨h1, h2⟩ <;> unfold yG at *
 ·rw [h]
  rfl
 ·rw [if_neg (by omega)]
  rfl
noncomputable def yhz (n : ByteArray) (b : Int) : Int := if yn q t l cs vs z = true ∧ Yf n = true then (if yG vs n < 0 then 2 else if inR b 0 (Go.IntKind.wrap .i64 ((ya vs (yG vs n)).2.2.1 - 1)) = true then 0 else 4) else 1
variable {q t l cs vs} (h : SP q t l cs vs)
include h
theorem Kc (n : ByteArray) (hn : n.size ≤ maxLen) (b : Int) (ch : Bool) : Zf (q, t, l, cs, vs, z, n, b, ch) = some (yG vs n, if ch = true then Z9 q t l cs vs z n b else yhz q t l cs vs z n b) := by
 unfold Zf Z9 yhz
 simp only [qT q t l cs vs z n h.S.2.2.2.2.2, ZO z h, J4 n hn, ZF, Option.bind_some]
 cases hp : yn q t l cs vs z with
 | false => cases ch <;> rfl
 | true =>
  cases hno : Yf n with
  | false => cases ch <;> rfl
  | true =>
   simp only [Bool.not_true, cond_false, Option.bind_some, and_self, if_true]
   by_cases hv : yG vs n < 0
   ·simp only [decide_eq_true hv, cond_true, if_pos hv]
    cases ch <;> rfl
   ·have h2 := YM vs n
    simp only [decide_eq_false hv, cond_false, if_neg hv, if_pos (show (0 : Int) ≤ yG vs n by omega), if_pos (show yG vs n < ((List.length vs : Nat) : Int) by omega)]
    cases ch <;> cases (ya vs (yG vs n)).2.2.2 <;> cases inR b 0 (Go.IntKind.wrap .i64 ((ya vs (yG vs n)).2.2.1 - 1)) <;> rfl
theorem y5Z {q' : List yd} {t' : List y0} {l' : List y9} {cs' : List y8} {vs' : List yc} {z' : Int} (hx : SP q' t' l' cs' vs') (b : Bool) : Yz (q, t, l, cs, vs, z, q', t', l', cs', vs', z', b) = some (if b = true ∧ yn q' t' l' cs' vs' z' = true then (q', t', l', cs', vs', z', 0) else (q, t, l, cs, vs, z, 6)) := by
 have ec : yQ (q, t, l, cs, vs, z) = some (q, t, l, cs, vs, z) := Qc q t l cs vs z h.S
 unfold Yz
 simp only [ZO z' hx, ec, Option.bind_some]
 cases b <;> cases hp : yn q' t' l' cs' vs' z' <;> simp
omit h in
def y9p (q : List yd) (t : List y0) (l : List y9) (cs : List y8) (vs : List yc) (z : Int) (k : y7) : Bool × List yd × List y0 × List y9 × List y8 × List yc × Int :=
 ((yx q t k).2.2, (yx q t k).1, (yx q t k).2.1, l, if (yx q t k).2.2 = true then JT q t cs k else cs, vs, z)
theorem yb4 (a b c d e : Int) : YI (q, t, l, cs, vs, z, a, b, c, d, e) = some (y9p q t l cs vs z (a, b, c, d, e)) := by
 have hq := h.tq
 unfold YI y9p
 simp only [y5d q t a b hq.T hq.q, y4u q t a b c d e hq.T hq.Q hq.q, Option.bind_some]
 cases hr : (yx q t (a, b, c, d, e)).2.2 with
 | false => rfl
 | true =>
  unfold JT
  simp only [cond_true, if_true, Option.bind_some, y37 cs _ h.S.2.2.2.2.1]
  cases (Za q t a b).2.2.2.2.2 with
  | false => rfl
  | true =>
   by_cases h1 : (Za q t a b).2.2.1 = 1
   ·rw [if_pos ⟨rfl, h1⟩]
    simp only [h1, cond_true, Option.bind_some, beq_self_eq_true]
   ·rw [if_neg fun hh => h1 hh.2]
    simp only [cond_true, Option.bind_some, beq_eq_false_iff_ne.2 h1, cond_false]
end
end Go.Proofs.YtgediecndaheiaaGreat.Pl
namespace Go.Proofs.YtgediecndaheiaaGreat.Pl
open Go.Proofs.YtgediecndaheiaaGreat.R Go.Proofs.YtgediecndaheiaaGreat.XS
section
variable {q : List yd} {t : List y0} {l : List y9} {cs : List y8} {vs : List yc} (z : Int) (h : SP q t l cs vs)
include h
theorem yhA : yQ (q, t, l, cs, vs, z) = some (q, t, l, cs, vs, z) := Qc q t l cs vs z h.S
theorem yfg (hp : yn q t l cs vs z = true) {i : Int} (h0 : 0 ≤ i) (h1 : i < (vs.length : Int)) : 1 ≤ (ya vs i).2.2.1 ∧ (ya vs i).2.2.1 ≤ 12 := by
 unfold yn at hp
 simp only [Bool.and_eq_true] at hp
 have hv := hp.2.2.2.2.2.1
 unfold wk at hv
 simp only [Bool.and_eq_true, Bool.not_eq_true'] at hv
 obtain ⟨j, hj⟩ := kr _ vs 0 hv.1 _ (yI yp vs _ h0 h1)
 unfold yc1 at hj
 simp only [Bool.or_eq_false_iff, Bool.not_eq_false', zp] at hj
 exact hj.2.1
theorem yrz (k : y7) : SP (y9p q t l cs vs z k).2.1 (y9p q t l cs vs z k).2.2.1 (y9p q t l cs vs z k).2.2.2.1 (y9p q t l cs vs z k).2.2.2.2.1 (y9p q t l cs vs z k).2.2.2.2.2.1 :=
 (Ka k h.tq).sp h h.S.2.2.2.1 (by
  show (if _ then JT q t cs k else cs).length ≤ _
  split
  ·rw [qR]
   exact h.S.2.2.2.2.1
  ·exact h.S.2.2.2.2.1)
end
end Go.Proofs.YtgediecndaheiaaGreat.Pl
namespace Go.Proofs.YtgediecndaheiaaGreat.Pl
open Go.Proofs.YtgediecndaheiaaGreat.R Go.Proofs.YtgediecndaheiaaGreat.XS
theorem ycq {l : List Int} {v : Int} : yfE l v = true ↔ v ∈ l := by
 unfold yfE
 constructor
 ·intro h
  have h := of_decide_eq_true h
  rcases YJ (fun a : Int => a == v) y2f l 0 (Int.le_refl _) with h1 | ⟨h1, h2, h3⟩
  ·omega
  ·have h4 : l.getD (zX (fun a : Int => a == v) l 0 - 0).toNat y2f = v := by simpa using h3
   rw [← h4, Int.sub_zero]
   exact yI y2f l _ h1 (by omega)
 ·intro h
  refine decide_eq_true ?_
  refine Decidable.byContradiction fun hn => ?_
  have := qt (p := fun a : Int => a == v) l 0 (Int.le_refl _) (by omega) v h
  simp at this
theorem ycr (b : Int) : ∀ (l s : List y7), l.foldl (y06 b) s = s ++ l.filter fun k => k.1 == b
 | [], s => by simp
 | c :: l, s => by
  rw [List.foldl_cons, ycr b l, List.filter_cons]
  unfold y06
  cases c.1 == b <;> simp
theorem zQ {l : List y7} {b : Int} {k : y7} : k ∈ zZ l b ↔ k ∈ l ∧ k.1 = b := by
 unfold zZ
 rw [ycr, List.nil_append, List.mem_filter]
 simp
theorem ylp (path : List Int) : ∀ (l : List y7) (s : Bool × y7), (l.foldl (wZ path) s = s ∧ ∀ c ∈ l, c.2.1 ∈ path → s.1 = true ∧ c.2.1 ≤ s.2.2.1) ∨
  ((l.foldl (wZ path) s).1 = true ∧ (l.foldl (wZ path) s).2 ∈ l ∧ (l.foldl (wZ path) s).2.2.1 ∈ path ∧ (s.1 = true → s.2.2.1 ≤ (l.foldl (wZ path) s).2.2.1) ∧ ∀ c ∈ l, c.2.1 ∈ path → c.2.1 ≤ (l.foldl (wZ path) s).2.2.1)
 | [], s => .inl ⟨rfl, fun c hc => by simp at hc⟩
 | a :: l, s => by
  rw [List.foldl_cons]
  by_cases h : yfE path a.2.1 = true ∧ (s.1 = false ∨ s.2.2.1 < a.2.1)
  ·have e : wZ path s a = (true, a) := if_pos h
   have hp := ycq.1 h.1
   have hs : s.1 = true → s.2.2.1 ≤ a.2.1 := fun h1 => by
    rcases h.2 with h2 | h2
    ·rw [h1] at h2
     cases h2
    ·omega
   rw [e]
   rcases ylp path l (true, a) with ⟨h1, h2⟩ | ⟨h1, h2, h3, h4, h5⟩
   ·rw [h1]
    exact .inr ⟨rfl, by simp, hp, hs, fun c hc hcp => by
     rcases List.mem_cons.1 hc with rfl | hc
     ·exact Int.le_refl _
     ·exact (h2 c hc hcp).2⟩
   ·have h6 := h4 rfl
    exact .inr ⟨h1, List.mem_cons_of_mem _ h2, h3, fun h7 => Int.le_trans (hs h7) h6, fun c hc hcp => by
     rcases List.mem_cons.1 hc with rfl | hc
     ·exact h6
     ·exact h5 c hc hcp⟩
  ·have e : wZ path s a = s := if_neg h
   rw [e]
   have ha : a.2.1 ∈ path → s.1 = true ∧ a.2.1 ≤ s.2.2.1 := fun hp => by
    have h1 := ycq.2 hp
    refine ⟨?_, ?_⟩
    ·cases hs : s.1 with
     | true => rfl
     | false => exact absurd ⟨h1, .inl hs⟩ h
    ·by_cases h2 : s.2.2.1 < a.2.1
     ·exact absurd ⟨h1, .inr h2⟩ h
     ·omega
   rcases ylp path l s with ⟨h1, h2⟩ | ⟨h1, h2, h3, h4, h5⟩
   ·exact .inl ⟨h1, fun c hc hcp => by
     rcases List.mem_cons.1 hc with rfl | hc
     ·exact ha hcp
     ·exact h2 c hc hcp⟩
   ·exact .inr ⟨h1, List.mem_cons_of_mem _ h2, h3, h4, fun c hc hcp => by
     rcases List.mem_cons.1 hc with rfl | hc
     ·have := ha hcp
      exact Int.le_trans this.2 (h4 this.1)
     ·exact h5 c hc hcp⟩
theorem KG (ks : List y7) (path : List Int) : (Y1 ks path = (false, (0, 0, 0, 0, 0)) ∧ ∀ c ∈ ks, c.2.1 ∉ path) ∨ ((Y1 ks path).1 = true ∧ (Y1 ks path).2 ∈ ks ∧ (Y1 ks path).2.2.1 ∈ path ∧ ∀ c ∈ ks, c.2.1 ∈ path → c.2.1 ≤ (Y1 ks path).2.2.1) := by
 rcases ylp path ks (false, (0, 0, 0, 0, 0)) with ⟨h1, h2⟩ | ⟨h1, h2, h3, _, h5⟩
 ·exact .inl ⟨h1, fun c hc hp => by have := (h2 c hc hp).1; cases this⟩
 ·exact .inr ⟨h1, h2, h3, h5⟩
theorem yfh {K K' : List y7} {b : Int} {path : List Int} (hK : srt K) (hK' : srt K') (h : ∀ c : y7, c.1 = b → c.2.1 ∈ path → (c ∈ K ↔ c ∈ K')) : Y1 (zZ K b) path = Y1 (zZ K' b) path := by
 rcases KG (zZ K b) path with ⟨h1, h2⟩ | ⟨h1, h2, h3, h4⟩
 ·rcases KG (zZ K' b) path with ⟨g1, g2⟩ | ⟨g1, g2, g3, g4⟩
  ·rw [h1, g1]
  ·obtain ⟨g5, g6⟩ := zQ.1 g2
   exact absurd g3 (h2 _ (zQ.2 ⟨(h _ g6 g3).2 g5, g6⟩))
 ·obtain ⟨h5, h6⟩ := zQ.1 h2
  rcases KG (zZ K' b) path with ⟨g1, g2⟩ | ⟨g1, g2, g3, g4⟩
  ·exact absurd h3 (g2 _ (zQ.2 ⟨(h _ h6 h3).1 h5, h6⟩))
  ·obtain ⟨g5, g6⟩ := zQ.1 g2
   have e1 := g4 _ (zQ.2 ⟨(h _ h6 h3).1 h5, h6⟩) h3
   have e2 := h4 _ (zQ.2 ⟨(h _ g6 g3).2 g5, g6⟩) g3
   have e3 := y7M hK h5 ((h _ g6 g3).2 g5) (ZG.2 ⟨h6.trans g6.symm, by omega⟩)
   exact Prod.ext (h1.trans g1.symm) e3
theorem yhB {K : List y7} {b : Int} {path : List Int} (hK : srt K) {k : y7} (hk : k ∈ K) (hb : k.1 = b) (hp : k.2.1 ∈ path) (hmax : ∀ x ∈ path, x ≤ k.2.1) : Y1 (zZ K b) path = (true, k) := by
 rcases KG (zZ K b) path with ⟨h1, h2⟩ | ⟨h1, h2, h3, h4⟩
 ·exact absurd hp (h2 k (zQ.2 ⟨hk, hb⟩))
 ·obtain ⟨h5, h6⟩ := zQ.1 h2
  have e1 := h4 k (zQ.2 ⟨hk, hb⟩) hp
  have e2 := hmax _ h3
  have e3 : (Y1 (zZ K b) path).2 = k := y7M hK h5 hk (ZG.2 ⟨h6.trans hb.symm, by omega⟩)
  exact Prod.ext h1 e3
theorem ycs (id : Int) : ∀ (l : List y9) (s : List Int), l.foldl (qo id) s = s ++ (l.filter fun a => a.2 == id && id != 0).map fun a => a.1
 | [], s => by simp
 | c :: l, s => by
  rw [List.foldl_cons, ycs id l, List.filter_cons]
  unfold qo
  cases c.2 == id && id != 0 <;> simp
theorem yfi {l : List y9} {id : Int} (h0 : id ≠ 0) {a : y9} (ha : a ∈ l) (he : a.2 = id) : 0 < (Yj l id).length := by
 unfold Yj
 rw [ycs, List.nil_append, List.length_map]
 refine List.length_pos_of_mem (List.mem_filter.2 ⟨ha, ?_⟩)
 rw [he]
 simp [h0]
theorem kv {l : List y9} {id : Int} (h : 0 ≤ z9 l id) : z9 l id < l.length ∧ (l.getD (z9 l id).toNat zc).1 = id := by
 rcases YJ (fun a : y9 => a.1 == id) zc l 0 (Int.le_refl _) with h1 | ⟨h1, h2, h3⟩
 ·unfold z9 at h
  omega
 ·rw [Int.sub_zero] at h3
  exact ⟨by unfold z9; omega, by simpa [z9] using h3⟩
structure AgesR (l : List y9) : Prop where
 up : ∀ i, i + 1 < l.length → (l.getD i zc).1 < (l.getD (i + 1) zc).1
 pos : ∀ i, i < l.length → 1 ≤ (l.getD i zc).1 ∧ (l.getD i zc).1 ≤ 60
 frm : ∀ i, i < l.length → (l.getD i zc).2 ≠ 0 → ∃ j, j < i ∧ (l.getD j zc).1 = (l.getD i zc).2
theorem yfj {l : List y9} (h : ji l = true) : AgesR l := by
 unfold ji at h
 simp only [Bool.and_eq_true, Bool.not_eq_true', decide_eq_true_eq] at h
 have hb : ∀ i, i < l.length → y34 l i (l.getD i zc) = false := fun i hi => by
  have := kq zc l 0 h.1 i hi
  rwa [show (0 : Int) + (i : Int) = i by omega] at this
 refine ⟨fun i hi => ?_, fun i hi => ?_, fun i hi h0 => ?_⟩
 ·have := hb (i + 1) hi
  unfold y34 at this
  simp only [Bool.or_eq_false_iff, Bool.and_eq_false_iff, decide_eq_false_iff_not] at this
  rcases this.2.1 with h1 | h1
  ·omega
  ·rw [show (((i + 1 : Nat) : Int) - 1).toNat = i by omega] at h1
   omega
 ·have := hb i hi
  unfold y34 at this
  simp only [Bool.or_eq_false_iff, Bool.not_eq_false', zp] at this
  exact this.1
 ·have := hb i hi
  unfold y34 at this
  simp only [Bool.or_eq_false_iff, Bool.and_eq_false_iff, decide_eq_false_iff_not, bne_eq_false_iff_eq] at this
  rcases this.2.2 with h1 | h1
  ·exact absurd h1 h0
  ·have hf : ydg l (i : Int) = l.take i := by
    unfold ydg
    simp
   rw [hf] at h1
   obtain ⟨h2, h3⟩ := kv (l := l.take i) (id := (l.getD i zc).2) (by omega)
   rw [List.length_take] at h2
   refine ⟨(z9 (l.take i) (l.getD i zc).2).toNat, by omega, ?_⟩
   rw [List.getD_eq_getElem?_getD, List.getElem?_take, if_pos (by omega), ← List.getD_eq_getElem?_getD] at h3
   exact h3
theorem AgesR.lt {l : List y9} (h : AgesR l) : ∀ (d i : Nat), i + 1 + d < l.length → (l.getD i zc).1 < (l.getD (i + 1 + d) zc).1
 | 0, i, hi => h.up i hi
 | d + 1, i, hi => by
  have h1 := AgesR.lt h d i (by omega)
  have h2 := h.up (i + 1 + d) (by omega)
  rw [show i + 1 + (d + 1) = i + 1 + d + 1 by omega]
  omega
theorem yct {l : List y9} (h : AgesR l) : ∀ (n : Nat) (i : Int), 0 ≤ i → i < l.length → ∀ x ∈ K8 l n i, x = (l.getD i.toNat zc).1 ∨ (x < (l.getD i.toNat zc).1 ∧ x ≠ 0 ∧ ∃ a ∈ l, a.2 = x)
 | 0, _, _, _, x, hx => by simp [K8] at hx
 | n + 1, i, h0, h1, x, hx => by
  rw [kp l n i h0] at hx
  rcases List.mem_cons.1 hx with rfl | hx
  ·exact .inl rfl
  ·have hj : 0 ≤ z9 l (l.getD i.toNat zc).2 := by
    refine Decidable.byContradiction fun hn => ?_
    cases n with
    | zero => simp [K8] at hx
    | succ n =>
     rw [K8, if_pos (by omega)] at hx
     simp at hx
   obtain ⟨j1, j2⟩ := kv hj
   have hp := h.pos (z9 l (l.getD i.toNat zc).2).toNat (by omega)
   rw [j2] at hp
   have hlt : (l.getD i.toNat zc).2 < (l.getD i.toNat zc).1 := by
    obtain ⟨j, hj1, hj2⟩ := h.frm i.toNat (by omega) (by omega)
    rw [← hj2]
    have := h.lt (i.toNat - (j + 1)) j (by omega)
    rw [show j + 1 + (i.toNat - (j + 1)) = i.toNat by omega] at this
    exact this
   have hmem : l.getD i.toNat zc ∈ l := yI zc l i h0 h1
   rcases yct h n _ hj j1 x hx with h3 | ⟨h3, h4, h5⟩
   ·rw [j2] at h3
    subst h3
    exact .inr ⟨hlt, by omega, _, hmem, rfl⟩
   ·rw [j2] at h3
    exact .inr ⟨by omega, h4, h5⟩
theorem y60 {l : List y9} (h : AgesR l) {id : Int} (hi : 0 ≤ z9 l id) {x : Int} (hx : x ∈ Yb l id) : x = id ∨ (x < id ∧ x ≠ 0 ∧ ∃ a ∈ l, a.2 = x) := by
 obtain ⟨h1, h2⟩ := kv hi
 have := yct h _ _ hi h1 x hx
 rwa [h2] at this
theorem yb5 {l : List y9} {id : Int} (hi : 0 ≤ z9 l id) : id ∈ Yb l id := by
 obtain ⟨h1, h2⟩ := kv hi
 unfold Yb
 rw [kp l _ _ hi, h2]
 simp
def y3D (K : List y7) (l : List y9) (cs : List y8) (b age : Int) : Int :=
 if ((Y1 (zZ K b) (Yb l age)).1 && (Y1 (zZ K b) (Yb l age)).2.2.2.1 == 1) = true then (jE cs (Y1 (zZ K b) (Yb l age)).2.2.2.2.1 (Y1 (zZ K b) (Yb l age)).2.2.2.2.2).1 else 0
section
variable {q : List yd} {t : List y0} {l : List y9} {cs : List y8} {vs : List yc} (z : Int) (h : SP q t l cs vs)
include h
theorem Qe (i b : Int) (h0 : 0 ≤ i) (h1 : i < (vs.length : Int)) (hr : 1 ≤ (ya vs i).2.2.1 ∧ (ya vs i).2.2.1 ≤ 12) (hb : inR b 0 (Go.IntKind.wrap .i64 ((ya vs i).2.2.1 - 1)) = true) : Z0 (q, t, l, cs, vs, z, i, b) = some (y3D (yq t) l cs b (ya vs i).2.1) := by
 have hq := h.tq
 have hv := h.S.2.2.2.2.2
 have hm : Go.IntKind.wrap .i64 ((vs.length : Int) - 1) = (vs.length : Int) - 1 := w64 (by omega) (by omega)
 unfold Z0 y3D
 simp only [ZF, hm, hb, zp.2 ⟨h0, show i ≤ (vs.length : Int) - 1 by omega⟩, Bool.not_true, cond_false, if_pos h0, if_pos h1, Option.bind_some, y8U q t l b _ hq.T h.S.2.2.2.1, y0S cs _ _ h.S.2.2.2.2.1]
 unfold ydd ans
 obtain ⟨r1, r2⟩ := Y1 (zZ (yq t) b) (Yb l (ya vs i).2.1)
 cases r1 with
 | false => rfl
 | true =>
  simp only [Bool.not_true, cond_false, Bool.true_and]
  by_cases hk : r2.2.2.1 = 1
  ·rw [show (r2.2.2.1 != 1) = false by simp [hk], show (r2.2.2.1 == 1) = true by simp [hk]]
   rfl
  ·rw [show (r2.2.2.1 != 1) = true by simp [hk], show (r2.2.2.1 == 1) = false by simp [hk]]
   rfl
theorem yhC (n : ByteArray) (b : Int) (hn : n.size ≤ 60) (hp : yn q t l cs vs z = true) (hno : Yf n = true) (hv : ¬ yG vs n < 0) (hb : 0 ≤ b ∧ b < (ya vs (yG vs n)).2.2.1) : wW (q, t, l, cs, vs, z, n, b) = some (y3D (yq t) l cs b (ya vs (yG vs n)).2.1, 0) := by
 have h2 := YM vs n
 have hi0 : (0 : Int) ≤ yG vs n := by omega
 have hi1 : yG vs n < ((List.length vs : Nat) : Int) := by omega
 have hr := yfg z h hp hi0 hi1
 have hw : Go.IntKind.wrap .i64 ((ya vs (yG vs n)).2.2.1 - 1) = (ya vs (yG vs n)).2.2.1 - 1 := w64 (by omega) (by omega)
 have hbr : inR b 0 (Go.IntKind.wrap .i64 ((ya vs (yG vs n)).2.2.1 - 1)) = true := by
  rw [hw]
  exact zp.2 ⟨hb.1, by omega⟩
 unfold wW
 simp only [Kc z h n (kC hn), Option.bind_some, Bool.false_eq_true, if_false]
 have hc : yhz q t l cs vs z n b = 0 := by
  unfold yhz
  rw [if_pos ⟨hp, hno⟩, if_neg hv, if_pos hbr]
 rw [hc]
 simp only [show ((0 : Int) != 0) = false from rfl, cond_false, Qe z h (yG vs n) b hi0 hi1 hr hbr, Option.bind_some]
end
end Go.Proofs.YtgediecndaheiaaGreat.Pl
namespace Go.Proofs.YtgediecndaheiaaGreat.Pl
open Go.Proofs.YtgediecndaheiaaGreat.R Go.Proofs.YtgediecndaheiaaGreat.XS
theorem y9q {A : Type} [BEq A] [LawfulBEq A] : ∀ (l m : List A), l.Nodup → (∀ x ∈ l, x ∈ m) → l.length ≤ m.length
 | [], _, _, _ => Nat.zero_le _
 | a :: l, m, hn, hs => by
  have h1 := List.nodup_cons.1 hn
  have ha := hs a (by simp)
  have h2 := y9q l (m.erase a) h1.2 fun x hx => (List.mem_erase_of_ne (by rintro rfl; exact h1.1 hx)).2 (hs x (by simp [hx]))
  rw [List.length_erase_of_mem ha] at h2
  have := List.length_pos_of_mem ha
  simp only [List.length_cons]
  omega
def y3a (k : y7) : Bool := k.2.2.1 == 1
def Vy (ks : List y7) : List Int := (ks.filter y3a).map fun k : y7 => k.2.2.2.1
def qU : List y8 → Int → List Int
 | [], _ => []
 | c :: l, i => if c.2.1 = true then i :: qU l (i + 1) else qU l (i + 1)
theorem y1d : ∀ (l : List y8) (i : Int) (j : Nat), j < l.length → (l.getD j yS).2.1 = true → i + j ∈ qU l i
 | c :: l, i, 0, _, h => by
  have h' : c.2.1 = true := h
  rw [qU, if_pos h']
  simp
 | c :: l, i, j + 1, hj, h => by
  have := y1d l (i + 1) j (by simpa using hj) (by simpa using h)
  rw [show i + ((j + 1 : Nat) : Int) = i + 1 + j by omega, qU]
  split
  ·exact List.mem_cons_of_mem _ this
  ·exact this
theorem y7Q : ∀ (l : List y8) (s i : Int), 0 ≤ s → s + l.length ≤ 1048576 → l.foldl qN s = s + (qU l i).length
 | [], s, _, _, _ => by simp [qU]
 | c :: l, s, i, h0, h1 => by
  simp only [List.length_cons] at h1
  rw [List.foldl_cons, qU]
  unfold qN
  split
  ·rw [w64 (by omega) (by omega)]
   have := y7Q l (s + 1) (i + 1) (by omega) (by omega)
   unfold qN at this
   rw [this, List.length_cons]
   omega
  ·have := y7Q l s (i + 1) h0 (by omega)
   unfold qN at this
   rw [this]
theorem yb6 : ∀ (l : List y7) (s : Int), 0 ≤ s → s + l.length ≤ 1048576 → l.foldl y07 s = s + (Vy l).length
 | [], s, _, _ => by simp [Vy]
 | k :: l, s, h0, h1 => by
  simp only [List.length_cons] at h1
  rw [List.foldl_cons]
  unfold y07
  by_cases hk : (k.2.2.1 == 1) = true
  ·rw [if_pos hk, w64 (by omega) (by omega)]
   have := yb6 l (s + 1) (by omega) (by omega)
   unfold y07 at this
   rw [this]
   have hk' : y3a k = true := hk
   simp only [Vy, List.filter_cons, hk', if_true, List.map_cons, List.length_cons]
   omega
  ·rw [if_neg hk]
   have := yb6 l s h0 (by omega)
   unfold y07 at this
   rw [this]
   have hk' : y3a k = false := by simpa [y3a] using hk
   simp only [Vy, List.filter_cons, hk', Bool.false_eq_true, if_false]
section
variable {ks : List y7} {l : List y9} {cs : List y8} (h : wS ks l cs = true)
include h
theorem yb7 : YK (ydh ks l cs) ks 0 = false ∧ ks.foldl y07 0 = y59 cs := by
 unfold wS at h
 simp only [Bool.and_eq_true, Bool.not_eq_true', beq_iff_eq] at h
 exact h
theorem y1e (j : Nat) (hj : j < ks.length) (hd : y3a (ks.getD j yL) = true) : (0 ≤ (ks.getD j yL).2.2.2.1 ∧ (ks.getD j yL).2.2.2.1 < (cs.length : Int) ∧ (cs.getD (ks.getD j yL).2.2.2.1.toNat yS).2.1 = true) ∧ ∀ i, i < j → y3a (ks.getD i yL) = true → (ks.getD i yL).2.2.2.1 ≠ (ks.getD j yL).2.2.2.1 := by
 have h1 := kq yL ks 0 (yb7 h).1 j hj
 unfold ydh at h1
 have hd' : ((ks.getD j yL).2.2.1 == 1) = true := hd
 simp only [hd', Bool.or_eq_false_iff, Bool.true_and, Bool.not_eq_false'] at h1
 obtain ⟨_, h2, h3⟩ := h1
 refine ⟨?_, fun i hi hdi he => ?_⟩
 ·unfold jE at h2
  split at h2
  ·rename_i hh
   simp only [Bool.and_eq_true] at hh
   have := zp.1 hh.1
   exact ⟨this.1, by omega, hh.2.1⟩
  ·cases h2
 ·have hlen : (ks.take j).length = j := by simp; omega
  rw [show ((0 : Int) + (j : Int)).toNat = j by omega] at h3
  have h4 := kq yL (ks.take j) 0 h3 i (by omega)
  unfold zr at h4
  have e : (ks.take j).getD i yL = ks.getD i yL := by
   rw [List.getD_eq_getElem?_getD, List.getD_eq_getElem?_getD, List.getElem?_take, if_pos hi]
  rw [e, show ((ks.getD i yL).2.2.1 == 1) = true from hdi, he] at h4
  simp at h4
theorem yfk : (Vy ks).Nodup := by
 unfold Vy List.Nodup
 rw [List.pairwise_map, List.pairwise_filter, List.pairwise_iff_getElem]
 intro i j hi hj hij h1 h2
 have ei : ks.getD i yL = ks[i] := by simp [hi]
 have ej : ks.getD j yL = ks[j] := by simp [hj]
 have := (y1e h j hj (by rw [ej]; exact h2)).2 i hij (by rw [ei]; exact h1)
 rw [ei, ej] at this
 exact this
theorem ylq (hk : ks.length ≤ 1048576) (hc : cs.length ≤ 1048576) {i : Int} (i0 : 0 ≤ i) (i1 : i < (cs.length : Int)) (hu : (cs.getD i.toNat yS).2.1 = true) :
  ¬ zX (zr i 0) ks 0 < 0 ∧ ∀ j : Nat, j < ks.length → (j : Int) ≠ zX (zr i 0) ks 0 → zr i 0 (ks.getD j yL) = false := by
 have hmem : i ∈ Vy ks := by
  refine Classical.byContradiction fun hn => ?_
  have h1 := y9q (i :: Vy ks) (qU cs 0) (List.nodup_cons.2 ⟨hn, yfk h⟩) fun x hx => by
   rcases List.mem_cons.1 hx with rfl | hx
   ·have := y1d cs 0 x.toNat (by omega) hu
    rwa [show (0 : Int) + (x.toNat : Int) = x by omega] at this
   ·obtain ⟨k, hk, rfl⟩ := List.mem_map.1 hx
    obtain ⟨hk, hd⟩ := List.mem_filter.1 hk
    obtain ⟨j, hj, rfl⟩ := List.mem_iff_getElem.1 hk
    have ej : ks.getD j yL = ks[j] := by simp [hj]
    obtain ⟨⟨a1, a2, a3⟩, _⟩ := y1e h j hj (by rw [ej]; exact hd)
    rw [ej] at a1 a2 a3
    have := y1d cs 0 (ks[j].2.2.2.1).toNat (by omega) a3
    rwa [show (0 : Int) + ((ks[j].2.2.2.1).toNat : Int) = ks[j].2.2.2.1 by omega] at this
  have h2 := (yb7 h).2
  unfold y59 at h2
  rw [yb6 ks 0 (Int.le_refl _) (by omega), y7Q cs 0 0 (Int.le_refl _) (by omega)] at h2
  simp only [List.length_cons] at h1
  omega
 obtain ⟨k, hk, rfl⟩ := List.mem_map.1 hmem
 obtain ⟨hk, hd⟩ := List.mem_filter.1 hk
 obtain ⟨j, hj, rfl⟩ := List.mem_iff_getElem.1 hk
 have ej : ks.getD j yL = ks[j] := by simp [hj]
 have hdj : zr (ks[j].2.2.2.1) 0 ks[j] = true := by
  unfold zr
  rw [show (ks[j].2.2.1 == 1) = true from hd]
  simp
 have hf : ¬ zX (zr (ks[j].2.2.2.1) 0) ks 0 < 0 := fun hneg => by
  have hall : ∀ (l : List y7) (i : Int), 0 ≤ i → zX (zr (ks[j].2.2.2.1) 0) l i < 0 → ∀ a ∈ l, zr (ks[j].2.2.2.1) 0 a = false := by
   intro l
   induction l with
   | nil => intro _ _ _ a ha; simp at ha
   | cons b l ih =>
    intro i hi hl a ha
    rw [zX] at hl
    split at hl
    ·omega
    ·rename_i hb
     rcases List.mem_cons.1 ha with rfl | ha
     ·simpa using hb
     ·exact ih (i + 1) (by omega) hl a ha
  rw [hall ks 0 (Int.le_refl _) hneg _ hk] at hdj
  cases hdj
 refine ⟨hf, fun j' hj' hne => ?_⟩
 rcases YJ (zr (ks[j].2.2.2.1) 0) yL ks 0 (Int.le_refl _) with h1 | ⟨h1, h2, h3⟩
 ·omega
 ·rw [Int.sub_zero] at h3
  have hkey : ∀ k : y7, zr (ks[j].2.2.2.1) 0 k = true → y3a k = true ∧ k.2.2.2.1 = ks[j].2.2.2.1 := fun k hk => by
   unfold zr at hk
   rw [Bool.and_eq_true, beq_iff_eq (a := k.2.2.2.1)] at hk
   exact hk
  cases hdup : zr (ks[j].2.2.2.1) 0 (ks.getD j' yL) with
  | false => rfl
  | true =>
   obtain ⟨a1, a2⟩ := hkey _ hdup
   obtain ⟨b1, b2⟩ := hkey _ h3
   have hm' : (zX (zr (ks[j].2.2.2.1) 0) ks 0).toNat < ks.length := by omega
   rcases Nat.lt_or_gt_of_ne (show j' ≠ (zX (zr (ks[j].2.2.2.1) 0) ks 0).toNat by omega) with hlt | hlt
   ·exact absurd (a2.trans b2.symm) ((y1e h _ hm' b1).2 j' hlt a1)
   ·exact absurd (b2.trans a2.symm) ((y1e h j' hj' a1).2 _ hlt b1)
end
theorem y5h (q : List Int) (t : List y0) (l : List y9) (cs : List y8) (vs : List yc) (z i : Int) (ht : TOk t) : WQ (q, t, l, cs, vs, z, i) = some (if zX (zr i 0) (yq t) 0 < 0 then (0, 0, 0, 0, 0) else (yq t).getD (zX (zr i 0) (yq t) 0).toNat yL) := by
 have ek : yN (q, t) = some (yq t) := YO q t (by have := ht.len; omega) ht.nodes ht.sum
 have hk := ht.keys
 unfold WQ QN
 simp only [ek, Option.bind_some]
 refine (YU (step := Ju _ _) (fun j => (i, j, 0, 0, 0, 0, 0, yq t)) (zr i 0) (fun j => some ((yq t).getD j.toNat yL)) (some (0, 0, 0, 0, 0)) yL (yq t) (by omega) ?_ ?_).trans ?_
 ·intro again j h0 h1
  have hw : Go.IntKind.wrap .i64 (j + 1) = j + 1 := w64 (by omega) (by omega)
  unfold Ju zr
  have hx : (yq t).getD j.toNat yL = y6 (yq t) j := rfl
  rw [hx]
  simp only [Bool.cond_eq_ite, decide_eq_true_eq, h0, h1, if_true, hw]
  cases ((y6 (yq t) j).2.2.1 == 1) <;> cases ((y6 (yq t) j).2.2.2.1 == i) <;> rfl
 ·intro again j hj
  unfold Ju
  simp only [Bool.cond_eq_ite, decide_eq_true_eq, if_neg hj]
 ·split <;> rfl
section
variable (q : List yd) (t : List y0) (l : List y9) (cs : List y8) (vs : List yc) (z : Int)
def y4G (i : Int) : y7 := (yq t).getD (zX (zr i 0) (yq t) 0).toNat yL
def y2v (i : Int) : List y8 := (yb3 cs (cs.getD i.toNat yS).2.2).1
def y4H (i : Int) : List Int × List y0 × Bool := yx q t ((y4G t i).1, (y4G t i).2.1, (y4G t i).2.2.1, YX cs, ((y2v cs i).getD (YX cs).toNat yS).1)
def y0h (i : Int) : PO × Bool := (((y4H q t cs i).1, (y4H q t cs i).2.1, l, y36 (y2v cs i) i, vs, z), (y4H q t cs i).2.2)
noncomputable def yb8 (i : Int) : PO × Bool :=
 if yn q t l cs vs z = true ∧ 0 ≤ i ∧ i ≤ 23 ∧ (cs.getD i.toNat yS).2.1 = true ∧ ¬ YX cs < 0 ∧ YX cs ≤ i then ydz (q, t, l, cs, vs, z) (y0h q t l cs vs z i) else ((q, t, l, cs, vs, z), false)
theorem y4I {i : Int} (h : ¬ (yn q t l cs vs z = true ∧ 0 ≤ i ∧ i ≤ 23 ∧ (cs.getD i.toNat yS).2.1 = true ∧ ¬ YX cs < 0 ∧ YX cs ≤ i)) : yb8 q t l cs vs z i = ((q, t, l, cs, vs, z), false) := if_neg h
variable {q t l cs vs} (h : SP q t l cs vs)
include h
theorem yfl (i : Int) : SP (y0h q t l cs vs z i).1.1 (y0h q t l cs vs z i).1.2.1 (y0h q t l cs vs z i).1.2.2.1 (y0h q t l cs vs z i).1.2.2.2.1 (y0h q t l cs vs z i).1.2.2.2.2.1 :=
 (Ka _ h.tq).sp h h.S.2.2.2.1 (by
  have h1 := y4A (y2v cs i) i
  have h2 := y9j cs (cs.getD i.toNat yS).2.2
  have h3 := h.S.2.2.2.2.1
  show (y36 (y2v cs i) i).length ≤ _
  unfold y2v at h1 ⊢
  omega)
theorem y61 (hp : yn q t l cs vs z = true) : zA cs = true ∧ wS (yq t) l cs = true ∧ zv q t = true := by
 unfold yn at hp
 simp only [Bool.and_eq_true] at hp
 exact ⟨hp.2.2.1, hp.2.2.2.2.2.2, hp.1⟩
omit h in
theorem yfm {cs : List y8} (hc : zA cs = true) (i : Nat) (hi : i < cs.length) : isW (cs.getD i yS).2.2 = true := by
 unfold zA at hc
 simp only [Bool.and_eq_true, Bool.not_eq_true'] at hc
 have := kq yS cs 0 hc.1 i hi
 unfold y8X at this
 simp only [Bool.or_eq_false_iff, Bool.not_eq_false'] at this
 exact this.2.1
theorem y2T (i : Int) : zC (q, t, l, cs, vs, z, i) = some (ydn (yb8 q t l cs vs z i)) := by
 have hc := h.S.2.2.2.2.1
 have hq := h.tq
 have hm : Go.IntKind.wrap .i64 ((cs.length : Int) - 1) = (cs.length : Int) - 1 := w64 (by omega) (by omega)
 have ec : yj (q, t, l, cs, vs, z) = some (q, t, l, cs, vs, z) := kt q t l cs vs z h.S
 unfold zC
 simp only [ec, Z1 z h, Z8, hm, Option.bind_some]
 cases hp : yn q t l cs vs z with
 | false =>
  rw [y4I _ _ _ _ _ _ fun hh => by rw [hp] at hh; exact Bool.noConfusion hh.1]
  rfl
 | true =>
  obtain ⟨hcs, hfit, htr⟩ := y61 z h hp
  have h24 := y7N hcs
  simp only [Bool.not_true, cond_false, Option.bind_some]
  cases hi : inR i 0 ((cs.length : Int) - 1) with
  | false =>
   rw [y4I _ _ _ _ _ _ fun hh => by
    rw [zp.2 ⟨hh.2.1, by have := hh.2.2.1; omega⟩] at hi
    cases hi]
   rfl
  | true =>
   obtain ⟨i0, i1⟩ := zp.1 hi
   have i2 : i < (cs.length : Int) := by omega
   have hrd : yo cs i = cs.getD i.toNat yS := rfl
   simp only [Bool.not_true, cond_false, if_pos i0, if_pos i2, hrd, Option.bind_some]
   cases hu : (cs.getD i.toNat yS).2.1 with
   | false =>
    rw [y4I _ _ _ _ _ _ fun hh => by rw [hu] at hh; exact Bool.noConfusion hh.2.2.2.1]
    rfl
   | true =>
    have hw := yfm hcs i.toNat (by omega)
    obtain ⟨hf, _⟩ := ylq hfit hq.T.keys (by omega) i0 i2 hu
    simp only [Bool.not_true, cond_false, y5h q t l cs vs z i hq.T, y39 cs _ hc, Option.bind_some, if_neg hf]
    by_cases hfree : YX cs < 0
    ·rw [y4I _ _ _ _ _ _ fun hh => hh.2.2.2.2.1 hfree, y1b fun hh => hh.2.2 hfree]
     rfl
    ·obtain ⟨f0, f1, f2⟩ := y0x hfree
     have htk := y3C ⟨hcs, hw, hfree⟩
     have hcm : y2v cs i = cs.set (YX cs).toNat ((cs.getD (YX cs).toNat yS).1, true, (cs.getD i.toNat yS).2.2) := by
      unfold y2v
      rw [htk]
     rw [htk, ← hcm]
     have hcl : (y2v cs i).length = cs.length := by
      unfold y2v
      exact y9j _ _
     simp only [Bool.not_true, cond_false, Option.bind_some]
     by_cases hgt : YX cs > i
     ·rw [decide_eq_true hgt, cond_true, y4I _ _ _ _ _ _ fun hh => by have := hh.2.2.2.2.2; omega]
      rfl
     ·rw [decide_eq_false hgt, cond_false, if_pos f0, if_pos (by omega)]
      have hmk : yb8 q t l cs vs z i = ydz (q, t, l, cs, vs, z) (y0h q t l cs vs z i) := if_pos ⟨hp, i0, by omega, hu, hfree, by omega⟩
      rw [hmk]
      have hcell : yo (y2v cs i) (YX cs) = (y2v cs i).getD (YX cs).toNat yS := rfl
      have hput := JS q t (y4G t i).1 (y4G t i).2.1 (y4G t i).2.2.1 (YX cs) ((y2v cs i).getD (YX cs).toNat yS).1 hq.T hq.Q hq.q
      have hSP := yfl z h i
      have hpo : yH (y0h q t l cs vs z i).1 = some (yb1 (y0h q t l cs vs z i).1) := Z1 z hSP
      simp only [hcell, show (yq t).getD (zX (zr i 0) (yq t) 0).toNat yL = y4G t i from rfl]
      rw [hput]
      simp only [Option.bind_some, KV (y2v cs i) i (by omega)]
      unfold ydz
      cases hok : (y0h q t l cs vs z i).2 with
      | false =>
       have hok' : (y4H q t cs i).2.2 = false := hok
       unfold y4H at hok'
       rw [hok']
       rfl
      | true =>
       have hok' : (y4H q t cs i).2.2 = true := hok
       unfold y4H at hok'
       rw [hok']
       simp only [Bool.not_true, cond_false]
       refine Eq.trans (congrArg (fun o => Option.bind (Option.bind o fun r12 => some (!r12)) _) hpo) ?_
       cases hb : yb1 (y0h q t l cs vs z i).1 <;> rfl
end
end Go.Proofs.YtgediecndaheiaaGreat.Pl
namespace Go.Proofs.YtgediecndaheiaaGreat.Pl
open Go.Proofs.YtgediecndaheiaaGreat.R Go.Proofs.YtgediecndaheiaaGreat.XS
section
variable {q : List yd} {t : List y0} {l : List y9} {cs : List y8} {vs : List yc} (z : Int) (h : SP q t l cs vs)
include h
end
section
variable (q : List yd) (t : List y0) (l : List y9) (cs : List y8) (vs : List yc) (z : Int)
noncomputable def ylr (i : Int) : PO × Bool := if yn q t l cs vs z = true ∧ 0 ≤ i ∧ i ≤ (t.length : Int) - 1 then (((y9l q t i).1, (y9l q t i).2, l, cs, vs, z), true) else ((q, t, l, cs, vs, z), false)
theorem y7R {i : Int} (h : ¬ (yn q t l cs vs z = true ∧ 0 ≤ i ∧ i ≤ (t.length : Int) - 1)) : ylr q t l cs vs z i = ((q, t, l, cs, vs, z), false) := if_neg h
theorem y7S {i : Int} (h : yn q t l cs vs z = true ∧ 0 ≤ i ∧ i ≤ (t.length : Int) - 1) : ylr q t l cs vs z i = (((y9l q t i).1, (y9l q t i).2, l, cs, vs, z), true) := if_pos h
variable {q t l cs vs} (h : SP q t l cs vs)
include h
theorem Qg (i : Int) : zB (q, t, l, cs, vs, z, i) = some (ydn (ylr q t l cs vs z i)) := by
 have hq := h.tq
 have hm : Go.IntKind.wrap .i64 ((t.length : Int) - 1) = (t.length : Int) - 1 := w64 (by have := hq.T.len; omega) (by have := hq.T.len; omega)
 have ec : yj (q, t, l, cs, vs, z) = some (q, t, l, cs, vs, z) := kt q t l cs vs z h.S
 unfold zB
 simp only [ec, Z1 z h, Z8, hm, Option.bind_some]
 cases hp : yn q t l cs vs z with
 | false =>
  rw [y7R _ _ _ _ _ _ fun hh => by rw [hp] at hh; exact Bool.noConfusion hh.1]
  rfl
 | true =>
  simp only [Bool.not_true, cond_false, Option.bind_some]
  cases hi : inR i 0 ((t.length : Int) - 1) with
  | false =>
   rw [y7R _ _ _ _ _ _ fun hh => by
    rw [zp.2 hh.2] at hi
    cases hi]
   rfl
  | true =>
   obtain ⟨i0, i1⟩ := zp.1 hi
   rw [y7S _ _ _ _ _ _ ⟨hp, i0, i1⟩, y9m q t i (y1T (y61 z h hp).2.2) h.S.1 i0 (by omega)]
   rfl
end
end Go.Proofs.YtgediecndaheiaaGreat.Pl
namespace Go.Proofs.YtgediecndaheiaaGreat.Pl
open Go.Proofs.YtgediecndaheiaaGreat.R Go.Proofs.YtgediecndaheiaaGreat.XS
def yxj {A : Type} (q : List yd) (t : List y0) (l : List y9) (cs : List y8) (vs : List yc) (z : Int) (o : Option (List yd × List y0 × List y9 × List y8 × List yc × Int × A)) : Prop :=
 ∃ q' t' l' cs' vs' z' c, o = some (q', t', l', cs', vs', z', c) ∧ (Tn q' t' l' cs' vs' ∨ (q', t', l', cs', vs', z') = (q, t, l, cs, vs, z))
section
variable {q : List yd} {t : List y0} {l : List y9} {cs : List y8} {vs : List yc} {z : Int}
theorem Res.a {o : Option P7a} (h : Res q t l cs vs z o) : yxj q t l cs vs z o := by
 obtain ⟨q', t', l', cs', vs', z', c, e, hc⟩ := h
 exact ⟨q', t', l', cs', vs', z', c, e, hc.imp KW id⟩
theorem yxj.same {A : Type} (c : A) : yxj q t l cs vs z (some (q, t, l, cs, vs, z, c)) := ⟨_, _, _, _, _, _, c, rfl, .inr rfl⟩
end
section
variable {q : List yd} {t : List y0} {l : List y9} {cs : List y8} {vs : List yc} (z : Int) (h : SP q t l cs vs)
include h
end
end Go.Proofs.YtgediecndaheiaaGreat.Pl
namespace Go.Proofs.YtgediecndaheiaaGreat.Pl
open Go.Proofs.YtgediecndaheiaaGreat.R Go.Proofs.YtgediecndaheiaaGreat.XS
theorem yiW (c : List Int) (p s : Int) (L : List ByteArray) (hL : 0 < L.length) (hL2 : L.length ≤ 1048576) (hs : ∀ t ∈ L, t.size ≤ 60) (h : Wj c p) : y9g (jl (c, p, s, L)) c (fun v => v.size ≤ 60) := by
 obtain ⟨v, p1, s1, e1, h1, q1⟩ := vb c p s (L.length : Int) h
 have := q1.2 (by omega)
 unfold jl
 rw [e1]
 simp only [Option.bind_some]
 rw [if_pos q1.1, if_pos this]
 exact ⟨_, _, _, rfl, h1, hs _ (yI ybF L v q1.1 this)⟩
theorem yls (c : List Int) (p s : Int) (h : Wj c p) : y9g (zW (c, p, s)) c (fun v => v.size ≤ 60) := by
 obtain ⟨v, p1, s1, e1, h1, q1⟩ := yiW c p s [{ data := #[97] }, { data := #[98] }, { data := #[99] }, { data := #[100] }, { data := #[101, 53] }] (by simp) (by simp) (by decide) h
 unfold zW
 rw [e1]
 exact ⟨_, _, _, rfl, h1, q1⟩
theorem ycu (c : List Int) (p s : Int) (h : Wj c p) : y9g (Yt (c, p, s)) c (fun _ => True) := by
 obtain ⟨v, p1, s1, e1, h1, q1⟩ := vb c p s 200 h
 unfold Yt
 rw [e1]
 simp only [Option.bind_some]
 obtain ⟨v2, p2, s2, e2, h2, q2⟩ := y4D c p1 s1 [0, 1, 2, 7, 65535, Go.IntKind.wrap .i64 (1 + v)] (by simp) (by simp) h1
 rw [e2]
 exact ⟨_, _, _, rfl, h2, trivial⟩
def y4J (o : Option (Int × ByteArray × ByteArray × Int × Int × List Int × Int × Int)) (c : List Int) : Prop := ∃ k n t a b p s, o = some (k, n, t, a, b, c, p, s) ∧ Wj c p ∧ ByteArray.size n ≤ 60 ∧ ByteArray.size t ≤ 60
theorem yrA {c : List Int} {p s : Int} {L : List Int} {k b : Int} {n t : ByteArray} (hL : 0 < L.length) (hL2 : L.length ≤ 1048576) (h : Wj c p) (hn : n.size ≤ 60) (ht : t.size ≤ 60) :
  y4J (Option.bind (ze (c, p, s, L)) fun r => some (k, n, t, r.1, b, r.2.1, r.2.2.1, r.2.2.2)) c := by
 obtain ⟨v, p1, s1, e1, h1, _⟩ := y4D c p s L hL hL2 h
 rw [e1]
 exact ⟨_, _, _, _, _, _, _, rfl, h1, hn, ht⟩
theorem yrB {c : List Int} {p s m : Int} {k b : Int} {n t : ByteArray} (h : Wj c p) (hn : n.size ≤ 60) (ht : t.size ≤ 60) :
  y4J (Option.bind (yt (c, p, s, m)) fun r => some (k, n, t, r.1, b, r.2.1, r.2.2.1, r.2.2.2)) c := by
 obtain ⟨v, p1, s1, e1, h1, _⟩ := vb c p s m h
 rw [e1]
 exact ⟨_, _, _, _, _, _, _, rfl, h1, hn, ht⟩
theorem yrC {c : List Int} {p s : Int} {L : List Int} {k a : Int} {n : ByteArray} (hL : 0 < L.length) (hL2 : L.length ≤ 1048576) (h : Wj c p) (hn : n.size ≤ 60) :
  y4J (Option.bind (zW (c, p, s)) fun r4 => Option.bind (ze (r4.2.1, r4.2.2.1, r4.2.2.2, L)) fun r5 => some (k, n, r4.1, a, r5.1, r5.2.1, r5.2.2.1, r5.2.2.2)) c := by
 obtain ⟨v, p1, s1, e1, h1, q1⟩ := yls c p s h
 rw [e1]
 simp only [Option.bind_some]
 obtain ⟨v2, p2, s2, e2, h2, _⟩ := y4D c p1 s1 L hL hL2 h1
 rw [e2]
 exact ⟨_, _, _, _, _, _, _, rfl, h2, hn, q1⟩
theorem yrD {c : List Int} {p s m : Int} {k : Int} {n t : ByteArray} (h : Wj c p) (hn : n.size ≤ 60) (ht : t.size ≤ 60) :
  y4J (Option.bind (yt (c, p, s, m)) fun r6 => Option.bind (Yt (r6.2.1, r6.2.2.1, r6.2.2.2)) fun r7 => some (k, n, t, r6.1, r7.1, r7.2.1, r7.2.2.1, r7.2.2.2)) c := by
 obtain ⟨v, p1, s1, e1, h1, _⟩ := vb c p s m h
 rw [e1]
 simp only [Option.bind_some]
 obtain ⟨v2, p2, s2, e2, h2, _⟩ := ycu c p1 s1 h1
 rw [e2]
 exact ⟨_, _, _, _, _, _, _, rfl, h2, hn, ht⟩
theorem yrE {c : List Int} {p s k a b : Int} {n t : ByteArray} (h : Wj c p) (hn : n.size ≤ 60) (ht : t.size ≤ 60) : y4J (some (k, n, t, a, b, c, p, s)) c := ⟨_, _, _, _, _, _, _, rfl, h, hn, ht⟩
theorem yxk : (⟨#[]⟩ : ByteArray).size ≤ 60 := by decide
theorem y62 {A : Type} {P : A → Prop} (b : Bool) {x y : A} (hx : P x) (hy : P y) : P (bif b then x else y) := by cases b <;> assumption
theorem yxl (c : List Int) (p s : Int) (h : Wj c p) : y4J (Y2 (c, p, s)) c := by
 unfold Y2
 obtain ⟨v, p1, s1, e1, h1, _⟩ := y4D c p s [1, 1, 1, 2, 2, 3, 4, 4, 4, 4, 4, 4, 5, 6, 7, 7, 8, 9] (by simp) (by simp) h
 rw [e1]
 simp only [Option.bind_some]
 obtain ⟨n, p2, s2, e2, h2, hn⟩ := yiW c p1 s1 [{ data := #[97] }, { data := #[97] }, { data := #[98] }, { data := #[99] }, { data := #[100] }] (by simp) (by simp) (by decide) h1
 rw [e2]
 simp only [Option.bind_some]
 have hz := yxk
 repeat' (first
  | with_reducible refine y62 (P := fun o => y4J o c) _ ?_ ?_
  | with_reducible exact yrA (by simp) (by simp) h2 hn hz
  | with_reducible exact yrA (by simp) (by simp) h1 hz hz
  | with_reducible exact yrC (by simp) (by simp) h2 hn
  | with_reducible exact yrC (by simp) (by simp) h1 hz
  | with_reducible exact yrD h2 hn hz
  | with_reducible exact yrD h1 hz hz
  | with_reducible exact yrB h2 hn hz
  | with_reducible exact yrB h1 hz hz
  | with_reducible exact yrE h2 hn hz
  | with_reducible exact yrE h1 hz hz)
end Go.Proofs.YtgediecndaheiaaGreat.Pl
namespace Go.Proofs.YtgediecndaheiaaGreat.Pl
open Go.Proofs.YtgediecndaheiaaGreat.R Go.Proofs.YtgediecndaheiaaGreat.XS
def Nsm (n : List yb) (a : Nat) (b : Int) : Prop := n.length ≤ a ∧ km VS n ≤ b
theorem Nsm.ns {n : List yb} {a : Nat} {b : Int} (h : Nsm n a b) (ha : a ≤ 900) (hb : b ≤ 900) : NS n := ⟨Nat.le_trans h.1 (by omega), by have := h.2; omega⟩
end Go.Proofs.YtgediecndaheiaaGreat.Pl
namespace Go.Proofs.YtgediecndaheiaaGreat.Pl
open Go.Proofs.YtgediecndaheiaaGreat.R Go.Proofs.YtgediecndaheiaaGreat.XS
theorem ylt (x : List Int) (m : Int) (hx : x.length ≤ 1099511627776) (hm : 3 ≤ m) : ∃ n, WR (x, m) = some n ∧ 0 ≤ n ∧ n ≤ m := by
 unfold WR
 have hd : Int.tdiv ((List.length x : Nat) : Int) 12 = ((List.length x : Nat) : Int) / 12 := Int.tdiv_eq_ediv_of_nonneg (by omega)
 simp only [hd]
 rw [show Go.IntKind.wrap .i64 (((List.length x : Nat) : Int) / 12) = ((List.length x : Nat) : Int) / 12 from w64 (by omega) (by omega), show Go.IntKind.wrap .i64 (3 + ((List.length x : Nat) : Int) / 12) = 3 + ((List.length x : Nat) : Int) / 12 from w64 (by omega) (by omega)]
 by_cases h : 3 + ((List.length x : Nat) : Int) / 12 > m
 ·rw [decide_eq_true h]
  exact ⟨_, rfl, by omega, Int.le_refl _⟩
 ·rw [decide_eq_false h]
  exact ⟨_, rfl, by omega, by omega⟩
end Go.Proofs.YtgediecndaheiaaGreat.Pl
namespace Go.Proofs.YtgediecndaheiaaGreat.Pl
open Go.Proofs.YtgediecndaheiaaGreat.R Go.Proofs.YtgediecndaheiaaGreat.XS
theorem yfn {A : Type} (t : List A) (i : Nat) (h : i < t.length) (x : A) : t.set i x = t.take i ++ ([x] ++ t.drop (i + 1)) := by
 rw [List.set_eq_take_append_cons_drop, if_pos h]
 rfl
theorem y4K {A : Type} (t : List A) (i : Nat) (x d : A) (j : Nat) (h : i ≠ j) : (t.set i x).getD j d = t.getD j d := by
 rw [List.getD_eq_getElem?_getD, List.getD_eq_getElem?_getD, List.getElem?_set_ne h]
theorem y4L {A : Type} (t : List A) (i : Nat) (x d : A) (h : i < t.length) : (t.set i x).getD i d = x := by
 rw [List.getD_eq_getElem?_getD, List.getElem?_set_self h]
 rfl
theorem y9r (t : List y0) (i : Nat) (hi : i < t.length) : yq (t.set i (yU (yE (t.getD i yi)))) = yq t := by
 have e := Wh (qq (t.getD i yi)) fun x hx => y0f hx
 conv => rhs; rw [qs yi t i hi]
 rw [yfn t i hi, YL, YL, YL, YL, Kt, Kt, e]
theorem yfo {q : List Int} {t : List y0} (h : zv q t = true) (i : Nat) (hi : i < t.length) : zv q (t.set i (yU (yE (t.getD i yi)))) = true := by
 have hk := y9r t i hi
 have hf := JQ h
 unfold zv at h ⊢
 rw [hk, List.length_set]
 simp only [Bool.and_eq_true, Bool.not_eq_true', decide_eq_true_eq] at h ⊢
 refine ⟨h.1, h.2.1, h.2.2.1, qr yi _ 0 fun j hj => ?_, h.2.2.2.2⟩
 rw [List.length_set] at hj
 have hb := kq yi t 0 h.2.2.2.1 j hj
 by_cases hij : i = j
 ·subst hij
  rw [y4L t i _ _ hi]
  unfold VL y56 at hb ⊢
  simp only [Bool.or_eq_false_iff, Bool.not_eq_false', Bool.and_eq_true, Bool.not_eq_true'] at hb ⊢
  obtain ⟨h1, h2, h3, h4⟩ := hb
  obtain ⟨f1, f2, f3⟩ := Wg h2
  have hl := KD (t.getD i yi)
  have hkey : ∀ k ∈ yE (t.getD i yi), YE k = true := fun k hk => by
   obtain ⟨c, hc, hkc⟩ := y1N hk
   exact f3 c hc k hkc
  refine ⟨h1, y5V (qq _) hkey (by omega), ?_, ?_⟩
  ·unfold ybW at h3 ⊢
   rw [Wh (qq _) fun x hx => y0f hx]
   exact h3
  ·unfold yU
   split
   ·rfl
   ·show (yaQ q _ 0 (yE (t.getD i yi)) || false) = false
    rw [Bool.or_false]
    unfold yaQ
    refine qr yL _ 0 fun m hm => ?_
    have hmm : (yE (t.getD i yi)).getD m yL ∈ yE (t.getD i yi) := by
     rw [zd _ _ _ hm]
     exact List.getElem_mem _
    obtain ⟨c, hc, hkc⟩ := y1N hmm
    obtain ⟨j1, hj1⟩ := kr _ _ 0 h4 c hc
    unfold yaQ at hj1
    obtain ⟨j2, hj2⟩ := kr _ _ 0 hj1 _ hkc
    exact hj2
 ·rw [y4K t i _ _ j hij]
  exact hb
theorem yfp {q : List Int} {t : List y0} {l : List y9} {cs : List y8} {vs : List yc} {z : Int} (h : yn q t l cs vs z = true) (i : Int) (h0 : 0 ≤ i) (h1 : i < (t.length : Int)) : yn (y9l q t i).1 (y9l q t i).2 l cs vs z = true := by
 have hk := y9r t i.toNat (by omega)
 rw [show y9l q t i = (q, t.set i.toNat (yU (yE (t.getD i.toNat yi)))) from rfl]
 unfold yn at *
 simp only [Bool.and_eq_true] at h ⊢
 rw [hk]
 exact ⟨yfo h.1 i.toNat (by omega), h.2⟩
def y63 {A : Type} (o : Option (List yd × List y0 × List y9 × List y8 × List yc × Int × A)) : Prop :=
 ∃ q' t' l' cs' vs' z' c, o = some (q', t', l', cs', vs', z', c) ∧ yn q' t' l' cs' vs' z' = true
section
variable {q : List yd} {t : List y0} {l : List y9} {cs : List y8} {vs : List yc} {z : Int}
theorem Res.b {o : Option P7a} (hp : yn q t l cs vs z = true) (h : Res q t l cs vs z o) : y63 o := by
 obtain ⟨q', t', l', cs', vs', z', c, e, hc⟩ := h
 refine ⟨q', t', l', cs', vs', z', c, e, ?_⟩
 rcases hc with hc | hc
 ·exact hc
 ·simp only [Prod.mk.injEq] at hc
  obtain ⟨rfl, rfl, rfl, rfl, rfl, rfl⟩ := hc
  exact hp
theorem y63.same {A : Type} (hp : yn q t l cs vs z = true) (c : A) : y63 (some (q, t, l, cs, vs, z, c)) := ⟨_, _, _, _, _, _, c, rfl, hp⟩
variable (z) (h : SP q t l cs vs) (hp : yn q t l cs vs z = true)
include h hp
theorem y9s (r : PO × Bool) : yb1 (ydz (q, t, l, cs, vs, z) r).1 = true := by
 unfold ydz
 split
 ·rename_i hh
  rw [Bool.and_eq_true] at hh
  exact hh.2
 ·exact hp
theorem ydq (i : Int) : y63 (zB (q, t, l, cs, vs, z, i)) := by
 rw [Qg z h i]
 by_cases hh : yn q t l cs vs z = true ∧ 0 ≤ i ∧ i ≤ (t.length : Int) - 1
 ·rw [y7S q t l cs vs z hh]
  exact ⟨_, _, _, _, _, _, _, rfl, yfp hp i hh.2.1 (by omega)⟩
 ·rw [y7R q t l cs vs z hh]
  exact y63.same hp _
theorem ydr (i : Int) : y63 (zC (q, t, l, cs, vs, z, i)) := by
 rw [y2T z h i]
 have hb : yb1 (yb8 q t l cs vs z i).1 = true := by
  unfold yb8
  split
  ·exact y9s z h hp _
  ·exact hp
 exact ⟨_, _, _, _, _, _, _, rfl, hb⟩
theorem yb9 : y63 (zq (q, t, l, cs, vs, z)) := by
 rw [qu z h]
 have hb : yb1 (y4C q t l cs vs z).1 = true := by
  unfold y4C
  split
  ·split
   ·exact hp
   ·exact y9s z h hp _
  ·exact hp
 exact ⟨_, _, _, _, _, _, _, rfl, hb⟩
theorem yba (k : Int) (n m : ByteArray) (a b : Int) (hn : n.size ≤ 60) (hm : m.size ≤ 60) : y63 (Zt (q, t, l, cs, vs, z, k, n, m, a, b)) := by
 unfold Zt wD
 simp only [y2S k n m a b (kC hn) (kC hm), Z1 z h, W3 z h, Option.bind_some, ycm, yrx, y9h]
 have key : ∀ u : Bool, y63 (bif u then some (q, t, l, cs, vs, z, (1 : Int)) else bif (k == (1 : Int)) then YV (q, t, l, cs, vs, z, n, a) else bif (k == (2 : Int)) then jv (q, t, l, cs, vs, z, n, m, (b == (1 : Int))) else bif (k == (3 : Int)) then jw (q, t, l, cs, vs, z, n) else bif (k == (4 : Int)) then Zp (q, t, l, cs, vs, z, n, a, b) else bif (k == (5 : Int)) then Yw (q, t, l, cs, vs, z, n, a) else bif (k == (6 : Int)) then YW (q, t, l, cs, vs, z, n, a) else
   Option.bind (bif (k == (7 : Int)) then zq (q, t, l, cs, vs, z) else bif (k == (8 : Int)) then zB (q, t, l, cs, vs, z, a) else zC (q, t, l, cs, vs, z, a)) fun r11 => bif (!r11.2.2.2.2.2.2) then some (r11.1, r11.2.1, r11.2.2.1, r11.2.2.2.1, r11.2.2.2.2.1, r11.2.2.2.2.2.1, (2 : Int)) else some (r11.1, r11.2.1, r11.2.2.1, r11.2.2.2.1, r11.2.2.2.2.1, r11.2.2.2.2.2.1, (0 : Int))) := by
  intro u
  refine zL (P := y63) _ (fun _ => y63.same hp _) fun _ => zL (P := y63) _ (fun _ => (yfc z h n a hn).b hp) fun _ => zL (P := y63) _ (fun _ => (yll z h n m _ hn hm).b hp) fun _ => zL (P := y63) _ (fun _ => (ylm z h n hn).b hp) fun _ => zL (P := y63) _ (fun _ => (yhx z h n a b hn).b hp) fun _ => zL (P := y63) _ (fun _ => (ydp z h n a hn).b hp) fun _ => zL (P := y63) _ (fun _ => (yfd z h n a hn).b hp) fun _ => ?_
  have hs : y63 (bif (k == (7 : Int)) then zq (q, t, l, cs, vs, z) else bif (k == (8 : Int)) then zB (q, t, l, cs, vs, z, a) else zC (q, t, l, cs, vs, z, a)) :=
   zL (P := y63) _ (fun _ => yb9 z h hp) fun _ => zL (P := y63) _ (fun _ => ydq z h hp a) fun _ => ydr z h hp a
  obtain ⟨q', t', l', cs', vs', z', c, e, hc⟩ := hs
  rw [e]
  cases c
  ·exact ⟨_, _, _, _, _, _, _, rfl, hc⟩
  ·exact ⟨_, _, _, _, _, _, _, rfl, hc⟩
 cases yss k n m a b
 ·exact key true
 ·exact key _
end
theorem yhD : yn [0] [[]] [] (List.replicate (Int.toNat (24 : Int)) yS) [] 1 = true := by decide
end Go.Proofs.YtgediecndaheiaaGreat.Pl
namespace Go.Proofs.YtgediecndaheiaaGreat.Pl
open Go.Proofs.YtgediecndaheiaaGreat.R Go.Proofs.YtgediecndaheiaaGreat.XS
theorem yiX : ∀ a : List UInt8, Go.Op.bytesLess a a = false
 | [] => rfl
 | x :: a => by
  have := yiX a
  simp [Go.Op.bytesLess, this]
theorem yfq {vs : List yc} (h : yiV vs) : ∀ (d i : Nat), i + 1 + d < vs.length → Go.Op.bytesLess (ByteArray.toList (vs.getD i yp).1) (ByteArray.toList (vs.getD (i + 1 + d) yp).1) = true
 | 0, i, hi => h i hi
 | d + 1, i, hi => y2s _ _ _ (yfq h d i (by omega)) (h (i + 1 + d) hi)
theorem y9t {vs : List yc} (h : yiV vs) {i : Nat} (hi : i < vs.length) : yG vs (vs.getD i yp).1 = i := by
 have hne : ∀ a b : Nat, a < b → b < vs.length → ByteArray.toList (vs.getD a yp).1 ≠ ByteArray.toList (vs.getD b yp).1 := fun a b hab hb he => by
  have := yfq h (b - (a + 1)) a (by omega)
  rw [show a + 1 + (b - (a + 1)) = b by omega, he, yiX] at this
  cases this
 have hmem : vs.getD i yp ∈ vs := by
  rw [zd _ _ _ hi]
  exact List.getElem_mem _
 unfold yG
 rcases YJ (fun v : yc => ByteArray.toList v.1 == ByteArray.toList (vs.getD i yp).1) yp vs 0 (Int.le_refl _) with h1 | ⟨h1, h2, h3⟩
 ·have := qt (p := fun v : yc => ByteArray.toList v.1 == ByteArray.toList (vs.getD i yp).1) vs 0 (Int.le_refl _) (by omega) _ hmem
  simp at this
 ·rw [Int.sub_zero] at h3
  generalize zX (fun v : yc => ByteArray.toList v.1 == ByteArray.toList (vs.getD i yp).1) vs 0 = j at *
  have h4 := eq_of_beq h3
  rcases Nat.lt_trichotomy j.toNat i with h5 | h5 | h5
  ·exact absurd h4 (hne _ _ h5 hi)
  ·omega
  ·exact absurd h4.symm (hne _ _ h5 (by omega))
structure PoolR (q : List yd) (t : List y0) (l : List y9) (cs : List y8) (vs : List yc) (z : Int) : Prop where
 tree : zv q t = true
 ages : ji l = true
 cells : zA cs = true
 fit : wS (yq t) l cs = true
 late : ∀ a ∈ l, a.1 < z
 next : 1 ≤ z ∧ z ≤ 61
 srt : yiV vs
 name : ∀ i, i < vs.length → Yf (vs.getD i yp).1 = true
 size : ∀ i, i < vs.length → 1 ≤ (vs.getD i yp).2.2.1 ∧ (vs.getD i yp).2.2.1 ≤ 12
 age : ∀ i, i < vs.length → 0 ≤ z9 l (vs.getD i yp).2.1
 leaf : ∀ i, i < vs.length → (Yj l (vs.getD i yp).2.1).length = 0
 apart : ∀ i j, i < j → j < vs.length → (vs.getD i yp).2.1 ≠ (vs.getD j yp).2.1
 few : vs.length ≤ 6
theorem y0i {q : List yd} {t : List y0} {l : List y9} {cs : List y8} {vs : List yc} {z : Int} (h : yn q t l cs vs z = true) : PoolR q t l cs vs z := by
 unfold yn at h
 simp only [Bool.and_eq_true, Bool.not_eq_true', zp] at h
 obtain ⟨h1, h2, h3, h4, h5, h6, h7⟩ := h
 have hs := yhy h6
 unfold wk at h6
 simp only [Bool.and_eq_true, Bool.not_eq_true', decide_eq_true_eq] at h6
 have hv : ∀ i, i < vs.length → yc1 vs l i (vs.getD i yp) = false := fun i hi => by
  have := kq yp vs 0 h6.1 i hi
  rwa [show (0 : Int) + (i : Int) = i by omega] at this
 unfold yc1 at hv
 simp only [Bool.or_eq_false_iff, Bool.not_eq_false', decide_eq_false_iff_not, zp] at hv
 refine ⟨h1, h2, h3, h7, fun a ha => ?_, h4, hs, fun i hi => (hv i hi).1, fun i hi => (hv i hi).2.1, fun i hi => ?_, fun i hi => ?_, fun i j hij hj he => ?_, by omega⟩
 ·obtain ⟨j, hj⟩ := kr _ _ 0 h5 a ha
  unfold y08 at hj
  have := of_decide_eq_false hj
  omega
 ·have := (hv i hi).2.2.1
  omega
 ·have := (hv i hi).2.2.2.1
  omega
 ·have h8 := (hv j hj).2.2.2.2.2
  rw [show ((j : Int)).toNat = j by omega] at h8
  have h9 := kq yp _ 0 h8 i (by rw [List.length_take]; omega)
  have e9 : (vs.take j).getD i yp = vs.getD i yp := by
   rw [List.getD_eq_getElem?_getD, List.getElem?_take, if_pos hij, ← List.getD_eq_getElem?_getD]
  rw [e9] at h9
  unfold W0 at h9
  rw [he] at h9
  simp at h9
theorem PoolR.unlike {q : List yd} {t : List y0} {l : List y9} {cs : List y8} {vs : List yc} {z : Int} (h : PoolR q t l cs vs z) {i j : Nat} (hi : i < vs.length) (hj : j < vs.length) (hij : i ≠ j) : (vs.getD i yp).2.1 ≠ (vs.getD j yp).2.1 := by
 rcases Nat.lt_or_gt_of_ne hij with h1 | h1
 ·exact h.apart i j h1 hj
 ·exact fun he => h.apart j i h1 hi he.symm
theorem PoolR.off {q : List yd} {t : List y0} {l : List y9} {cs : List y8} {vs : List yc} {z : Int} (h : PoolR q t l cs vs z) {i j : Nat} (hi : i < vs.length) (hj : j < vs.length) (hij : i ≠ j) : (vs.getD i yp).2.1 ∉ Yb l (vs.getD j yp).2.1 := fun hx => by
 rcases y60 (yfj h.ages) (h.age j hj) hx with h1 | ⟨h1, h2, a, ha, he⟩
 ·exact h.unlike hi hj hij h1
 ·have := yfi h2 ha he
  have := h.leaf i hi
  omega
section
variable {ks : List y7} {l : List y9} {cs : List y8} (h : wS ks l cs = true)
include h
theorem y7T {c : y7} (hc : c ∈ ks) (hd : c.2.2.1 = 1) : 0 ≤ c.2.2.2.1 ∧ c.2.2.2.1 < (cs.length : Int) ∧ (cs.getD c.2.2.2.1.toNat yS).2.1 = true := by
 obtain ⟨j, hj, rfl⟩ := List.mem_iff_getElem.1 hc
 have := (y1e h j hj (by rw [zd _ _ _ hj]; unfold y3a; rw [hd]; rfl)).1
 rwa [zd _ _ _ hj] at this
theorem yfr {c d : y7} (hc : c ∈ ks) (hd : d ∈ ks) (h1 : c.2.2.1 = 1) (h2 : d.2.2.1 = 1) (he : c.2.2.2.1 = d.2.2.2.1) : c = d := by
 obtain ⟨i, hi, rfl⟩ := List.mem_iff_getElem.1 hc
 obtain ⟨j, hj, rfl⟩ := List.mem_iff_getElem.1 hd
 have di : y3a (ks.getD i yL) = true := by rw [zd _ _ _ hi]; unfold y3a; rw [h1]; rfl
 have dj : y3a (ks.getD j yL) = true := by rw [zd _ _ _ hj]; unfold y3a; rw [h2]; rfl
 rcases Nat.lt_trichotomy i j with h5 | h5 | h5
 ·have := (y1e h j hj dj).2 i h5 di
  rw [zd _ _ _ hi, zd _ _ _ hj] at this
  exact absurd he this
 ·subst h5
  rfl
 ·have := (y1e h i hi di).2 j h5 dj
  rw [zd _ _ _ hi, zd _ _ _ hj] at this
  exact absurd he.symm this
theorem ylu {c : y7} (hc : c ∈ ks) : 0 ≤ z9 l c.2.1 := by
 obtain ⟨j, hj⟩ := kr _ _ 0 (yb7 h).1 c hc
 unfold ydh at hj
 simp only [Bool.or_eq_false_iff, decide_eq_false_iff_not] at hj
 omega
end
theorem ybb {cs cs' : List y8} {n g : Int} (hl : cs'.length = cs.length) (he : cs'.getD n.toNat yS = cs.getD n.toNat yS) : jE cs' n g = jE cs n g := by
 unfold jE
 rw [hl, he]
theorem ylv {cs : List y8} {i : Int} {n : Nat} (hn : i.toNat ≠ n) : (y36 cs i).getD n yS = cs.getD n yS := by
 unfold y36
 split
 ·exact y4K _ _ _ _ _ hn
 ·rfl
theorem yiY {q : List Int} {t : List y0} {cs : List y8} {k : y7} (ht : zv q t = true) (hk : YE k = true) {n : Nat} (hn : ∀ c ∈ yq t, c.1 = k.1 → c.2.1 = k.2.1 → c.2.2.1 = 1 → c.2.2.2.1.toNat ≠ n) : (JT q t cs k).getD n yS = cs.getD n yS := by
 obtain ⟨_, s1, s2, s3, s4⟩ := y7L hk
 unfold JT
 split
 ·rename_i hh
  obtain ⟨c, hc, c1, c2, c3⟩ := (yaY ht ⟨s1, s2⟩ ⟨s3, s4⟩).1 hh.1
  rw [c3] at hh ⊢
  exact ylv (hn c hc c1 c2 hh.2)
 ·rfl
section
variable {q : List yd} {t : List y0} {l : List y9} {cs cs2 : List y8} {k : y7} (ht : zv q t = true) (hok : (yx q t k).2.2 = true)
include ht hok
theorem y64 : srt (yq (yx q t k).2.1) := by
 obtain ⟨_, _, h3, _⟩ := Vx hok
 exact (vf h3).srt
theorem y65 {x : y7} : x ∈ yq (yx q t k).2.1 ↔ (x = k ∨ (x ∈ yq t ∧ jW x k = false)) ∧ x.2.2.1 ≠ 0 := by
 rw [(Vx hok).2.2.2, wT, qQ]
theorem ybc {j a : Int} (hj : j ≠ k.1 ∨ k.2.1 ∉ Yb l a) : Y1 (zZ (yq (yx q t k).2.1) j) (Yb l a) = Y1 (zZ (yq t) j) (Yb l a) := by
 refine (yfh (vf ht).srt (y64 ht hok) fun c hc hp => ?_).symm
 have hne : ¬ (c.1 = k.1 ∧ c.2.1 = k.2.1) := fun hh => by
  rcases hj with h1 | h1
  ·exact h1 (hc.symm.trans hh.1)
  ·rw [hh.2] at hp
   exact h1 hp
 rw [y65 ht hok]
 constructor
 ·intro h1
  refine ⟨.inr ⟨h1, ?_⟩, y4x h1⟩
  cases hs : jW c k with
  | false => rfl
  | true => exact absurd (ZG.1 hs) hne
 ·rintro ⟨rfl | h1, h2⟩
  ·exact absurd ⟨rfl, rfl⟩ hne
  ·exact h1.1
theorem yds (hc : ∀ c ∈ yq t, c.2.2.1 = 1 → ¬ (c.1 = k.1 ∧ c.2.1 = k.2.1) → jE cs2 c.2.2.2.1 c.2.2.2.2 = jE cs c.2.2.2.1 c.2.2.2.2) {j a : Int} (hj : j ≠ k.1 ∨ k.2.1 ∉ Yb l a) : y3D (yq (yx q t k).2.1) l cs2 j a = y3D (yq t) l cs j a := by
 unfold y3D
 rw [ybc ht hok hj]
 rcases KG (zZ (yq t) j) (Yb l a) with ⟨h1, _⟩ | ⟨h1, h2, h3, _⟩
 ·rw [h1]
  rfl
 ·by_cases hd : (Y1 (zZ (yq t) j) (Yb l a)).2.2.2.1 = 1
  ·obtain ⟨h5, h6⟩ := zQ.1 h2
   rw [hc _ h5 hd fun hh => ?_]
   rcases hj with h7 | h7
   ·exact h7 (h6.symm.trans hh.1)
   ·rw [hh.2] at h3
    exact h7 h3
  ·rw [if_neg (by simp [hd]), if_neg (by simp [hd])]
theorem ydt (hl : ji l = true) (ha : 0 ≤ z9 l k.2.1) (hk : k.2.2.1 ≠ 0) : Y1 (zZ (yq (yx q t k).2.1) k.1) (Yb l k.2.1) = (true, k) :=
 yhB (y64 ht hok) ((y65 ht hok).2 ⟨.inl rfl, hk⟩) rfl (yb5 ha) fun x hx => by
  rcases y60 (yfj hl) ha hx with h1 | h1
  ·omega
  ·omega
end
section
variable {q : List yd} {t : List y0} {l : List y9} {cs : List y8} {vs : List yc} {z : Int} (h : PoolR q t l cs vs z) {b w : Int} {i : Nat} (hi : i < vs.length) (hw : isW w = true) (hf : ¬ YX cs < 0)
def y1Z (cs : List y8) (vs : List yc) (b : Int) (i : Nat) : y7 := (b, (vs.getD i yp).2.1, 1, YX cs, (cs.getD (YX cs).toNat yS).1)
def wCs (cs : List y8) (w : Int) : List y8 := cs.set (YX cs).toNat ((cs.getD (YX cs).toNat yS).1, true, w)
variable (hok : (yx q t (y1Z cs vs b i)).2.2 = true)
include h hi hf hok
theorem y4M {j a : Int} (hj : j ≠ b ∨ (vs.getD i yp).2.1 ∉ Yb l a) : y3D (yq (yx q t (y1Z cs vs b i)).2.1) l (JT q t (wCs cs w) (y1Z cs vs b i)) j a = y3D (yq t) l cs j a := by
 obtain ⟨f1, f2, f3⟩ := y0x hf
 refine yds h.tree hok (fun c hc hd hne => ?_) hj
 obtain ⟨u1, u2, u3⟩ := y7T h.fit hc hd
 refine ybb (by rw [qR]; unfold wCs; rw [List.length_set]) ?_
 rw [yiY h.tree (Vx hok).2.1 fun d hd1 d1 d2 d3 he => ?_]
 ·unfold wCs
  refine y4K _ _ _ _ _ fun he => ?_
  rw [← he, f3] at u3
  cases u3
 ·obtain ⟨v1, _, _⟩ := y7T h.fit hd1 d3
  have := yfr h.fit hc hd1 hd d3 (by omega)
  subst this
  exact hne ⟨d1, d2⟩
theorem ydu : y3D (yq (yx q t (y1Z cs vs b i)).2.1) l (JT q t (wCs cs w) (y1Z cs vs b i)) b (vs.getD i yp).2.1 = w := by
 obtain ⟨f1, f2, f3⟩ := y0x hf
 have e : Y1 (zZ (yq (yx q t (y1Z cs vs b i)).2.1) b) (Yb l (vs.getD i yp).2.1) = (true, y1Z cs vs b i) := ydt h.tree hok h.ages (h.age i hi) (show (1 : Int) ≠ 0 by decide)
 unfold y3D
 rw [e]
 have hcell : (JT q t (wCs cs w) (y1Z cs vs b i)).getD (YX cs).toNat yS = ((cs.getD (YX cs).toNat yS).1, true, w) := by
  rw [yiY h.tree (Vx hok).2.1 fun d hd1 d1 d2 d3 he => ?_]
  ·unfold wCs
   exact y4L _ _ _ _ (by omega)
  ·obtain ⟨v1, v2, v3⟩ := y7T h.fit hd1 d3
   rw [he, f3] at v3
   cases v3
 have hlen : (JT q t (wCs cs w) (y1Z cs vs b i)).length = cs.length := by
  rw [qR]
  unfold wCs
  rw [List.length_set]
 show (if (true && ((1 : Int) == 1)) = true then (jE (JT q t (wCs cs w) (y1Z cs vs b i)) (YX cs) (cs.getD (YX cs).toNat yS).1).1 else 0) = w
 rw [if_pos (by rfl)]
 unfold jE
 rw [hcell, hlen, if_pos]
 rw [zp.2 ⟨f1, by omega⟩]
 simp
end
end Go.Proofs.YtgediecndaheiaaGreat.Pl
namespace Go.Proofs.YtgediecndaheiaaGreat.Pl
open Go.Proofs.YtgediecndaheiaaGreat.R Go.Proofs.YtgediecndaheiaaGreat.XS
theorem ydv {K K' : List y7} {b : Int} {path path' : List Int} (hK : srt K) (hK' : srt K') (h : ∀ c : y7, c.1 = b → (c ∈ K ∧ c.2.1 ∈ path ↔ c ∈ K' ∧ c.2.1 ∈ path')) : Y1 (zZ K b) path = Y1 (zZ K' b) path' := by
 rcases KG (zZ K b) path with ⟨h1, h2⟩ | ⟨h1, h2, h3, h4⟩
 ·rcases KG (zZ K' b) path' with ⟨g1, g2⟩ | ⟨g1, g2, g3, g4⟩
  ·rw [h1, g1]
  ·obtain ⟨g5, g6⟩ := zQ.1 g2
   have := (h _ g6).2 ⟨g5, g3⟩
   exact absurd this.2 (h2 _ (zQ.2 ⟨this.1, g6⟩))
 ·obtain ⟨h5, h6⟩ := zQ.1 h2
  have hm := (h _ h6).1 ⟨h5, h3⟩
  rcases KG (zZ K' b) path' with ⟨g1, g2⟩ | ⟨g1, g2, g3, g4⟩
  ·exact absurd hm.2 (g2 _ (zQ.2 ⟨hm.1, h6⟩))
  ·obtain ⟨g5, g6⟩ := zQ.1 g2
   have gm := (h _ g6).2 ⟨g5, g3⟩
   have e1 := g4 _ (zQ.2 ⟨hm.1, h6⟩) hm.2
   have e2 := h4 _ (zQ.2 ⟨gm.1, g6⟩) gm.2
   have e3 := y7M hK h5 gm.1 (ZG.2 ⟨h6.trans g6.symm, by omega⟩)
   exact Prod.ext (h1.trans g1.symm) e3
section
variable {q : List yd} {t : List y0} {l : List y9} {cs : List y8} {vs : List yc} (z : Int) (h : SP q t l cs vs) (hp : yn q t l cs vs z = true)
theorem y4N (i : Nat) : ya vs (i : Int) = vs.getD i yp := by
 show vs.getD ((i : Int)).toNat yp = _
 rw [Int.toNat_natCast]
include hp in
theorem ycv {i : Nat} (hi : i < vs.length) {b : Int} (hb : 0 ≤ b ∧ b < (vs.getD i yp).2.2.1) : Z9 q t l cs vs z (vs.getD i yp).1 b = if (vs.getD i yp).2.2.2 = true then 5 else 0 := by
 have hr := y0i hp
 have hs := hr.size i hi
 unfold Z9
 rw [if_pos ⟨hp, hr.name i hi⟩, y9t hr.srt hi, if_neg (by omega), y4N, w64 (n := (vs.getD i yp).2.2.1 - 1) (by omega) (by omega), zp.2 ⟨hb.1, by omega⟩]
 simp
include h
theorem yfs (w : Int) (hf : ¬ YX cs < 0) : (yo (wCs cs w) (YX cs)).1 = (cs.getD (YX cs).toNat yS).1 := by
 obtain ⟨f1, f2, f3⟩ := y0x hf
 show ((wCs cs w).getD (YX cs).toNat yS).1 = _
 unfold wCs
 rw [y4L _ _ _ _ (by omega)]
include hp
theorem ybd {i : Nat} (hi : i < vs.length) {b w : Int} (hb : 0 ≤ b ∧ b < (vs.getD i yp).2.2.1) (hx : (vs.getD i yp).2.2.2 = true) : ZC (q, t, l, cs, vs, z, (vs.getD i yp).1, b, w) = some (q, t, l, cs, vs, z, 5) := by
 have hn := qS ((y0i hp).name i hi)
 unfold ZC
 simp only [Kc z h _ (kC (Nat.le_trans hn (by omega))), if_true, yhA z h, Option.bind_some, ycv z hp hi hb, if_pos hx, show ((5 : Int) == 0) = false from rfl, show ((5 : Int) != 0) = true from rfl, cond_false, cond_true]
theorem yft {i : Nat} (hi : i < vs.length) {b w : Int} (hb : 0 ≤ b ∧ b < (vs.getD i yp).2.2.1) (hx : (vs.getD i yp).2.2.2 = false) (hw : isW w = true) : ZC (q, t, l, cs, vs, z, (vs.getD i yp).1, b, w) = some (q, t, l, cs, vs, z, 6) ∨
  ∃ q' t' cs', ZC (q, t, l, cs, vs, z, (vs.getD i yp).1, b, w) = some (q', t', l, cs', vs, z, 0) ∧ yn q' t' l cs' vs z = true ∧ (∀ j a, j ≠ b ∨ (vs.getD i yp).2.1 ∉ Yb l a → y3D (yq t') l cs' j a = y3D (yq t) l cs j a) ∧ y3D (yq t') l cs' b (vs.getD i yp).2.1 = w := by
 have hr := y0i hp
 have hn := qS (hr.name i hi)
 have h0 : (0 : Int) ≤ (i : Int) := by omega
 have h1 : (i : Int) < ((List.length vs : Nat) : Int) := by omega
 have hS : SP q t l (wCs cs w) vs := SP.of h.tq h.S.2.2.2.1 (by unfold wCs; rw [List.length_set]; exact h.S.2.2.2.2.1) h.S.2.2.2.2.2 h.N
 unfold ZC
 simp only [Kc z h _ (kC (Nat.le_trans hn (by omega))), if_true, yhA z h, y4h, y38 cs w h.S.2.2.2.2.1, Option.bind_some, y9h, ycv z hp hi hb, hx, Bool.false_eq_true, if_false, show ((0 : Int) == 0) = true from rfl, show ((0 : Int) != 0) = false from rfl, cond_false, cond_true, hw, Bool.not_true, y9t hr.srt hi, y4N]
 by_cases hf : YX cs < 0
 ·rw [y1b (fun hh => hh.2.2 hf)]
  exact .inl rfl
 ·obtain ⟨f1, f2, f3⟩ := y0x hf
  rw [y3C ⟨hr.cells, hw, hf⟩]
  have e3 := yfs h w hf
  unfold wCs at e3 hS
  simp only [Bool.not_true, cond_false, if_pos h0, if_pos h1, if_pos f1, List.length_set, if_pos f2, e3, yb4 z hS, Option.bind_some]
  rw [y5Z z h (yrz z hS _)]
  by_cases hc : (y9p q t l (wCs cs w) vs z (y1Z cs vs b i)).1 = true ∧ yn (y9p q t l (wCs cs w) vs z (y1Z cs vs b i)).2.1 (y9p q t l (wCs cs w) vs z (y1Z cs vs b i)).2.2.1 (y9p q t l (wCs cs w) vs z (y1Z cs vs b i)).2.2.2.1 (y9p q t l (wCs cs w) vs z (y1Z cs vs b i)).2.2.2.2.1 (y9p q t l (wCs cs w) vs z (y1Z cs vs b i)).2.2.2.2.2.1 (y9p q t l (wCs cs w) vs z (y1Z cs vs b i)).2.2.2.2.2.2 = true
  ·refine .inr ⟨(yx q t (y1Z cs vs b i)).1, (yx q t (y1Z cs vs b i)).2.1, JT q t (wCs cs w) (y1Z cs vs b i), ?_, ?_, fun j a hj => ?_, ?_⟩
   ·have hc' := hc
    have e : (y9p q t l (wCs cs w) vs z (y1Z cs vs b i)) = (true, (yx q t (y1Z cs vs b i)).1, (yx q t (y1Z cs vs b i)).2.1, l, JT q t (wCs cs w) (y1Z cs vs b i), vs, z) := by
     have h4 : (yx q t (y1Z cs vs b i)).2.2 = true := hc.1
     unfold y9p
     rw [h4, if_pos rfl]
    unfold wCs y1Z at hc' e
    rw [if_pos hc', e]
    rfl
   ·have h4 : (yx q t (y1Z cs vs b i)).2.2 = true := hc.1
    have h5 := hc.2
    unfold y9p at h5
    rw [if_pos h4] at h5
    exact h5
   ·exact y4M hr hi hf hc.1 hj
   ·exact ydu hr hi hf hc.1
  ·unfold wCs y1Z at hc
   rw [if_neg hc]
   exact .inl rfl
end
end Go.Proofs.YtgediecndaheiaaGreat.Pl
namespace Go.Proofs.YtgediecndaheiaaGreat.Pl
open Go.Proofs.YtgediecndaheiaaGreat.R Go.Proofs.YtgediecndaheiaaGreat.XS
def Jg {A : Type} (eq : A → A → Bool) (da : A) (a b : List A) : Bool := decide (a.length = b.length) && !YK (fun i x => !eq x (b.getD i.toNat da)) a 0
theorem qV {A : Type} (eq : A → A → Bool) (da : A) {a b : List A} (h : a.length ≠ b.length) : Jg eq da a b = false := by
 unfold Jg
 rw [decide_eq_false h]
 rfl
theorem y4O {A B : Type} {a : List A} {b : List B} (h : a.length = b.length) : (((List.length a : Nat) : Int) != ((List.length b : Nat) : Int)) = false := by
 rw [h]
 simp
theorem y4P {A B : Type} {a : List A} {b : List B} (h : a.length ≠ b.length) : (((List.length a : Nat) : Int) != ((List.length b : Nat) : Int)) = true := by
 simp only [bne_iff_ne]
 omega
theorem Vh {T A : Type} {step : (T → Option Bool) → T → Option Bool} (mk : Int → T) (eq : A → A → Bool) (da : A) (a b : List A) (hl : a.length ≤ 1048576) (he : a.length = b.length)
  (h : ∀ again i, 0 ≤ i → i < ((List.length a : Nat) : Int) → i < ((List.length b : Nat) : Int) → a.getD i.toNat da ∈ a → b.getD i.toNat da ∈ b → step again (mk i) = bif (!eq (a.getD i.toNat da) (b.getD i.toNat da)) then some false else again (mk (i + 1)))
  (hd : ∀ again i, ¬ i < ((List.length a : Nat) : Int) → step again (mk i) = some true) : zV step Yg (mk 0) = some (Jg eq da a b) := by
 refine (zU (step := step) mk (fun i x => !eq x (b.getD i.toNat da)) (some false) (some true) da a (by omega) (fun again i h0 h1 => ?_) hd).trans ?_
 ·rw [h again i h0 h1 (by omega) (yI da a i h0 h1) (yI da b i h0 (by omega)), Bool.cond_eq_ite]
 ·unfold Jg
  rw [decide_eq_true he]
  cases YK (fun i x => !eq x (b.getD i.toNat da)) a 0 <;> rfl
theorem Kd {A : Type} {eq : A → A → Bool} (da : A) (a : List A) (h : ∀ x, eq x x = true) : Jg eq da a a = true := by
 unfold Jg
 rw [decide_eq_true rfl, qr da a 0 fun j hj => by
  rw [show (0 + (j : Int)).toNat = j by omega, h]
  rfl]
 rfl
def eqI (x y : Int) : Bool := x == y
def eqK (x y : y7) : Bool := (x.1 == y.1) && ((x.2.1 == y.2.1) && ((x.2.2.1 == y.2.2.1) && ((x.2.2.2.1 == y.2.2.2.1) && ((x.2.2.2.2 == y.2.2.2.2) && true))))
def eqA (x y : y9) : Bool := (x.1 == y.1) && ((x.2 == y.2) && true)
def eqC (x y : y8) : Bool := (x.1 == y.1) && ((x.2.1 == y.2.1) && ((x.2.2 == y.2.2) && true))
def eqV (x y : yc) : Bool := (ByteArray.toList x.1 == ByteArray.toList y.1) && ((x.2.1 == y.2.1) && ((x.2.2.1 == y.2.2.1) && ((x.2.2.2 == y.2.2.2) && true)))
def eqS (x y : yb) : Bool := Jg eqK yL x y
def eqN (x y : y0) : Bool := Jg eqS yW x y
theorem yhE (x : Int) : eqI x x = true := by simp [eqI]
theorem yhF (x : y7) : eqK x x = true := by simp [eqK]
theorem yhG (x : y9) : eqA x x = true := by simp [eqA]
theorem yhH (x : y8) : eqC x x = true := by simp [eqC]
theorem yhI (x : yc) : eqV x x = true := by simp [eqV]
theorem yhJ (x : yb) : eqS x x = true := Kd _ _ yhF
theorem yhK (x : y0) : eqN x x = true := Kd _ _ yhJ
def y1Y (q : List yd) (t : List y0) (l : List y9) (cs : List y8) (vs : List yc) (z : Int) (q' : List yd) (t' : List y0) (l' : List y9) (cs' : List y8) (vs' : List yc) (z' : Int) : Bool :=
 Jg eqI y2f q q' && (Jg eqN yi t t' && (Jg eqA zc l l' && (Jg eqC yS cs cs' && (Jg eqV yp vs vs' && (z == z')))))
theorem y5i (q : List yd) (t : List y0) (l : List y9) (cs : List y8) (vs : List yc) (z : Int) : y1Y q t l cs vs z q t l cs vs z = true := by
 unfold y1Y
 rw [Kd _ _ yhE, Kd _ _ yhK, Kd _ _ yhG, Kd _ _ yhH, Kd _ _ yhI]
 simp
theorem y3b (a b : List yd) (hl : a.length ≤ 1048576) : YC (a, b) = some (Jg eqI y2f a b) := by
 unfold YC kZ
 by_cases he : a.length = b.length
 ·simp only [y4O he, cond_false]
  refine Vh (step := Yp _ _) (fun i => (a, b, i)) eqI y2f a b hl he (fun again i h0 h1 h2 _ _ => ?_) fun again i hi => ?_
  ·have hw : Go.IntKind.wrap .i64 (i + 1) = i + 1 := w64 (by omega) (by omega)
   unfold Yp
   simp only [decide_eq_true h1, cond_true, if_pos h0, if_pos h1, if_pos h2, hw]
   rfl
  ·unfold Yp
   simp only [decide_eq_false hi, cond_false]
 ·simp only [y4P he, cond_true, qV _ _ he]
theorem y3c (a b : List y7) (hl : a.length ≤ 1048576) : JG (a, b) = some (Jg eqK yL a b) := by
 unfold JG qj
 by_cases he : a.length = b.length
 ·simp only [y4O he, cond_false]
  refine Vh (step := ja _ _) (fun i => (a, b, i)) eqK yL a b hl he (fun again i h0 h1 h2 _ _ => ?_) fun again i hi => ?_
  ·have hw : Go.IntKind.wrap .i64 (i + 1) = i + 1 := w64 (by omega) (by omega)
   unfold ja
   simp only [decide_eq_true h1, cond_true, if_pos h0, if_pos h1, if_pos h2, hw]
   rfl
  ·unfold ja
   simp only [decide_eq_false hi, cond_false]
 ·simp only [y4P he, cond_true, qV _ _ he]
theorem y3d (a b : List y9) (hl : a.length ≤ 1048576) : JJ (a, b) = some (Jg eqA zc a b) := by
 unfold JJ qn
 by_cases he : a.length = b.length
 ·simp only [y4O he, cond_false]
  refine Vh (step := jd _ _) (fun i => (a, b, i)) eqA zc a b hl he (fun again i h0 h1 h2 _ _ => ?_) fun again i hi => ?_
  ·have hw : Go.IntKind.wrap .i64 (i + 1) = i + 1 := w64 (by omega) (by omega)
   unfold jd
   simp only [decide_eq_true h1, cond_true, if_pos h0, if_pos h1, if_pos h2, hw]
   rfl
  ·unfold jd
   simp only [decide_eq_false hi, cond_false]
 ·simp only [y4P he, cond_true, qV _ _ he]
theorem y2w (a b : List y8) (hl : a.length ≤ 1048576) : jU (a, b) = some (Jg eqC yS a b) := by
 unfold jU Vw
 by_cases he : a.length = b.length
 ·simp only [y4O he, cond_false]
  refine Vh (step := Zy _ _) (fun i => (a, b, i)) eqC yS a b hl he (fun again i h0 h1 h2 _ _ => ?_) fun again i hi => ?_
  ·have hw : Go.IntKind.wrap .i64 (i + 1) = i + 1 := w64 (by omega) (by omega)
   unfold Zy
   simp only [decide_eq_true h1, cond_true, if_pos h0, if_pos h1, if_pos h2, hw]
   rfl
  ·unfold Zy
   simp only [decide_eq_false hi, cond_false]
 ·simp only [y4P he, cond_true, qV _ _ he]
theorem y3e (a b : List yb) (hl : a.length ≤ 1048576) (hs : ∀ s ∈ a, List.length s ≤ 1048576) : JH (a, b) = some (Jg eqS yW a b) := by
 unfold JH qk
 by_cases he : a.length = b.length
 ·simp only [y4O he, cond_false]
  refine Vh (step := jb _ _) (fun i => (i, a, b)) eqS yW a b hl he (fun again i h0 h1 h2 hm _ => ?_) fun again i hi => ?_
  ·have hw : Go.IntKind.wrap .i64 (i + 1) = i + 1 := w64 (by omega) (by omega)
   unfold jb
   simp only [decide_eq_true h1, cond_true, if_pos h0, if_pos h1, if_pos h2, hw]
   rw [y3c (ym a i) (ym b i) (hs _ hm)]
   rfl
  ·unfold jb
   simp only [decide_eq_false hi, cond_false]
 ·simp only [y4P he, cond_true, qV _ _ he]
theorem y3f (q q' : List yd) (t t' : List y0) (hq : q.length ≤ 1048576) (ht : t.length ≤ 1048576) (hn : ∀ n ∈ t, List.length n ≤ 1048576 ∧ ∀ s ∈ (show List yb from n), List.length s ≤ 1048576) : JI (q, t, q', t') = some (Jg eqI y2f q q' && Jg eqN yi t t') := by
 unfold JI qm
 simp only [y3b q q' hq, Option.bind_some]
 cases Jg eqI y2f q q' with
 | false => rfl
 | true =>
  simp only [Bool.not_true, cond_false, Option.bind_some, Bool.true_and]
  by_cases he : t.length = t'.length
  ·simp only [y4O he, cond_false]
   refine Vh (step := jc _ _) (fun i => (i, q, t, q', t')) eqN yi t t' ht he (fun again i h0 h1 h2 hm _ => ?_) fun again i hi => ?_
   ·have hw : Go.IntKind.wrap .i64 (i + 1) = i + 1 := w64 (by omega) (by omega)
    unfold jc
    simp only [decide_eq_true h1, cond_true, if_pos h0, if_pos h1, if_pos h2, hw]
    rw [y3e (ye t i) (ye t' i) (hn _ hm).1 (hn _ hm).2]
    rfl
   ·unfold jc
    simp only [decide_eq_false hi, cond_false]
  ·simp only [y4P he, cond_true, qV _ _ he]
section
variable {q : List yd} {t : List y0} {l : List y9} {cs : List y8} {vs : List yc} (z : Int) (hs : small q t l cs vs) (q' : List yd) (t' : List y0) (l' : List y9) (cs' : List y8) (vs' : List yc) (z' : Int)
include hs
theorem y3g : jg (q, t, l, cs, vs, z, q', t', l', cs', vs', z') = some (y1Y q t l cs vs z q' t' l' cs' vs' z') := by
 have hv : vs.length ≤ 1048576 := hs.2.2.2.2.2
 have loop : vs.length = vs'.length → K5 (fun x8 => some x8) (fun x9 => some true) ((0 : Int), q, t, l, cs, vs, z, q', t', l', cs', vs', z') = some (Jg eqV yp vs vs') := by
  intro he
  unfold K5
  refine Vh (step := je _ _) (fun i => (i, q, t, l, cs, vs, z, q', t', l', cs', vs', z')) eqV yp vs vs' hv he (fun again i h0 h1 h2 _ _ => ?_) fun again i hi => ?_
  ·have hw : Go.IntKind.wrap .i64 (i + 1) = i + 1 := w64 (by omega) (by omega)
   unfold je
   simp only [decide_eq_true h1, cond_true, if_pos h0, if_pos h1, if_pos h2, hw]
   rfl
  ·unfold je
   simp only [decide_eq_false hi, cond_false]
 unfold jg y1Y
 simp only [y3f q q' t t' hs.1 hs.2.1 (fun n hn => ve hs.2.2.1 hn), y3d l l' hs.2.2.2.1, y2w cs cs' hs.2.2.2.2.1, Option.bind_some]
 cases Jg eqI y2f q q' <;> cases Jg eqN yi t t' <;> try rfl
 cases Jg eqA zc l l' <;> cases Jg eqC yS cs cs' <;> try rfl
 by_cases he : vs.length = vs'.length
 ·simp only [y4O he, loop he]
  cases hz : z == z'
  ·simp [bne, hz]
  ·simp [bne, hz]
 ·simp only [y4P he, qV _ _ he]
  rfl
end
end Go.Proofs.YtgediecndaheiaaGreat.Pl
namespace Go.Proofs.YtgediecndaheiaaGreat.Pl
open Go.Proofs.YtgediecndaheiaaGreat.R Go.Proofs.YtgediecndaheiaaGreat.XS
theorem yiZ (x : List Int) (i : Int) (hb : isBytes x) (hx : x.length ≤ 1048576) (h0 : 0 ≤ i) (h1 : i ≤ 1000) : ∃ v, V2 (x, i) = some v ∧ 0 ≤ v ∧ v < 256 := by
 unfold V2
 simp only [Bool.cond_eq_ite, decide_eq_true_eq]
 by_cases h : i < (x.length : Int)
 ·rw [if_pos h, if_pos h0, if_pos h, yxg, yrw hb]
  exact ⟨_, rfl, ybV hb i⟩
 ·rw [if_neg h, w64 (n := i * 31) (by omega) (by omega), w64 (n := (x.length : Int) * 7) (by omega) (by omega), w64 (n := i * 31 + (x.length : Int) * 7) (by omega) (by omega), Int.tmod_eq_emod_of_nonneg (by omega)]
  exact ⟨_, rfl, by omega, by omega⟩
section
variable {x : List Int} {i b r7 z z' : Int} {q q' : List yd} {t t' : List y0} {l l' : List y9} {cs cs' : List y8} {vs vs' : List yc} {v1 : ByteArray} {v2 v3 : Int} {v4 : Bool}
end
end Go.Proofs.YtgediecndaheiaaGreat.Pl
namespace Go.Proofs.YtgediecndaheiaaGreat.Pl
open Go.Proofs.YtgediecndaheiaaGreat.R Go.Proofs.YtgediecndaheiaaGreat.XS
def KX : ByteArray := { data := #[122] }
def noZ (n : ByteArray) : Prop := (ByteArray.toList n == ByteArray.toList KX) = false
def Nz (vs : List yc) : Prop := ∀ v ∈ vs, noZ v.1
def okZ (n : ByteArray) : Prop := n.size ≤ 60 ∧ noZ n
theorem yst (a : UInt8) : ByteArray.toList { data := #[a] } = [a] := by
 unfold ByteArray.toList ByteArray.toList.loop
 unfold ByteArray.toList.loop
 rfl
theorem yCO (a b : UInt8) : ByteArray.toList { data := #[a, b] } = [a, b] := by
 unfold ByteArray.toList ByteArray.toList.loop
 unfold ByteArray.toList.loop
 unfold ByteArray.toList.loop
 rfl
theorem yCP : okZ ⟨#[]⟩ := ⟨by decide, by unfold noZ KX; rw [y2R, yst]; rfl⟩
theorem yrF (a : UInt8) (h : a ≠ 122) : okZ { data := #[a] } := ⟨by show 1 ≤ 60; decide, by unfold noZ KX; rw [yst, yst]; simpa using h⟩
theorem yCQ (a b : UInt8) : okZ { data := #[a, b] } := ⟨by show 2 ≤ 60; decide, by unfold noZ KX; rw [yCO, yst]; simp⟩
theorem yrG : ∀ t ∈ ([{ data := #[97] }, { data := #[97] }, { data := #[98] }, { data := #[99] }, { data := #[100] }] : List ByteArray), okZ t := by
 intro t ht
 simp only [List.mem_cons, List.mem_nil_iff, or_false] at ht
 rcases ht with rfl | rfl | rfl | rfl | rfl <;> exact yrF _ (by decide)
theorem yrH : ∀ t ∈ ([{ data := #[97] }, { data := #[98] }, { data := #[99] }, { data := #[100] }, { data := #[101, 53] }] : List ByteArray), okZ t := by
 intro t ht
 simp only [List.mem_cons, List.mem_nil_iff, or_false] at ht
 rcases ht with rfl | rfl | rfl | rfl | rfl
 ·exact yrF _ (by decide)
 ·exact yrF _ (by decide)
 ·exact yrF _ (by decide)
 ·exact yrF _ (by decide)
 ·exact yCQ _ _
def y4Q (o : Option (Int × ByteArray × ByteArray × Int × Int × List Int × Int × Int)) (c : List Int) : Prop := ∃ k n t a b p s, o = some (k, n, t, a, b, c, p, s) ∧ Wj c p ∧ okZ n ∧ okZ t
theorem yfu (c : List Int) (p s : Int) (L : List ByteArray) (hL : 0 < L.length) (hL2 : L.length ≤ 1048576) (hs : ∀ t ∈ L, okZ t) (h : Wj c p) : y9g (jl (c, p, s, L)) c (fun v => okZ v) := by
 obtain ⟨v, p1, s1, e1, h1, q1⟩ := vb c p s (L.length : Int) h
 have := q1.2 (by omega)
 unfold jl
 rw [e1]
 simp only [Option.bind_some]
 rw [if_pos q1.1, if_pos this]
 exact ⟨_, _, _, rfl, h1, hs _ (yI ybF L v q1.1 this)⟩
theorem yhL (c : List Int) (p s : Int) (h : Wj c p) : y9g (zW (c, p, s)) c (fun v => okZ v) := by
 obtain ⟨v, p1, s1, e1, h1, q1⟩ := yfu c p s [{ data := #[97] }, { data := #[98] }, { data := #[99] }, { data := #[100] }, { data := #[101, 53] }] (by simp) (by simp) yrH h
 unfold zW
 rw [e1]
 exact ⟨_, _, _, rfl, h1, q1⟩
theorem yj0 {c : List Int} {p s : Int} {L : List Int} {k b : Int} {n t : ByteArray} (hL : 0 < L.length) (hL2 : L.length ≤ 1048576) (h : Wj c p) (hn : okZ n) (ht : okZ t) :
  y4Q (Option.bind (ze (c, p, s, L)) fun r => some (k, n, t, r.1, b, r.2.1, r.2.2.1, r.2.2.2)) c := by
 obtain ⟨v, p1, s1, e1, h1, _⟩ := y4D c p s L hL hL2 h
 rw [e1]
 exact ⟨_, _, _, _, _, _, _, rfl, h1, hn, ht⟩
theorem yj1 {c : List Int} {p s m : Int} {k b : Int} {n t : ByteArray} (h : Wj c p) (hn : okZ n) (ht : okZ t) :
  y4Q (Option.bind (yt (c, p, s, m)) fun r => some (k, n, t, r.1, b, r.2.1, r.2.2.1, r.2.2.2)) c := by
 obtain ⟨v, p1, s1, e1, h1, _⟩ := vb c p s m h
 rw [e1]
 exact ⟨_, _, _, _, _, _, _, rfl, h1, hn, ht⟩
theorem yj2 {c : List Int} {p s : Int} {L : List Int} {k a : Int} {n : ByteArray} (hL : 0 < L.length) (hL2 : L.length ≤ 1048576) (h : Wj c p) (hn : okZ n) :
  y4Q (Option.bind (zW (c, p, s)) fun r4 => Option.bind (ze (r4.2.1, r4.2.2.1, r4.2.2.2, L)) fun r5 => some (k, n, r4.1, a, r5.1, r5.2.1, r5.2.2.1, r5.2.2.2)) c := by
 obtain ⟨v, p1, s1, e1, h1, q1⟩ := yhL c p s h
 rw [e1]
 simp only [Option.bind_some]
 obtain ⟨v2, p2, s2, e2, h2, _⟩ := y4D c p1 s1 L hL hL2 h1
 rw [e2]
 exact ⟨_, _, _, _, _, _, _, rfl, h2, hn, q1⟩
theorem yj3 {c : List Int} {p s m : Int} {k : Int} {n t : ByteArray} (h : Wj c p) (hn : okZ n) (ht : okZ t) :
  y4Q (Option.bind (yt (c, p, s, m)) fun r6 => Option.bind (Yt (r6.2.1, r6.2.2.1, r6.2.2.2)) fun r7 => some (k, n, t, r6.1, r7.1, r7.2.1, r7.2.2.1, r7.2.2.2)) c := by
 obtain ⟨v, p1, s1, e1, h1, _⟩ := vb c p s m h
 rw [e1]
 simp only [Option.bind_some]
 obtain ⟨v2, p2, s2, e2, h2, _⟩ := ycu c p1 s1 h1
 rw [e2]
 exact ⟨_, _, _, _, _, _, _, rfl, h2, hn, ht⟩
theorem yj4 {c : List Int} {p s k a b : Int} {n t : ByteArray} (h : Wj c p) (hn : okZ n) (ht : okZ t) : y4Q (some (k, n, t, a, b, c, p, s)) c := ⟨_, _, _, _, _, _, _, rfl, h, hn, ht⟩
theorem yrI (c : List Int) (p s : Int) (h : Wj c p) : y4Q (Y2 (c, p, s)) c := by
 unfold Y2
 obtain ⟨v, p1, s1, e1, h1, _⟩ := y4D c p s [1, 1, 1, 2, 2, 3, 4, 4, 4, 4, 4, 4, 5, 6, 7, 7, 8, 9] (by simp) (by simp) h
 rw [e1]
 simp only [Option.bind_some]
 obtain ⟨n, p2, s2, e2, h2, hn⟩ := yfu c p1 s1 [{ data := #[97] }, { data := #[97] }, { data := #[98] }, { data := #[99] }, { data := #[100] }] (by simp) (by simp) yrG h1
 rw [e2]
 simp only [Option.bind_some]
 have hz := yCP
 repeat' (first
  | with_reducible refine y62 (P := fun o => y4Q o c) _ ?_ ?_
  | with_reducible exact yj0 (by simp) (by simp) h2 hn hz
  | with_reducible exact yj0 (by simp) (by simp) h1 hz hz
  | with_reducible exact yj2 (by simp) (by simp) h2 hn
  | with_reducible exact yj2 (by simp) (by simp) h1 hz
  | with_reducible exact yj3 h2 hn hz
  | with_reducible exact yj3 h1 hz hz
  | with_reducible exact yj1 h2 hn hz
  | with_reducible exact yj1 h1 hz hz
  | with_reducible exact yj4 h2 hn hz
  | with_reducible exact yj4 h1 hz hz)
def Wk {A : Type} (o : Option (List yd × List y0 × List y9 × List y8 × List yc × Int × A)) : Prop :=
 ∃ q' t' l' cs' vs' z' c, o = some (q', t', l', cs', vs', z', c) ∧ Nz vs'
theorem Ke {w : yc} : ∀ {l : List yc} {v : yc}, v ∈ jj w l → v = w ∨ v ∈ l
 | [], v, h => by
  rw [jj] at h
  exact .inl (List.mem_singleton.1 h)
 | u :: r, v, h => by
  rw [jj] at h
  split at h
  ·exact (List.mem_cons.1 h).imp id id
  ·rcases List.mem_cons.1 h with rfl | h
   ·exact .inr List.mem_cons_self
   ·exact (Ke h).imp id (List.mem_cons_of_mem _)
theorem ylw {vs : List yc} (hz : Nz vs) {i : Int} (h0 : 0 ≤ i) (h1 : i < (vs.length : Int)) {w : Int × Int × Bool} : Nz (vs.set (Int.toNat i) ((ya vs i).1, w)) := fun v hv => by
 rcases List.mem_or_eq_of_mem_set hv with hv | rfl
 ·exact hz v hv
 ·exact hz (ya vs i) (yI yp vs i h0 h1)
section
variable {q : List yd} {t : List y0} {l : List y9} {cs : List y8} {vs : List yc} {z : Int}
theorem Wk.same {A : Type} (hz : Nz vs) (c : A) : Wk (some (q, t, l, cs, vs, z, c)) := ⟨_, _, _, _, _, _, c, rfl, hz⟩
variable (z) (h : SP q t l cs vs) (hz : Nz vs)
include h hz
theorem Wk.fin {q' : List yd} {t' : List y0} {l' : List y9} {cs' : List y8} {vs' : List yc} {z' : Int} (hz' : Nz vs') (hx : SP q' t' l' cs' vs') (b : Bool) : Wk (yC (q, t, l, cs, vs, z, q', t', l', cs', vs', z', b)) := by
 rw [yiU z h hx b]
 split
 ·exact ⟨_, _, _, _, _, _, _, rfl, hz'⟩
 ·exact ⟨_, _, _, _, _, _, _, rfl, hz⟩
theorem yhM (n : ByteArray) (s : Int) (hn : n.size ≤ 60) (hn2 : noZ n) : Wk (YV (q, t, l, cs, vs, z, n, s)) := by
 unfold YV
 simp only [KF z h n (kC hn), W3 z h, zy q t l cs vs z n h.S.2.2.2.2.2, Z8, Option.bind_some, ycm, y9h]
 refine zL (P := Wk) _ (fun _ => Wk.same hz _) fun hf => zL (P := Wk) _ (fun _ => Wk.same hz _) fun _ => zL (P := Wk) _ (fun _ => Wk.same hz _) fun _ => ?_
 have hp : yn q t l cs vs z = true := by
  unfold y7P at hf
  by_cases hc : yn q t l cs vs z = true ∧ Yf n = true
  ·exact hc.1
  ·rw [if_neg hc] at hf
   cases hf
 have hT := KW hp
 obtain ⟨l', b, e1, h1⟩ := qv l z 0 (by have := hT.ll; omega)
 have e2 := y0V vs n z s false (by have := hT.vl; omega) (y0i hp).srt
 have h2 := vg (n, z, s, false) vs
 rw [e1]
 simp only [Option.bind_some]
 rw [e2]
 simp only [Option.bind_some]
 exact Wk.fin z h hz (fun v hv => (Ke hv).elim (fun e => by rw [e]; exact hn2) (hz v)) (SP.of h.tq (by have := hT.ll; omega) h.S.2.2.2.2.1 (by have := hT.vl; omega) fun v hv => kC ((Ke hv).elim (fun e => by rw [e]; exact hn) (hT.N v))) b
theorem yrJ (n m : ByteArray) (f : Bool) (hn : n.size ≤ 60) (hm : m.size ≤ 60) (hm2 : noZ m) : Wk (jv (q, t, l, cs, vs, z, n, m, f)) := by
 unfold jv
 simp only [KF z h n (kC hn), W3 z h, zy q t l cs vs z _ h.S.2.2.2.2.2, J3 m (kC hm), Option.bind_some, ycm, y9h]
 cases hf : y7P q t l cs vs z n != 0 with
 | true =>
  simp only [cond_true, Option.bind_some]
  exact Wk.same hz _
 | false =>
 simp only [cond_false, Option.bind_some]
 have hp : yn q t l cs vs z = true := by
  unfold y7P at hf
  by_cases hc : yn q t l cs vs z = true ∧ Yf n = true
  ·exact hc.1
  ·rw [if_neg hc] at hf
   cases hf
 have hT := KW hp
 refine zL (P := Wk) _ (fun _ => Wk.same hz _) fun _ => zL (P := Wk) _ (fun _ => Wk.same hz _) fun hi => zL (P := Wk) _ (fun _ => Wk.same hz _) fun _ => ?_
 have hi' : 0 ≤ yG vs n ∧ yG vs n < ((List.length vs : Nat) : Int) := by
  have := of_decide_eq_false hi
  have := YM vs n
  omega
 obtain ⟨l', b, e1, h1⟩ := qv l z (ya vs (yG vs n)).2.1 (by have := hT.ll; omega)
 obtain ⟨l2, b2, e2, h2⟩ := qv l' (Go.IntKind.wrap .i64 (z + 1)) (ya vs (yG vs n)).2.1 (by have := hT.ll; omega)
 have hset : ∀ v ∈ vs.set (Int.toNat (yG vs n)) ((ya vs (yG vs n)).1, z, (ya vs (yG vs n)).2.2), noZ v.1 ∧ v.1.size ≤ 60 := fun v hv => by
  rcases List.mem_or_eq_of_mem_set hv with hv | rfl
  ·exact ⟨hz v hv, hT.N v hv⟩
  ·exact ⟨hz (ya vs (yG vs n)) (yI yp vs _ hi'.1 hi'.2), hT.N (ya vs (yG vs n)) (yI yp vs _ hi'.1 hi'.2)⟩
 have e3 := y0V (vs.set (Int.toNat (yG vs n)) ((ya vs (yG vs n)).1, z, (ya vs (yG vs n)).2.2)) m (Go.IntKind.wrap .i64 (z + 1)) (ya vs (yG vs n)).2.2.1 f (by rw [List.length_set]; have := hT.vl; omega) (ylo (y0i hp).srt _ _ rfl)
 have h3 := vg (m, Go.IntKind.wrap .i64 (z + 1), (ya vs (yG vs n)).2.2.1, f) (vs.set (Int.toNat (yG vs n)) ((ya vs (yG vs n)).1, z, (ya vs (yG vs n)).2.2))
 simp only [if_pos hi'.1, if_pos hi'.2]
 rw [e1]
 simp only [Option.bind_some]
 rw [e2]
 simp only [Option.bind_some]
 rw [e3]
 simp only [Option.bind_some]
 rw [List.length_set] at h3
 have hS : SP q t l2 cs (jj (m, Go.IntKind.wrap .i64 (z + 1), (ya vs (yG vs n)).2.2.1, f) (vs.set (Int.toNat (yG vs n)) ((ya vs (yG vs n)).1, z, (ya vs (yG vs n)).2.2))) := SP.of h.tq (by have := hT.ll; omega) h.S.2.2.2.2.1 (by have := hT.vl; omega) fun v hv => kC ((Ke hv).elim (fun e => by rw [e]; exact hm) fun hv => (hset v hv).2)
 have hN : Nz (jj (m, Go.IntKind.wrap .i64 (z + 1), (ya vs (yG vs n)).2.2.1, f) (vs.set (Int.toNat (yG vs n)) ((ya vs (yG vs n)).1, z, (ya vs (yG vs n)).2.2))) := fun v hv => (Ke hv).elim (fun e => by rw [e]; exact hm2) fun hv => (hset v hv).1
 cases b <;> simp only [cond_true, cond_false, Option.bind_some] <;> exact Wk.fin z h hz hN hS _
theorem yrK (n : ByteArray) (hn : n.size ≤ 60) : Wk (jw (q, t, l, cs, vs, z, n)) := by
 unfold jw
 simp only [y1a z h n (kC hn), W3 z h, zy q t l cs vs z _ h.S.2.2.2.2.2, Option.bind_some, ycm, y9h]
 refine zL (P := Wk) _ (fun _ => Wk.same hz _) fun hf => ?_
 have hi : 0 ≤ yG vs n ∧ yG vs n < ((List.length vs : Nat) : Int) := by
  unfold yry at hf
  have := YM vs n
  by_cases hc : yn q t l cs vs z = true ∧ Yf n = true
  ·rw [if_pos hc] at hf
   by_cases hv : yG vs n < 0
   ·rw [if_pos hv] at hf
    cases hf
   ·omega
  ·rw [if_neg hc] at hf
   cases hf
 have hv := h.S.2.2.2.2.2
 have hw : Go.IntKind.wrap .i64 (yG vs n + 1) = yG vs n + 1 := w64 (by omega) (by omega)
 simp only [hw]
 rw [if_pos (Int.le_refl _), if_pos hi.1, if_pos (by omega), if_pos (by simp only [List.length_nil, List.length_drop, List.length_take]; omega), if_pos (by omega), if_pos (by omega), if_pos (Int.le_refl _), if_pos (by simp only [List.length_append, List.length_nil, List.length_drop, List.length_take]; omega)]
 refine Wk.fin z h hz (fun v hv => ?_) (SP.of h.tq h.S.2.2.2.1 h.S.2.2.2.2.1 (by simp only [List.length_append, List.length_nil, List.length_drop, List.length_take]; omega) fun v hv => ?_) true
 ·simp only [List.nil_append, List.mem_append] at hv
  rcases hv with hv | hv
  ·exact hz v (List.mem_of_mem_take (List.mem_of_mem_drop hv))
  ·exact hz v (List.mem_of_mem_take (List.mem_of_mem_drop hv))
 ·simp only [List.nil_append, List.mem_append] at hv
  rcases hv with hv | hv
  ·exact h.N v (List.mem_of_mem_take (List.mem_of_mem_drop hv))
  ·exact h.N v (List.mem_of_mem_take (List.mem_of_mem_drop hv))
theorem ylx (n : ByteArray) (b w : Int) (hn : n.size ≤ 60) : Wk (Zp (q, t, l, cs, vs, z, n, b, w)) := by
 obtain ⟨cs', i, u, e1, h1, h2⟩ := y4F cs w h.S.2.2.2.2.1
 have hS : SP q t l cs' vs := SP.of h.tq h.S.2.2.2.1 (by rw [h1]; exact h.S.2.2.2.2.1) h.S.2.2.2.2.2 h.N
 have main : Z9 q t l cs vs z n b = 0 → Wk (bif u then if (0 : Int) ≤ yG vs n then if yG vs n < ((List.length vs : Nat) : Int) then if (0 : Int) ≤ i then if i < ((List.length cs' : Nat) : Int) then Option.bind (zx (q, t, l, cs', vs, z, b, (ya vs (yG vs n)).2.1, (1 : Int), i, (yo cs' i).1)) fun r7 => yC (q, t, l, cs, vs, z, r7.2.1, r7.2.2.1, r7.2.2.2.1, r7.2.2.2.2.1, r7.2.2.2.2.2.1, r7.2.2.2.2.2.2, r7.1) else none else none else none else none else yC (q, t, l, cs, vs, z, q, t, l, cs', vs, z, false)) := by
  intro hb
  have hi : 0 ≤ yG vs n ∧ yG vs n < ((List.length vs : Nat) : Int) := by
   unfold Z9 at hb
   have := YM vs n
   by_cases hc : yn q t l cs vs z = true ∧ Yf n = true
   ·rw [if_pos hc] at hb
    by_cases hv : yG vs n < 0
    ·rw [if_pos hv] at hb
     cases hb
    ·omega
   ·rw [if_neg hc] at hb
    cases hb
  cases u with
  | false => exact Wk.fin z h hz hz hS false
  | true =>
   have h3 := h2 rfl
   obtain ⟨r, q', t', cs2, e2, h4⟩ := ycn z hS b (ya vs (yG vs n)).2.1 1 i (yo cs' i).1
   simp only [cond_true, if_pos hi.1, if_pos hi.2, if_pos h3.1, if_pos (show i < ((List.length cs' : Nat) : Int) by rw [h1]; exact h3.2), e2, Option.bind_some]
   exact Wk.fin z h hz hz h4 r
 unfold Zp
 simp only [wh z h n (kC hn), W3 z h, zy q t l cs vs z _ h.S.2.2.2.2.2, Vb, e1, Option.bind_some, ycm, y9h]
 cases hb : Z9 q t l cs vs z n b == 0 with
 | false =>
  have hne : (Z9 q t l cs vs z n b != 0) = true := by
   rw [bne, hb]
   rfl
  simp only [cond_false, Option.bind_some, hne, cond_true]
  exact Wk.same hz _
 | true =>
  have h0 : Z9 q t l cs vs z n b = 0 := by simpa using hb
  cases hw : isW w with
  | false =>
   simp only [cond_true, Option.bind_some, Bool.not_false, show ((4 : Int) != 0) = true from rfl]
   exact Wk.same hz _
  | true =>
   have hne : (Z9 q t l cs vs z n b != 0) = false := by
    rw [bne, hb]
    rfl
   simp only [cond_true, Option.bind_some, Bool.not_true, cond_false, hne]
   exact main h0
theorem yfv (n : ByteArray) (b : Int) (hn : n.size ≤ 60) : Wk (Yw (q, t, l, cs, vs, z, n, b)) := by
 unfold Yw
 simp only [wh z h n (kC hn), W3 z h, zy q t l cs vs z _ h.S.2.2.2.2.2, Option.bind_some, ycm, y9h]
 refine zL (P := Wk) _ (fun _ => Wk.same hz _) fun hb => ?_
 have hi : 0 ≤ yG vs n ∧ yG vs n < ((List.length vs : Nat) : Int) := by
  unfold Z9 at hb
  have := YM vs n
  by_cases hc : yn q t l cs vs z = true ∧ Yf n = true
  ·rw [if_pos hc] at hb
   by_cases hv : yG vs n < 0
   ·rw [if_pos hv] at hb
    cases hb
   ·omega
  ·rw [if_neg hc] at hb
   cases hb
 obtain ⟨r, q', t', cs', e1, h1⟩ := Wi z h (yG vs n) b hi.1 hi.2
 rw [e1]
 exact Wk.fin z h hz hz h1 r
theorem yhN (n : ByteArray) (s : Int) (hn : n.size ≤ 60) : Wk (YW (q, t, l, cs, vs, z, n, s)) := by
 have fin : ∀ (i : Int) (s : Int) (ok : Bool) (q' : List yd) (t' : List y0) (cs' : List y8), 0 ≤ i → i < (vs.length : Int) → SP q' t' l cs' vs → Wk (if (0 : Int) ≤ i then if i < ((List.length vs : Nat) : Int) then yC (q, t, l, cs, vs, z, q', t', l, cs', List.set vs (Int.toNat i) ((ya vs i).1, (ya vs i).2.1, s, (ya vs i).2.2.2), z, ok) else none else none) := by
  intro i s ok q' t' cs' h0 h1 hS
  rw [if_pos h0, if_pos h1]
  refine Wk.fin z h hz (ylw hz h0 h1) ⟨⟨hS.S.1, hS.S.2.1, hS.S.2.2.1, hS.S.2.2.2.1, hS.S.2.2.2.2.1, by rw [List.length_set]; exact h.S.2.2.2.2.2⟩, fun v hv => ?_⟩ ok
  rcases List.mem_or_eq_of_mem_set hv with hv | rfl
  ·exact h.N v hv
  ·exact h.N (ya vs i) (yI yp vs i h0 h1)
 have loop : ∀ (k0 : Int × Int × Bool × List yd × List y0 × List y9 × List y8 × List yc × Int × Int × Int × List yd × List y0 × List y9 × List y8 × List yc → Option P7a) (k1 : Int × Int × Bool × List yd × List y0 × List y9 × List y8 × List yc × Int × Int × List yd × List y0 × List y9 × Int × List y8 × List yc → Option P7a) (s i b : Int) (ok : Bool) (y : Int), 0 ≤ i → i < (vs.length : Int) → b ≤ 1000 → -1000 ≤ b → 0 ≤ s →
   (∀ ok q' t' cs', SP q' t' l cs' vs → Wk (k0 (s, i, ok, q, t, l, cs, vs, z, y, z, q', t', l, cs', vs))) →
   (∀ ok q' t' cs', SP q' t' l cs' vs → Wk (k1 (s, i, ok, q, t, l, cs, vs, z, y, q', t', l, z, cs', vs))) →
   Wk (Zd k0 k1 (Sum.inl (s, i, ok, b, q, t, l, cs, vs, z, y, z, q, t, l, cs, vs))) := by
  intro k0 k1 s i b ok y h0 h1 hb hb0 hs f0 f1
  unfold Zd
  refine jV (step := Ye k0 k1) (fun u : jO => match u with | .inl u => (u.2.2.2.1 + 1).toNat + 1 | .inr u => (u.2.2.2.1 + 1).toNat)
   (fun u => match u with
    | .inl u => ∃ b ok q' t' cs', b ≤ 1000 ∧ -1000 ≤ b ∧ SP q' t' l cs' vs ∧ u = (s, i, ok, b, q, t, l, cs, vs, z, y, z, q', t', l, cs', vs)
    | .inr u => ∃ b ok q' t' cs', b ≤ 1000 ∧ -1001 ≤ b ∧ SP q' t' l cs' vs ∧ u = (s, i, ok, b, q, t, l, cs, vs, z, y, q', t', l, z, cs', vs))
   (fun _ res => Wk res) ?_ _ ⟨b, ok, q, t, cs, hb, hb0, h, rfl⟩ (by simp only; omega)
  intro again u hu hag
  cases u with
  | inl u =>
   obtain ⟨b, ok, q', t', cs', k1', k2', hS, rfl⟩ := hu
   unfold Ye
   simp only at hag ⊢
   by_cases hbs : b ≥ s
   ·cases ok with
    | false =>
     simp only [decide_eq_true hbs, cond_true, Option.bind_some, cond_false]
     exact f0 _ _ _ _ hS
    | true =>
     obtain ⟨r, q2, t2, cs2, e1, h2⟩ := Wi z hS i b h0 h1
     have hw : Go.IntKind.wrap .i64 (b - 1) = b - 1 := w64 (by omega) (by omega)
     simp only [decide_eq_true hbs, cond_true, Option.bind_some, e1, hw]
     exact hag _ ⟨b - 1, r, q2, t2, cs2, by omega, by omega, h2, rfl⟩ (by simp only; omega)
   ·simp only [decide_eq_false hbs, cond_false, Option.bind_some]
    exact f0 _ _ _ _ hS
  | inr u =>
   obtain ⟨b, ok, q', t', cs', k1', k2', hS, rfl⟩ := hu
   unfold Ye
   simp only at hag ⊢
   by_cases hbs : b ≥ s
   ·cases ok with
    | false =>
     simp only [decide_eq_true hbs, cond_true, Option.bind_some, cond_false]
     exact f1 _ _ _ _ hS
    | true =>
     obtain ⟨r, q2, t2, cs2, e1, h2⟩ := Wi z hS i b h0 h1
     have hw : Go.IntKind.wrap .i64 (b - 1) = b - 1 := w64 (by omega) (by omega)
     simp only [decide_eq_true hbs, cond_true, Option.bind_some, e1, hw]
     exact hag _ ⟨b - 1, r, q2, t2, cs2, by omega, by omega, h2, rfl⟩ (by simp only; omega)
   ·simp only [decide_eq_false hbs, cond_false, Option.bind_some]
    exact f1 _ _ _ _ hS
 unfold YW
 simp only [wh z h n (kC hn), W3 z h, zy q t l cs vs z _ h.S.2.2.2.2.2, Z8, Option.bind_some, ycm, y9h]
 cases hb : Z9 q t l cs vs z n 0 == 0 with
 | false =>
  have hne : (Z9 q t l cs vs z n 0 != 0) = true := by
   rw [bne, hb]
   rfl
  simp only [cond_false, Option.bind_some, hne, cond_true]
  exact Wk.same hz _
 | true =>
  have h0 : Z9 q t l cs vs z n 0 = 0 := by simpa using hb
  cases hs : inR s 1 12 with
  | false =>
   simp only [cond_true, Option.bind_some, Bool.not_false, show ((4 : Int) != 0) = true from rfl]
   exact Wk.same hz _
  | true =>
   have hne : (Z9 q t l cs vs z n 0 != 0) = false := by
    rw [bne, hb]
    rfl
   simp only [cond_true, Option.bind_some, Bool.not_true, cond_false, hne]
   obtain ⟨hi, hp⟩ := yco z h0
   rw [if_pos hi.1, if_pos hi.2]
   have hs' := zp.1 hs
   have hr : 1 ≤ (ya vs (yG vs n)).2.2.1 ∧ (ya vs (yG vs n)).2.2.1 ≤ 12 := by
    unfold yn at hp
    simp only [Bool.and_eq_true] at hp
    have hv := hp.2.2.2.2.2.1
    unfold wk at hv
    simp only [Bool.and_eq_true, Bool.not_eq_true'] at hv
    obtain ⟨j, hj⟩ := kr _ vs 0 hv.1 _ (yI yp vs _ hi.1 hi.2)
    unfold yc1 at hj
    simp only [Bool.or_eq_false_iff, Bool.not_eq_false', zp] at hj
    exact hj.2.1
   have hw : Go.IntKind.wrap .i64 ((ya vs (yG vs n)).2.2.1 - 1) = (ya vs (yG vs n)).2.2.1 - 1 := w64 (by omega) (by omega)
   rw [hw]
   exact loop _ _ s (yG vs n) _ true 0 hi.1 hi.2 (by omega) (by omega) (by omega) (fun ok q' t' cs' hS => fin _ s ok q' t' cs' hi.1 hi.2 hS) (fun ok q' t' cs' hS => fin _ s ok q' t' cs' hi.1 hi.2 hS)
theorem yrL (i : Int) : Wk (zB (q, t, l, cs, vs, z, i)) := by
 rw [Qg z h i]
 by_cases hh : yn q t l cs vs z = true ∧ 0 ≤ i ∧ i ≤ (t.length : Int) - 1
 ·rw [y7S q t l cs vs z hh]
  exact ⟨_, _, _, _, _, _, _, rfl, hz⟩
 ·rw [y7R q t l cs vs z hh]
  exact Wk.same hz _
theorem yrM (i : Int) : Wk (zC (q, t, l, cs, vs, z, i)) := by
 rw [y2T z h i]
 have hb : Nz (yb8 q t l cs vs z i).1.2.2.2.2.1 := by
  unfold yb8
  split
  ·unfold ydz
   split
   ·exact hz
   ·exact hz
  ·exact hz
 exact ⟨_, _, _, _, _, _, _, rfl, hb⟩
theorem yly : Wk (zq (q, t, l, cs, vs, z)) := by
 rw [qu z h]
 have ht : ∀ step i, Nz (Jc q t l cs vs z step i).1.2.2.2.2.1 := fun step i => by
  unfold Jc
  split
  ·exact hz
  ·split <;> exact hz
 have hb : Nz (y4C q t l cs vs z).1.2.2.2.2.1 := by
  unfold y4C
  split
  ·split
   ·exact hz
   ·unfold ydz
    split
    ·exact ht _ _
    ·exact hz
  ·exact hz
 exact ⟨_, _, _, _, _, _, _, rfl, hb⟩
theorem ylz (k : Int) (n m : ByteArray) (a b : Int) (hn : okZ n) (hm : okZ m) : Wk (Zt (q, t, l, cs, vs, z, k, n, m, a, b)) := by
 unfold Zt wD
 simp only [y2S k n m a b (kC hn.1) (kC hm.1), Z1 z h, W3 z h, Option.bind_some, ycm, yrx, y9h]
 have key : ∀ u : Bool, Wk (bif u then some (q, t, l, cs, vs, z, (1 : Int)) else bif (k == (1 : Int)) then YV (q, t, l, cs, vs, z, n, a) else bif (k == (2 : Int)) then jv (q, t, l, cs, vs, z, n, m, (b == (1 : Int))) else bif (k == (3 : Int)) then jw (q, t, l, cs, vs, z, n) else bif (k == (4 : Int)) then Zp (q, t, l, cs, vs, z, n, a, b) else bif (k == (5 : Int)) then Yw (q, t, l, cs, vs, z, n, a) else bif (k == (6 : Int)) then YW (q, t, l, cs, vs, z, n, a) else
   Option.bind (bif (k == (7 : Int)) then zq (q, t, l, cs, vs, z) else bif (k == (8 : Int)) then zB (q, t, l, cs, vs, z, a) else zC (q, t, l, cs, vs, z, a)) fun r11 => bif (!r11.2.2.2.2.2.2) then some (r11.1, r11.2.1, r11.2.2.1, r11.2.2.2.1, r11.2.2.2.2.1, r11.2.2.2.2.2.1, (2 : Int)) else some (r11.1, r11.2.1, r11.2.2.1, r11.2.2.2.1, r11.2.2.2.2.1, r11.2.2.2.2.2.1, (0 : Int))) := by
  intro u
  refine zL (P := Wk) _ (fun _ => Wk.same hz _) fun _ => zL (P := Wk) _ (fun _ => yhM z h hz n a hn.1 hn.2) fun _ => zL (P := Wk) _ (fun _ => yrJ z h hz n m _ hn.1 hm.1 hm.2) fun _ => zL (P := Wk) _ (fun _ => yrK z h hz n hn.1) fun _ => zL (P := Wk) _ (fun _ => ylx z h hz n a b hn.1) fun _ => zL (P := Wk) _ (fun _ => yfv z h hz n a hn.1) fun _ => zL (P := Wk) _ (fun _ => yhN z h hz n a hn.1) fun _ => ?_
  have hs : Wk (bif (k == (7 : Int)) then zq (q, t, l, cs, vs, z) else bif (k == (8 : Int)) then zB (q, t, l, cs, vs, z, a) else zC (q, t, l, cs, vs, z, a)) :=
   zL (P := Wk) _ (fun _ => yly z h hz) fun _ => zL (P := Wk) _ (fun _ => yrL z h hz a) fun _ => yrM z h hz a
  obtain ⟨q', t', l', cs', vs', z', c, e, hc⟩ := hs
  rw [e]
  cases c
  ·exact ⟨_, _, _, _, _, _, _, rfl, hc⟩
  ·exact ⟨_, _, _, _, _, _, _, rfl, hc⟩
 cases yss k n m a b
 ·exact key true
 ·exact key _
end
def y7U (o : Option (List yd × List y0 × List y9 × List y8 × List yc × Int × List Int × Int × Int)) (c : List Int) : Prop := ∃ q t l cs vs z p s, o = some (q, t, l, cs, vs, z, c, p, s) ∧ Wj c p ∧ (yn q t l cs vs z = true ∧ Nz vs)
theorem ylA (c : List Int) (p s m : Int) (h : Wj c p) (m0 : 0 ≤ m) (m1 : m ≤ 1000) : y7U (wE (c, p, s, m)) c := by
 obtain ⟨v1, p1, s1, e1, h1, q1⟩ := vb c p s (m + 1) h
 have b1 := q1.2 (by omega)
 unfold wE Q6 Ki Kh Wq
 rw [if_pos (by omega), if_pos (by omega), if_pos (by decide)]
 simp only [Option.bind_some]
 rw [show Go.IntKind.wrap .i64 (m + 1) = m + 1 from w64 (by omega) (by omega), e1]
 simp only [Option.bind_some]
 refine jV (step := jQ _ _) (fun u : wP => match u with | .inl u => u.1.toNat | .inr u => u.1.toNat) (fun u => match u with | .inl u => ∃ k y q t l cs vs z p s, u = (k, c, p, s, y, z, q, t, l, cs, vs) ∧ Wj c p ∧ 0 ≤ k ∧ k ≤ 1000 ∧ (yn q t l cs vs z = true ∧ Nz vs) | .inr u => ∃ k y q t l cs vs z p s, u = (k, c, p, s, y, q, t, l, z, cs, vs) ∧ Wj c p ∧ 0 ≤ k ∧ k ≤ 1000 ∧ (yn q t l cs vs z = true ∧ Nz vs)) (fun _ (res : Option (List yd × List y0 × List y9 × List y8 × List yc × Int × List Int × Int × Int)) => y7U res c) ?_ _ ⟨v1, 0, _, _, _, _, _, 1, p1, s1, rfl, h1, q1.1, by omega, yhD, fun v hv => by cases hv⟩ (by simp only; omega)
 intro again u hu hag
 have step : ∀ (k y : Int) q t l cs vs (z p s : Int), Wj c p → 0 ≤ k → k ≤ 1000 → (yn q t l cs vs z = true ∧ Nz vs) → k > 0 → (∀ k' q' t' l' cs' vs' z' p' s', Wj c p' → 0 ≤ k' → k' < k → (yn q' t' l' cs' vs' z' = true ∧ Nz vs') → y7U (again (Sum.inr (k', c, p', s', y, q', t', l', z', cs', vs'))) c) → y7U (Option.bind (Y2 (c, p, s)) fun r3 => Option.bind (Zt (q, t, l, cs, vs, z, r3.1, r3.2.1, r3.2.2.1, r3.2.2.2.1, r3.2.2.2.2.1)) fun r4 => again (Sum.inr ((Go.IntKind.wrap .i64 (k - (1 : Int))), r3.2.2.2.2.2.1, r3.2.2.2.2.2.2.1, r3.2.2.2.2.2.2.2, y, r4.1, r4.2.1, r4.2.2.1, r4.2.2.2.2.2.1, r4.2.2.2.1, r4.2.2.2.2.1))) c := by
  intro k y q t l cs vs z p s hc k0 k1 hT hk hag2
  obtain ⟨kd, n, m, a, b, p2, s2, e2, h2, hn, hm⟩ := yrI c p s hc
  obtain ⟨q', t', l', cs', vs', z', cc, e3, h3⟩ := yba z (KW hT.1).sp hT.1 kd n m a b hn.1 hm.1
  have h3 : yn q' t' l' cs' vs' z' = true ∧ Nz vs' := ⟨h3, by
   obtain ⟨q2, t2, l2, cs2, vs2, z2, c2, e4, h4⟩ := ylz z (KW hT.1).sp hT.2 kd n m a b hn hm
   rw [e3] at e4
   simp only [Option.some.injEq, Prod.mk.injEq] at e4
   rw [e4.2.2.2.2.1]
   exact h4⟩
  have hw : Go.IntKind.wrap .i64 (k - 1) = k - 1 := w64 (by omega) (by omega)
  simp only [e2, e3, Option.bind_some, hw]
  exact hag2 _ _ _ _ _ _ _ _ _ h2 (by omega) (by omega) h3
 cases u with
 | inl u =>
  obtain ⟨k, y, q, t, l, cs, vs, z, p, s, rfl, hc, k0, k1, hT⟩ := hu
  unfold jQ
  simp only [Bool.cond_eq_ite, decide_eq_true_eq]
  by_cases hk : k > 0
  ·simp only [if_pos hk]
   exact step k y q t l cs vs z p s hc k0 k1 hT hk fun k' q' t' l' cs' vs' z' p' s' g1 g2 g3 g4 => hag _ ⟨_, _, _, _, _, _, _, _, _, _, rfl, g1, g2, by omega, g4⟩ (by simp only; omega)
  ·simp only [if_neg hk]
   exact ⟨_, _, _, _, _, _, _, _, rfl, hc, hT⟩
 | inr u =>
  obtain ⟨k, y, q, t, l, cs, vs, z, p, s, rfl, hc, k0, k1, hT⟩ := hu
  unfold jQ
  simp only [Bool.cond_eq_ite, decide_eq_true_eq]
  by_cases hk : k > 0
  ·simp only [if_pos hk]
   exact step k y q t l cs vs z p s hc k0 k1 hT hk fun k' q' t' l' cs' vs' z' p' s' g1 g2 g3 g4 => hag _ ⟨_, _, _, _, _, _, _, _, _, _, rfl, g1, g2, by omega, g4⟩ (by simp only; omega)
  ·simp only [if_neg hk]
   exact ⟨_, _, _, _, _, _, _, _, rfl, hc, hT⟩
theorem ydw (x : List Int) (hx : x.length ≤ 1048576) : ∃ q t l cs vs z o, Jv x = some (q, t, l, cs, vs, z, o) ∧ yn q t l cs vs z = true ∧ Nz vs := by
 obtain ⟨s0, e0⟩ := yrv x (by omega)
 obtain ⟨m, e1, m0, m1⟩ := ylt x 30 (by omega) (by omega)
 obtain ⟨q, t, l, cs, vs, z, p3, s3, e3, h3, hp⟩ := ylA x 0 s0 (8 + m) (yCL x (by omega)) (by omega) (by omega)
 obtain ⟨k, n, y, a, b, p4, s4, e4, h4, _⟩ := yxl x p3 s3 h3
 unfold Jv
 rw [e0]
 simp only [e1, Option.bind_some]
 rw [w64 (n := 8 + m) (by omega) (by omega), e3]
 simp only [e4, Option.bind_some]
 exact ⟨_, _, _, _, _, _, _, rfl, hp⟩
end Go.Proofs.YtgediecndaheiaaGreat.Pl
namespace Go.Proofs.YtgediecndaheiaaGreat.Pl
open Go.Proofs.YtgediecndaheiaaGreat.R Go.Proofs.YtgediecndaheiaaGreat.XS
def upT (u : Option Int) : List Int → Option Int
 | [] => u
 | a :: _ => some a
structure NB (a : Int) (v : Option Int) (n : y0) : Prop where
 ok : YF n = true
 ent : ∀ s ∈ (show List yb from n), ∀ x ∈ (show List y7 from s), a ≤ Qj x ∧ ∀ b, v = some b → Qj x < b
 low : ∀ b, v = some b → a < b
def Wu (u : Option Int) : List Int → List y0 → Prop
 | [], [] => True
 | a :: q, n :: t => NB a (upT u q) n ∧ Wu u q t
 | _, _ => False
theorem Wu.len {u : Option Int} : ∀ {q : List Int} {t : List y0}, Wu u q t → q.length = t.length
 | [], [], _ => rfl
 | a :: q, n :: t, h => by
  have := Wu.len h.2
  simp only [List.length_cons]
  omega
 | [], _ :: _, h => h.elim
 | _ :: _, [], h => h.elim
theorem NB.up {a : Int} {v v' : Option Int} {n : y0} (h : NB a v n) (hv : ∀ b', v' = some b' → ∃ b, v = some b ∧ b ≤ b') : NB a v' n :=
 ⟨h.ok, fun s hs x hx => ⟨(h.ent s hs x hx).1, fun b' e => by
  obtain ⟨b, e1, e2⟩ := hv b' e
  have := (h.ent s hs x hx).2 b e1
  omega⟩, fun b' e => by
  obtain ⟨b, e1, e2⟩ := hv b' e
  have := h.low b e1
  omega⟩
theorem Wu.up {u u' : Option Int} (hv : ∀ b', u' = some b' → ∃ b, u = some b ∧ b ≤ b') : ∀ {q : List Int} {t : List y0}, Wu u q t → Wu u' q t
 | [], [], _ => trivial
 | a :: q, n :: t, h => by
  refine ⟨h.1.up ?_, Wu.up hv h.2⟩
  cases q with
  | nil => exact hv
  | cons b q => exact fun b' e => ⟨b', e, Int.le_refl _⟩
 | [], _ :: _, h => h.elim
 | _ :: _, [], h => h.elim
structure Wt (q : List Int) (t : List y0) : Prop where
 w : Wu none q t
 zero : q.getD 0 0 = 0
 pos : 0 < t.length
 full : ∀ n ∈ t.drop 1, 0 < (yE n).length
end Go.Proofs.YtgediecndaheiaaGreat.Pl
namespace Go.Proofs.YtgediecndaheiaaGreat.Pl
open Go.Proofs.YtgediecndaheiaaGreat.R Go.Proofs.YtgediecndaheiaaGreat.XS
end Go.Proofs.YtgediecndaheiaaGreat.Pl
namespace Go.Proofs.YtgediecndaheiaaGreat.Pl
open Go.Proofs.YtgediecndaheiaaGreat.R Go.Proofs.YtgediecndaheiaaGreat.XS
end Go.Proofs.YtgediecndaheiaaGreat.Pl
namespace Go.Proofs.YtgediecndaheiaaGreat.Pl
open Go.Proofs.YtgediecndaheiaaGreat.R Go.Proofs.YtgediecndaheiaaGreat.XS
theorem ylB {l : List y9} {id : Int} (h : ∀ a ∈ l, a.1 ≠ id) : z9 l id < 0 := by
 refine Decidable.byContradiction fun hn => ?_
 obtain ⟨h1, h2⟩ := kv (l := l) (id := id) (by omega)
 exact h _ (yI zc l (z9 l id) (by omega) h1) h2
theorem yrN {l : List y9} {id : Int} (h : 0 ≤ z9 l id) : ∃ a ∈ l, a.1 = id := by
 obtain ⟨h1, h2⟩ := kv h
 exact ⟨_, yI zc l (z9 l id) h h1, h2⟩
theorem y7V {l : List y9} {a : y9} (ha : a ∈ l) : 0 ≤ z9 l a.1 := by
 refine Decidable.byContradiction fun hn => ?_
 have := qt (p := fun b : y9 => b.1 == a.1) l 0 (Int.le_refl _) (by unfold z9 at hn; omega) a ha
 simp at this
theorem yfw {l : List y9} {id : Int} (h : z9 l id < 0) : Yb l id = [] := by
 unfold Yb
 rw [K8, if_pos h]
section
variable {l : List y9} (h : AgesR l)
include h
theorem y3E : l.Pairwise fun a b : y9 => a.1 < b.1 := List.pairwise_iff_getElem.2 fun i j hi hj hij => by
 have := h.lt (j - (i + 1)) i (by omega)
 rw [show i + 1 + (j - (i + 1)) = j by omega, zd _ _ _ hi, zd _ _ _ hj] at this
 exact this
theorem ylC {a : y9} (ha : a ∈ l) : 1 ≤ a.1 ∧ a.1 ≤ 60 := by
 obtain ⟨i, hi, rfl⟩ := List.mem_iff_getElem.1 ha
 have := h.pos i hi
 rwa [zd _ _ _ hi] at this
theorem ylD {a b : y9} (ha : a ∈ l) (hb : b ∈ l) (he : a.1 = b.1) : a = b := by
 obtain ⟨i, hi, rfl⟩ := List.mem_iff_getElem.1 ha
 obtain ⟨j, hj, rfl⟩ := List.mem_iff_getElem.1 hb
 rcases Nat.lt_trichotomy i j with h1 | h1 | h1
 ·have := List.pairwise_iff_getElem.1 (y3E h) i j hi hj h1
  omega
 ·subst h1
  rfl
 ·have := List.pairwise_iff_getElem.1 (y3E h) j i hj hi h1
  omega
theorem ycw : z9 l 0 < 0 := ylB fun a ha => by
 have := ylC h ha
 omega
theorem ylE {a : y9} (ha : a ∈ l) : l.getD (z9 l a.1).toNat zc = a := by
 have h0 := y7V ha
 obtain ⟨h1, h2⟩ := kv h0
 exact ylD h (yI zc l (z9 l a.1) h0 h1) ha h2
theorem yfx : ∀ (k i : Nat), i ≤ k → i < l.length → ∀ n m : Nat, i < n → i < m → K8 l n (i : Int) = K8 l m (i : Int) := by
 intro k
 induction k with
 | zero =>
  intro i hik hi n m hn hm
  obtain ⟨n, rfl⟩ := Nat.exists_eq_succ_of_ne_zero (show n ≠ 0 by omega)
  obtain ⟨m, rfl⟩ := Nat.exists_eq_succ_of_ne_zero (show m ≠ 0 by omega)
  rw [kp _ _ _ (by omega), kp _ _ _ (by omega)]
  have hi0 : i = 0 := by omega
  subst hi0
  have h0 : (l.getD ((0 : Nat) : Int).toNat zc).2 = 0 := Decidable.byContradiction fun hne => by
   obtain ⟨j, hj, _⟩ := h.frm 0 hi hne
   omega
  have hz := ycw h
  rw [h0]
  cases n <;> cases m <;> simp [K8, hz]
 | succ k ih =>
  intro i hik hi n m hn hm
  obtain ⟨n, rfl⟩ := Nat.exists_eq_succ_of_ne_zero (show n ≠ 0 by omega)
  obtain ⟨m, rfl⟩ := Nat.exists_eq_succ_of_ne_zero (show m ≠ 0 by omega)
  rw [kp _ _ _ (by omega), kp _ _ _ (by omega)]
  congr 1
  rw [Int.toNat_natCast]
  by_cases h0 : (l.getD i zc).2 = 0
  ·have hz := ycw h
   rw [h0]
   cases n <;> cases m <;> simp [K8, hz]
  ·obtain ⟨j, hj, he⟩ := h.frm i hi h0
   have hjl : j < l.length := by omega
   have hmem : l.getD j zc ∈ l := by
    rw [zd _ _ _ hjl]
    exact List.getElem_mem _
   obtain ⟨a1, a2⟩ := kv (y7V hmem)
   have h3 := y7V hmem
   have hat : z9 l (l.getD i zc).2 = (j : Int) := by
    rw [← he]
    rcases Nat.lt_trichotomy (z9 l (l.getD j zc).1).toNat j with h1 | h1 | h1
    ·have := List.pairwise_iff_getElem.1 (y3E h) _ j (by omega) hjl h1
     rw [zd zc l _ (show (z9 l (l.getD j zc).1).toNat < l.length by omega)] at a2
     have e3 := congrArg Prod.fst (zd zc l j hjl)
     omega
    ·omega
    ·have := List.pairwise_iff_getElem.1 (y3E h) j _ hjl (by omega) h1
     rw [zd zc l _ (show (z9 l (l.getD j zc).1).toNat < l.length by omega)] at a2
     have e3 := congrArg Prod.fst (zd zc l j hjl)
     omega
   rw [hat]
   exact ih j (by omega) hjl n m (by omega) (by omega)
theorem y9u {a : y9} (ha : a ∈ l) : Yb l a.1 = a.1 :: Yb l a.2 := by
 have h0 := y7V ha
 have hg := ylE h ha
 have h1 : Yb l a.1 = (l.getD (z9 l a.1).toNat zc).1 :: K8 l l.length (z9 l (l.getD (z9 l a.1).toNat zc).2) := kp l l.length _ h0
 rw [h1, hg]
 congr 1
 by_cases hn : z9 l a.2 < 0
 ·rw [yfw hn]
  cases hl : l.length with
  | zero => rfl
  | succ n => rw [K8, if_pos hn]
 ·obtain ⟨a1, a2⟩ := kv (l := l) (id := a.2) (by omega)
  have := yfx h l.length (z9 l a.2).toNat (by omega) (by omega) l.length (l.length + 1) (by omega) (by omega)
  rw [show (((z9 l a.2).toNat : Nat) : Int) = z9 l a.2 by omega] at this
  exact this
end
section
variable {l : List y9} (h : AgesR l) {i : Nat} (hi : i < l.length)
include h hi
omit h hi in
omit h hi in
omit h in
omit h hi in
end
end Go.Proofs.YtgediecndaheiaaGreat.Pl
namespace Go.Proofs.YtgediecndaheiaaGreat.Pl
open Go.Proofs.YtgediecndaheiaaGreat.R Go.Proofs.YtgediecndaheiaaGreat.XS
def y9A (K : List y7) (l : List y9) (cs : List y8) (v : yc) : List yd := (List.range v.2.2.1.toNat).map fun b : Nat => y3D K l cs b v.2.1
def y1f (K : List y7) (l : List y9) (cs : List y8) (vs : List yc) : List v9 := vs.map fun v : yc => (v.1, v.2.2.2, y9A K l cs v)
section
variable {q : List yd} {t : List y0} {l : List y9} {cs : List y8} {vs : List yc} (z : Int) (h : SP q t l cs vs)
include h
theorem ydx {R : Type} (k n : Int) (k0 : 0 ≤ k) (k1 : k < (vs.length : Int)) (hr : 1 ≤ (ya vs k).2.2.1 ∧ (ya vs k).2.2.1 ≤ 12) (out : List v9) (v1 w1 : ByteArray) (v2 v3 : Int) (v4 w4 : Bool) (hv3 : v3 = (ya vs k).2.2.1) (c0 : _ → Option R) (c1 : _ → Option R) :
  V6 c0 c1 (Sum.inl (k, 0, vs, n, k, q, t, l, cs, vs, z, v1, v2, v3, v4, w1, w4, out)) = c1 (vs, n, k, q, t, l, cs, vs, z, w1, w4, out, y9A (yq t) l cs (ya vs k)) := by
 subst hv3
 unfold V6
 have hblk : ∀ b : Int, 0 ≤ b → b < (ya vs k).2.2.1 → Z0 (q, t, l, cs, vs, z, k, b) = some (y3D (yq t) l cs b (ya vs k).2.1) := fun b b0 b1 => Qe z h k b k0 k1 hr (zp.2 ⟨b0, by rw [w64 (n := (ya vs k).2.2.1 - 1) (by omega) (by omega)]; omega⟩)
 refine jV (step := JM c0 c1) (fun u : kc => match u with | .inl _ => 20 | .inr u => (13 - u.2.1).toNat) (fun u => u = Sum.inl (k, 0, vs, n, k, q, t, l, cs, vs, z, v1, v2, (ya vs k).2.2.1, v4, w1, w4, out) ∨ ∃ b : Nat, u = Sum.inr (k, (b : Int), vs, n, k, q, t, l, cs, vs, z, v1, v2, (ya vs k).2.2.1, v4, w1, w4, out, (List.range b).map fun b : Nat => y3D (yq t) l cs b (ya vs k).2.1) ∧ 1 ≤ b ∧ (b : Int) ≤ (ya vs k).2.2.1) (fun _ res => res = c1 (vs, n, k, q, t, l, cs, vs, z, w1, w4, out, y9A (yq t) l cs (ya vs k))) ?_ _ (.inl rfl) (by simp only; omega)
 rintro again _ (rfl | ⟨b, rfl, b1, b2⟩) hag
 ·unfold JM
  simp only [decide_eq_true (show (0 : Int) < (ya vs k).2.2.1 by omega), cond_true, Option.bind_some, hblk 0 (Int.le_refl _) (by omega), show decide ((0 : Int) < 12) = true from rfl]
  rw [if_pos (by simp only [List.length_cons, List.length_nil]; decide)]
  exact hag _ (.inr ⟨1, rfl, Nat.le_refl _, hr.1⟩) (by simp only; decide)
 ·unfold JM
  by_cases hb : (b : Int) < (ya vs k).2.2.1
  ·have hw : Go.IntKind.wrap .i64 ((b : Int) + 1) = (b : Int) + 1 := w64 (by omega) (by omega)
   simp only [decide_eq_true hb, cond_true, Option.bind_some, hblk b (by omega) hb, decide_eq_true (show (b : Int) < 12 by omega), hw]
   rw [if_pos (by simp only [List.length_map, List.length_range, List.length_cons, List.length_nil]; omega)]
   refine hag _ (.inr ⟨b + 1, ?_, by omega, by omega⟩) (by simp only; omega)
   rw [List.range_succ, List.map_append]
   simp
  ·simp only [decide_eq_false hb, cond_false, Option.bind_some]
   have : b = (ya vs k).2.2.1.toNat := by omega
   unfold y9A
   rw [this]
theorem y5j (hr : ∀ k, 0 ≤ k → k < (vs.length : Int) → 1 ≤ (ya vs k).2.2.1 ∧ (ya vs k).2.2.1 ≤ 12) : jD (q, t, l, cs, vs, z) = some (y1f (yq t) l cs vs) := by
 have hv := h.S.2.2.2.2.2
 unfold jD QZ
 refine jV (step := kf _) (fun u : ke => vs.length + 1 - u.2.2.1.toNat) (fun u => ∃ k : Nat, u = (vs, (vs.length : Int), (k : Int), q, t, l, cs, vs, z, (vs.take k).map fun v : yc => (v.1, v.2.2.2, y9A (yq t) l cs v)) ∧ k ≤ vs.length) (fun _ res => res = some (y1f (yq t) l cs vs)) ?_ _ ⟨0, by simp, Nat.zero_le _⟩ (by simp only; omega)
 rintro again _ ⟨k, rfl, k1⟩ hag
 unfold kf
 by_cases hk : (k : Int) < (vs.length : Int)
 ·have hw : Go.IntKind.wrap .i64 ((k : Int) + 1) = (k : Int) + 1 := w64 (by omega) (by omega)
  simp only [decide_eq_true hk, cond_true]
  rw [if_pos (by omega), if_pos hk, ydx z h (k : Int) _ (by omega) hk (hr k (by omega) hk) _ _ _ _ _ _ _ rfl]
  simp only [hw]
  rw [if_pos (by simp only [List.length_map, List.length_take, List.length_cons, List.length_nil]; omega)]
  refine hag _ ⟨k + 1, ?_, by omega⟩ (by simp only; omega)
  rw [List.take_succ_eq_append_getElem (by omega), List.map_append, ← zd yp vs k (by omega)]
  rfl
 ·simp only [decide_eq_false hk, cond_false]
  unfold y1f
  rw [List.take_of_length_le (by omega)]
theorem ylF (hp : yn q t l cs vs z = true) : jD (q, t, l, cs, vs, z) = some (y1f (yq t) l cs vs) :=
 y5j z h fun k k0 k1 => by
  have := (y0i hp).size k.toNat (by omega)
  rwa [← y4N, show ((k.toNat : Nat) : Int) = k by omega] at this
end
theorem yhO (K : List y7) (l : List y9) (cs : List y8) (v : yc) : (y9A K l cs v).length = v.2.2.1.toNat := by
 unfold y9A
 rw [List.length_map, List.length_range]
end Go.Proofs.YtgediecndaheiaaGreat.Pl
namespace Go.Proofs.YtgediecndaheiaaGreat.Pl
open Go.Proofs.YtgediecndaheiaaGreat.R Go.Proofs.YtgediecndaheiaaGreat.XS
theorem y9v {A B : Type} (p : B → Bool) (f : A → B) : ∀ (l : List A) (i : Int), zX p (l.map f) i = zX (fun a => p (f a)) l i
 | [], _ => rfl
 | a :: l, i => by
  rw [List.map_cons, zX, zX, y9v p f l (i + 1)]
theorem qx {n x : y9} : ∀ {l : List y9}, x = n ∨ x ∈ l → x ∈ qw n l
 | [], h => by
  rw [qw]
  rcases h with rfl | h
  ·simp
  ·cases h
 | a :: l, h => by
  rw [qw]
  split
  ·exact List.mem_cons.2 h
  ·rcases h with h | h
   ·exact List.mem_cons_of_mem _ (qx (.inl h))
   ·rcases List.mem_cons.1 h with rfl | h
    ·exact List.mem_cons_self
    ·exact List.mem_cons_of_mem _ (qx (.inr h))
theorem y0y {w v : yc} : ∀ {l : List yc}, v = w ∨ v ∈ l → v ∈ jj w l
 | [], h => by
  rw [jj]
  rcases h with rfl | h
  ·simp
  ·cases h
 | a :: l, h => by
  rw [jj]
  split
  ·exact List.mem_cons.2 h
  ·rcases h with h | h
   ·exact List.mem_cons_of_mem _ (y0y (.inl h))
   ·rcases List.mem_cons.1 h with rfl | h
    ·exact List.mem_cons_self
    ·exact List.mem_cons_of_mem _ (y0y (.inr h))
theorem y4R (l : List y9) (id fr : Int) : (Kb l id fr).1.length ≤ l.length + 1 := by
 unfold Kb
 split
 ·exact Nat.le_succ _
 ·rw [y2t]
  exact Nat.le_refl _
theorem y66 {l : List y9} {id fr : Int} (h : (Kb l id fr).2 = true) : (Kb l id fr).1 = qw (id, fr) l := by
 unfold Kb at h ⊢
 split
 ·rename_i hh
  rw [if_pos hh] at h
  cases h
 ·rfl
theorem y7W (m : List v9) (n : ByteArray) (hv : m.length ≤ 1048576) : ZA (m, n) = some (zX (fun v : v9 => ByteArray.toList v.1 == ByteArray.toList n) m 0) := by
 unfold ZA zo YT
 have key := YU (step := yZ (fun x2 => some x2) (fun x3 => some ((-1 : Int), x3))) (fun i => (m, (m.length : Int), i, n)) (fun v : v9 => ByteArray.toList v.1 == ByteArray.toList n) (fun i => some (i, n)) (some (-1, n)) yjq m (by omega) (fun again i h0 h1 => by
  have hw : Go.IntKind.wrap .i64 (i + 1) = i + 1 := w64 (by omega) (by omega)
  unfold yZ Kn
  simp only [Bool.cond_eq_ite, decide_eq_true_eq, h0, h1, if_true, hw, Option.bind_some]
  rfl) (fun again i hi => by
  unfold yZ
  simp only [Bool.cond_eq_ite, decide_eq_true_eq, if_neg hi])
 simp only
 rw [key]
 rcases YJ (fun v : v9 => ByteArray.toList v.1 == ByteArray.toList n) yjq m 0 (Int.le_refl _) with h | ⟨h1, h2, _⟩
 ·rw [h]
  rfl
 ·rw [if_neg (by omega)]
  rfl
theorem y9w (K : List y7) (l : List y9) (cs : List y8) (vs : List yc) (n : ByteArray) (hv : vs.length ≤ 1048576) : ZA (y1f K l cs vs, n) = some (yG vs n) := by
 rw [y7W _ _ (by unfold y1f; rw [List.length_map]; exact hv)]
 unfold y1f
 rw [y9v]
 rfl
theorem y7X (a : List Int) (ha : a.length ≤ 1048576) : YC (a, a) = some true := by
 unfold YC kZ
 simp only [bne_self_eq_false, cond_false]
 refine jV (step := Yp _ _) (fun u : wd => a.length + 1 - u.2.2.toNat) (fun u => ∃ k : Nat, u = (a, a, (k : Int)) ∧ k ≤ a.length) (fun _ res => res = some true) ?_ _ ⟨0, rfl, Nat.zero_le _⟩ (by simp only; omega)
 rintro again _ ⟨k, rfl, k1⟩ hag
 unfold Yp
 by_cases hk : (k : Int) < (a.length : Int)
 ·have hw : Go.IntKind.wrap .i64 ((k : Int) + 1) = (k : Int) + 1 := w64 (by omega) (by omega)
  simp only [decide_eq_true hk, cond_true, bne_self_eq_false, cond_false, hw]
  rw [if_pos (by omega), if_pos hk, if_pos (by omega), if_pos hk]
  exact hag _ ⟨k + 1, rfl, by omega⟩ (by simp only; omega)
 ·simp only [decide_eq_false hk, cond_false]
theorem yfy {K : List y7} {l : List y9} {cs : List y8} {va z : Int} (hK : srt K) (hL : AgesR l) (h1 : (z, va) ∈ l) (h2 : (z + 1, va) ∈ l) (hk : ∀ c ∈ K, c.2.1 < z) (b : Int) : y3D K l cs b z = y3D K l cs b (z + 1) := by
 have p1 : Yb l z = z :: Yb l va := y9u hL h1
 have p2 : Yb l (z + 1) = (z + 1) :: Yb l va := y9u hL h2
 have e : Y1 (zZ K b) (Yb l z) = Y1 (zZ K b) (Yb l (z + 1)) := ydv hK hK fun c _ => by
  rw [p1, p2]
  constructor
  ·rintro ⟨hc, hm⟩
   have := hk c hc
   rcases List.mem_cons.1 hm with hm | hm
   ·omega
   ·exact ⟨hc, List.mem_cons_of_mem _ hm⟩
  ·rintro ⟨hc, hm⟩
   have := hk c hc
   rcases List.mem_cons.1 hm with hm | hm
   ·omega
   ·exact ⟨hc, List.mem_cons_of_mem _ hm⟩
 unfold y3D
 rw [e]
theorem yhP : Yf KX = true := by decide
section
variable {q : List yd} {t : List y0} {l : List y9} {cs : List y8} {vs : List yc} (z : Int) (h : SP q t l cs vs) (hp : yn q t l cs vs z = true)
include h hp
theorem yhQ {i : Nat} (hi : i < vs.length) (f : Bool) (hz : yG vs KX < 0) : jC (q, t, l, cs, vs, z, (vs.getD i yp).1, KX, f) = some (q, t, l, cs, vs, z, 6) ∨
  ∃ l2 vs2, jC (q, t, l, cs, vs, z, (vs.getD i yp).1, KX, f) = some (q, t, l2, cs, vs2, z + 2, 0) ∧ yn q t l2 cs vs2 (z + 2) = true ∧ ((vs.getD i yp).1, z, (vs.getD i yp).2.2) ∈ vs2 ∧ (KX, z + 1, (vs.getD i yp).2.2.1, f) ∈ vs2 ∧ (z, (vs.getD i yp).2.1) ∈ l2 ∧ (z + 1, (vs.getD i yp).2.1) ∈ l2 := by
 have hr := y0i hp
 have hT := KW hp
 have hnx := hr.next
 have hno := hr.name i hi
 have hn := qS hno
 have h0 : (0 : Int) ≤ (i : Int) := by omega
 have h1 : (i : Int) < ((List.length vs : Nat) : Int) := by omega
 have hl := hT.ll
 have hvl := hT.vl
 have w1 : Go.IntKind.wrap .i64 (z + 1) = z + 1 := w64 (by omega) (by omega)
 have w2 : Go.IntKind.wrap .i64 (z + 2) = z + 2 := w64 (by omega) (by omega)
 have hzs : ByteArray.size KX ≤ 60 := by decide
 have n1 := y4R l z (vs.getD i yp).2.1
 have n2 := y4R (Kb l z (vs.getD i yp).2.1).1 (z + 1) (vs.getD i yp).2.1
 have hmem : vs.getD i yp ∈ vs := by
  rw [zd _ _ _ hi]
  exact List.getElem_mem _
 have e1 := y0U l z (vs.getD i yp).2.1 (by omega)
 have e2 := y0U (Kb l z (vs.getD i yp).2.1).1 (z + 1) (vs.getD i yp).2.1 (by omega)
 have e3 := y2u (vs.set i ((vs.getD i yp).1, z, (vs.getD i yp).2.2)) KX (z + 1) (vs.getD i yp).2.2.1 f (by rw [List.length_set]; omega)
 have hS : SP q t (Kb (Kb l z (vs.getD i yp).2.1).1 (z + 1) (vs.getD i yp).2.1).1 cs (jj (KX, z + 1, (vs.getD i yp).2.2.1, f) (vs.set i ((vs.getD i yp).1, z, (vs.getD i yp).2.2))) := by
  refine SP.of h.tq (by omega) h.S.2.2.2.2.1 (by rw [vg, List.length_set]; omega) fun v hv => ?_
  rcases Ke hv with rfl | hv
  ·exact kC hzs
  ·rcases List.mem_or_eq_of_mem_set hv with hv | rfl
   ·exact h.N v hv
   ·exact (show ByteArray.size (vs.getD i yp).1 ≤ maxLen from h.N _ hmem)
 unfold jC
 simp only [qT q t l cs vs z _ h.S.2.2.2.2.2, ZO z h, hp, J4 _ (kC (Nat.le_trans hn (by omega))), hno, J4 KX (kC hzs), yhP, Option.bind_some, Bool.not_true, cond_false, y9t hr.srt hi, yhA z h, decide_eq_false (show ¬ (i : Int) < 0 by omega), decide_eq_false (show ¬ yG vs KX ≥ 0 by omega), if_pos h0, if_pos h1, y4N, w1, w2, Int.toNat_natCast, e1, e2, e3, y9h]
 generalize hA : Kb l z (vs.getD i yp).2.1 = A at *
 generalize hB : Kb A.1 (z + 1) (vs.getD i yp).2.1 = B at *
 have fin : ∀ b : Bool, (b = true → A.2 = true ∧ B.2 = true) → (Yz (q, t, l, cs, vs, z, q, t, B.1, cs, jj (KX, z + 1, (vs.getD i yp).2.2.1, f) (vs.set i ((vs.getD i yp).1, z, (vs.getD i yp).2.2)), z + 2, b) = some (q, t, l, cs, vs, z, 6) ∨ ∃ l2 vs2, Yz (q, t, l, cs, vs, z, q, t, B.1, cs, jj (KX, z + 1, (vs.getD i yp).2.2.1, f) (vs.set i ((vs.getD i yp).1, z, (vs.getD i yp).2.2)), z + 2, b) = some (q, t, l2, cs, vs2, z + 2, 0) ∧ yn q t l2 cs vs2 (z + 2) = true ∧ ((vs.getD i yp).1, z, (vs.getD i yp).2.2) ∈ vs2 ∧ (KX, z + 1, (vs.getD i yp).2.2.1, f) ∈ vs2 ∧ (z, (vs.getD i yp).2.1) ∈ l2 ∧ (z + 1, (vs.getD i yp).2.1) ∈ l2) := by
  intro b hb
  rw [y5Z z h hS b]
  by_cases hc : b = true ∧ yn q t B.1 cs (jj (KX, z + 1, (vs.getD i yp).2.2.1, f) (vs.set i ((vs.getD i yp).1, z, (vs.getD i yp).2.2))) (z + 2) = true
  ·rw [if_pos hc]
   obtain ⟨b1, b2⟩ := hb hc.1
   have a1 := y66 (by rw [hA]; exact b1)
   have a2 := y66 (by rw [hB]; exact b2)
   rw [hA] at a1
   rw [hB] at a2
   refine .inr ⟨B.1, _, rfl, hc.2, y0y (.inr (List.mem_iff_getElem.2 ⟨i, by rw [List.length_set]; exact hi, by rw [List.getElem_set_self]⟩)), y0y (.inl rfl), ?_, ?_⟩
   ·rw [a2, a1]
    exact qx (.inr (qx (.inl rfl)))
   ·rw [a2]
    exact qx (.inl rfl)
  ·rw [if_neg hc]
   exact .inl rfl
 cases h2 : A.2 with
 | false => exact fin false (fun e => by cases e)
 | true => exact fin B.2 (fun e => ⟨h2, e⟩)
end
theorem yrO {vs : List yc} (hz : Nz vs) : yG vs KX < 0 := by
 rcases YJ (fun v : yc => ByteArray.toList v.1 == ByteArray.toList KX) yp vs 0 (Int.le_refl _) with h | ⟨h1, h2, h3⟩
 ·unfold yG
  omega
 ·rw [Int.sub_zero] at h3
  have hm := hz _ (yI yp vs (zX (fun v : yc => ByteArray.toList v.1 == ByteArray.toList KX) vs 0) h1 (by omega))
  unfold noZ at hm
  rw [hm] at h3
  cases h3
theorem ydy {q : List yd} {t : List y0} {l : List y9} {cs : List y8} {vs : List yc} (z : Int) (h : SP q t l cs vs) : jg (q, t, l, cs, vs, z, q, t, l, cs, vs, z) = some true := by
 rw [y3g z h.S, y5i]
theorem law_Snaps (x : List Int) (hbx : isBytes x) : ZN x = some true := by
 unfold ZN y0p
 simp only [Option.bind_some]
 cases hbig : decide ((List.length x : Int) > (1048576 : Int)) with
 | true => rfl
 | false =>
  have hx : x.length ≤ 1048576 := by
   have := of_decide_eq_false hbig
   omega
  obtain ⟨q, t, l, cs, vs, z, o, e, hp, hz⟩ := ydw x hx
  have h := (KW hp).sp
  have hr := y0i hp
  have hzn := yrO hz
  obtain ⟨r4, e4, a4, _⟩ := yiZ x 2 hbx hx (by omega) (by omega)
  obtain ⟨r5, e5, a5, _⟩ := yiZ x 3 hbx hx (by omega) (by omega)
  simp only [e, e4, e5, Option.bind_some, cond_false]
  by_cases hv : vs.length = 0
  ·have hv0 : vs = [] := List.length_eq_zero_iff.1 hv
   subst hv0
   have hsn : jC (q, t, l, cs, [], z, { data := #[97] }, { data := #[122] }, false) = some (q, t, l, cs, [], z, 2) := by
    unfold jC
    simp only [qT q t l cs [] z _ h.S.2.2.2.2.2, ZO z h, hp, J4 { data := #[97] } (by decide), J4 { data := #[122] } (by decide), show Yf { data := #[97] } = true by decide, show Yf { data := #[122] } = true by decide, Option.bind_some, Bool.not_true, cond_false, yhA z h, show decide (yG [] { data := #[97] } < 0) = true from rfl, cond_true]
   simp only [List.length_nil, hsn, Option.bind_some]
   rfl
  ·have hlen : ((List.length vs : Int) == (0 : Int)) = false := beq_eq_false_iff_ne.2 (by omega)
   have hm : Int.tmod r4 (List.length vs : Int) = ((r4 % (List.length vs : Int)).toNat : Nat) := by
    rw [Int.tmod_eq_emod_of_nonneg a4]
    have := Int.emod_nonneg r4 (show (List.length vs : Int) ≠ 0 by omega)
    omega
   have hi : (r4 % (List.length vs : Int)).toNat < vs.length := by
    have := Int.emod_lt_of_pos r4 (show (0 : Int) < (List.length vs : Int) by omega)
    have := Int.emod_nonneg r4 (show (List.length vs : Int) ≠ 0 by omega)
    omega
   rw [hm]
   generalize (r4 % (List.length vs : Int)).toNat = i at hi
   generalize (Int.tmod r5 (2 : Int) == (0 : Int)) = f
   have h0 : (0 : Int) ≤ (i : Int) := by omega
   have h1 : (i : Int) < (List.length vs : Int) := by omega
   simp only [hlen, cond_false, if_neg (show ¬ (List.length vs : Int) = 0 by omega), if_pos h0, if_pos h1, y4N]
   have hsn := yhQ z h hp hi f hzn
   have hzz : ({ data := #[122] } : ByteArray) = KX := rfl
   rw [hzz]
   rcases hsn with es | ⟨l2, vs2, es, hp2, m1, m2, g1, g2⟩
   ·rw [es]
    simp only [Option.bind_some, show ((6 : Int) != 0) = true from rfl, show ((6 : Int) == 6) = true from rfl, cond_true, ydy z h]
   ·rw [es]
    have h2 := (KW hp2).sp
    have hr2 := y0i hp2
    obtain ⟨j, hj, ej⟩ := List.mem_iff_getElem.1 m1
    obtain ⟨k, hk, ek⟩ := List.mem_iff_getElem.1 m2
    rw [← zd yp vs2 j hj] at ej
    rw [← zd yp vs2 k hk] at ek
    have vj := y9t hr2.srt hj
    have vk := y9t hr2.srt hk
    have hs := hr.size i hi
    have hoff := hr2.off hj hk
    have sj := hr2.size j hj
    have sk := hr2.size k hk
    have hvl2 := hr2.few
    have hsnap : ∀ b, y3D (yq t) l2 cs b z = y3D (yq t) l2 cs b (z + 1) := yfy (vf hr.tree).srt (yfj hr2.ages) g1 g2 fun c hc => by
     obtain ⟨a, ha, he⟩ := yrN (ylu hr.fit hc)
     have := hr.late a ha
     omega
    have hjk : j ≠ k := fun e => by
     rw [e, ek] at ej
     injection ej with _ ej
     injection ej with ej _
     omega
    have rdv : ∀ q t cs, SP q t l2 cs vs2 → yn q t l2 cs vs2 (z + 2) = true → wW (q, t, l2, cs, vs2, z + 2, KX, 0) = some (y3D (yq t) l2 cs 0 (z + 1), 0) := by
     intro q t cs hS hP
     have hn := qS ((y0i hP).name k hk)
     have := yhC (z + 2) hS (vs2.getD k yp).1 0 (Nat.le_trans hn (by omega)) hP ((y0i hP).name k hk) (by rw [vk]; omega) (by rw [vk, y4N]; exact ⟨Int.le_refl _, by omega⟩)
     rw [vk, y4N] at this
     rw [ek] at this
     exact this
    have hread : ∃ q3 t3 cs3 d, ZC (q, t, l2, cs, vs2, z + 2, (vs.getD i yp).1, 0, 4321) = some (q3, t3, l2, cs3, vs2, z + 2, d) ∧ wW (q3, t3, l2, cs3, vs2, z + 2, KX, 0) = some (y3D (yq t) l2 cs 0 (z + 1), 0) ∧ Yy (q3, t3, l2, cs3, vs2, z + 2) = some true := by
     have nj : (vs2.getD j yp).1 = (vs.getD i yp).1 := by rw [ej]
     have aj : (vs2.getD j yp).2.1 = z := by rw [ej]
     have ak : (vs2.getD k yp).2.1 = z + 1 := by rw [ek]
     rw [← nj]
     have hb0 : (0 : Int) ≤ 0 ∧ (0 : Int) < (vs2.getD j yp).2.2.1 := ⟨Int.le_refl _, by omega⟩
     cases hfx : (vs2.getD j yp).2.2.2 with
     | true => exact ⟨q, t, cs, 5, ybd (z + 2) h2 hp2 hj hb0 hfx, rdv q t cs h2 hp2, by rw [ZO (z + 2) h2, hp2]⟩
     | false =>
      rcases yft (z + 2) h2 hp2 hj hb0 hfx (show isW 4321 = true by decide) with ew | ⟨q', t', cs', ew, hp', els, _⟩
      ·exact ⟨q, t, cs, 6, ew, rdv q t cs h2 hp2, by rw [ZO (z + 2) h2, hp2]⟩
      ·refine ⟨q', t', cs', 0, ew, ?_, by rw [ZO (z + 2) (KW hp').sp, hp']⟩
       rw [rdv q' t' cs' (KW hp').sp hp', els 0 (z + 1) (.inr (by rw [← ak]; exact hoff hjk))]
    obtain ⟨q3, t3, cs3, d, ew, er, eo⟩ := hread
    have hmaps : jD (q, t, l2, cs, vs2, z + 2) = some (y1f (yq t) l2 cs vs2) := ylF (z + 2) h2 hp2
    have hml : (y1f (yq t) l2 cs vs2).length = vs2.length := by unfold y1f; rw [List.length_map]
    have at1 : ZA (y1f (yq t) l2 cs vs2, (vs.getD i yp).1) = some (j : Int) := by
     rw [y9w _ _ _ _ _ (by omega)]
     rw [ej] at vj
     rw [vj]
    have at2 : ZA (y1f (yq t) l2 cs vs2, KX) = some (k : Int) := by
     rw [y9w _ _ _ _ _ (by omega)]
     rw [ek] at vk
     rw [vk]
    have rdm : ∀ m : Nat, m < vs2.length → y1B (y1f (yq t) l2 cs vs2) (m : Int) = ((vs2.getD m yp).1, (vs2.getD m yp).2.2.2, y9A (yq t) l2 cs (vs2.getD m yp)) := fun m hm => by
     show (y1f (yq t) l2 cs vs2).getD ((m : Int)).toNat yjq = _
     rw [Int.toNat_natCast, zd _ _ _ (by rw [hml]; exact hm), zd _ _ _ hm]
     unfold y1f
     rw [List.getElem_map]
    have hblk : y9A (yq t) l2 cs (vs2.getD j yp) = y9A (yq t) l2 cs (vs2.getD k yp) := by
     rw [ej, ek]
     unfold y9A
     refine List.map_congr_left fun b _ => ?_
     exact hsnap b
    have hblen : (y9A (yq t) l2 cs (vs2.getD k yp)).length = (vs2.getD k yp).2.2.1.toNat := yhO _ _ _ _
    have hfk : (vs2.getD k yp).2.2.2 = f := by rw [ek]
    have hzero : zw (y9A (yq t) l2 cs (vs2.getD k yp)) 0 = y3D (yq t) l2 cs 0 (z + 1) := by
     have ak : (vs2.getD k yp).2.1 = z + 1 := by rw [ek]
     show (y9A (yq t) l2 cs (vs2.getD k yp)).getD (Int.toNat 0) 0 = _
     rw [zd _ _ _ (by rw [hblen]; show 0 < _; omega)]
     unfold y9A
     rw [List.getElem_map, List.getElem_range, ak]
     rfl
    have keys : ∀ {q : List yd} {t : List y0}, TOk t → zD (q, t) = some (yq t) := fun {q t} ht => KR q t (by have := ht.len; omega) ht.nodes ht.sum
    simp only [Option.bind_some, show ((0 : Int) != 0) = false from rfl, cond_false, hmaps, at1, at2, ew, er, decide_eq_true (show (j : Int) ≥ 0 by omega), decide_eq_true (show (k : Int) ≥ 0 by omega), cond_true, hml, if_pos (show (0 : Int) ≤ (j : Int) by omega), if_pos (show (j : Int) < (vs2.length : Int) by omega), if_pos (show (0 : Int) ≤ (k : Int) by omega), if_pos (show (k : Int) < (vs2.length : Int) by omega), rdm j hj, rdm k hk, hblk, y7X _ (show (y9A (yq t) l2 cs (vs2.getD k yp)).length ≤ 1048576 by rw [hblen]; omega), beq_self_eq_true, y2N cs (show cs.length ≤ 1048576 by rw [y7N hr.cells]; decide), keys h.tq.T, hfk, if_pos (show (0 : Int) ≤ (0 : Int) by decide), hzero, eo]
    rw [if_pos (by rw [hblen]; omega)]
    simp only [cond_true, Option.bind_some]
    cases hd : (d != (0 : Int)) <;> rfl
end Go.Proofs.YtgediecndaheiaaGreat.Pl
