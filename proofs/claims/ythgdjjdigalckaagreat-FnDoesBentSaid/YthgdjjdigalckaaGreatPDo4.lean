/- Prune2, Draw, Crc, ReadW, Four, Crc1, Draw2, Put4, Txt, PutPool, Ops, Apply, Apply2, Take, Do1, Do2, Do3, Apply3, EntDraw, DrawP, DrawQ, Same, Do4. No condition. -/
import Derived.Test.YthgdjjdigalckaaGreatPPrune
set_option linter.all false
namespace Go.Proofs.YthgdjjdigalckaaGreat.Pl
open Go.Proofs.YthgdjjdigalckaaGreat.R Go.Proofs.YthgdjjdigalckaaGreat.XB
theorem ygQ : (((0 : Int)) == 0) = true := rfl
theorem ygR : (((0 : Int)) == 1) = false := rfl
theorem ygS : (((0 : Int)) == 2) = false := rfl
theorem ygT : (((0 : Int)) == 3) = false := rfl
theorem ygU : (((0 : Int)) == 4) = false := rfl
theorem ygV : (((1 : Int)) == 0) = false := rfl
theorem ygW : (((1 : Int)) == 1) = true := rfl
theorem ygX : (((1 : Int)) == 2) = false := rfl
theorem ygY : (((1 : Int)) == 3) = false := rfl
theorem ygZ : (((1 : Int)) == 4) = false := rfl
theorem yh0 : (((2 : Int)) == 0) = false := rfl
theorem yh1 : (((2 : Int)) == 1) = false := rfl
theorem yh2 : (((2 : Int)) == 2) = true := rfl
theorem yh3 : (((2 : Int)) == 3) = false := rfl
theorem yh4 : (((2 : Int)) == 4) = false := rfl
theorem yh5 : (((3 : Int)) == 0) = false := rfl
theorem yh6 : (((3 : Int)) == 1) = false := rfl
theorem yh7 : (((3 : Int)) == 2) = false := rfl
theorem yh8 : (((3 : Int)) == 3) = true := rfl
theorem yh9 : (((3 : Int)) == 4) = false := rfl
theorem yha : (((4 : Int)) == 0) = false := rfl
theorem yhb : (((4 : Int)) == 1) = false := rfl
theorem yhc : (((4 : Int)) == 2) = false := rfl
theorem yhd : (((4 : Int)) == 3) = false := rfl
theorem yhe : (((4 : Int)) == 4) = true := rfl
theorem yup : (((0 : Int)) != 0) = false := rfl
theorem ybV : (((0 : Int)) != 3) = true := rfl
theorem yuq : (((1 : Int)) != 0) = true := rfl
theorem ybW : (((1 : Int)) != 3) = true := rfl
theorem yur : (((2 : Int)) != 0) = true := rfl
theorem ybX : (((2 : Int)) != 3) = true := rfl
theorem yus : (((3 : Int)) != 0) = true := rfl
theorem ybY : (((3 : Int)) != 3) = false := rfl
theorem yut : (((4 : Int)) != 0) = true := rfl
theorem ybZ : (((4 : Int)) != 3) = true := rfl
section
variable {q : List yd} {t : List y0} {l : List ya} {cs : List y7} {vs : List ye} (z : Int) (h : SP q t l cs vs)
theorem y88 {q' : List yd} {t' : List y0} {l' : List ya} {cs' : List y7} (ok : Bool) (h' : SP q' t' l' cs' vs) : (Option.bind (bif (!ok) then some true else Option.bind (yJ (q', t', l', cs', vs, z)) fun r6 => some (!r6)) fun u5 => bif u5 then some (q, t, l, cs, vs, z, false) else some (q', t', l', cs', vs, z, true)) = some (yeF (ymp (q, t, l, cs, vs, z) ((q', t', l', cs', vs, z), ok))) := by
 rw [ZF z h']
 unfold ymp ym2 yeF
 cases ok with
 | false => rfl
 | true =>
  simp only [Option.bind_some, Bool.not_true, cond_false, Bool.true_and]
  cases yQ q' t' l' cs' vs z <;> rfl
include h
theorem y2v : Ya (q, t, l, cs, vs, z) = some (yeF (y61 q t l cs vs z)) := by
 have hq := h.tq
 have hl := h.S.2.2.2.1
 have hc := h.S.2.2.2.2.1
 have hv := h.S.2.2.2.2.2
 obtain ⟨⟨step, i⟩, hn⟩ := ycT q t l cs vs z
 have eK : yL (q, t) = some (zF t) := Yy q t (by have := hq.T.len; omega) hq.T.nodes hq.T.sum
 unfold Ya
 simp only [y0l q t l cs vs z h.S, y9s q t l cs vs z hq.T hq.q hl hc hv h.N, hn, eK, Option.bind_some]
 have hp : y61 q t l cs vs z = if step = 0 then ((q, t, l, cs, vs, z), false) else ymp (q, t, l, cs, vs, z) (W0 q t l cs vs z step i) := by
  unfold y61
  rw [hn]
 have erd : y6 (zF t) i = JZ t i := rfl
 have h12 : ∀ s : Int, s = 1 ∨ s = 2 → (Option.bind (ZD (q, t, l, cs, vs, z, (JZ t i).1, (JZ t i).2.1, (JZ t i).2.2.1, (JZ t i).2.2.2.1, (JZ t i).2.2.2.2)) fun r4 => Option.bind (bif (!r4.1) then some true else Option.bind (yJ (r4.2.1, r4.2.2.1, r4.2.2.2.1, r4.2.2.2.2.1, r4.2.2.2.2.2.1, r4.2.2.2.2.2.2)) fun r6 => some (!r6)) fun u5 => bif u5 then some (q, t, l, cs, vs, z, false) else some (r4.2.1, r4.2.2.1, r4.2.2.2.1, r4.2.2.2.2.1, r4.2.2.2.2.2.1, r4.2.2.2.2.2.2, true)) = some (yeF (ymp (q, t, l, cs, vs, z) (W0 q t l cs vs z s i))) := by
  intro s hs
  have hT := yeG z h s i
  unfold W0 at hT ⊢
  rw [if_pos hs] at hT ⊢
  rw [y9u z h]
  change Option.bind (some (if (yx q t (y2u (JZ t i))).2.2 = true then _ else _)) _ = _
  cases hr : (yx q t (y2u (JZ t i))).2.2 with
  | false => rfl
  | true => exact y88 z true hT
 rcases ycU q t l cs vs z hn with rfl | ⟨hs, i0, i1, hk⟩ | ⟨rfl, i0, i1⟩
 ·rw [hp, if_pos rfl]
  rfl
 ·rcases hs with rfl | rfl | rfl
  ·rw [hp, if_neg (show ¬ ((1 : Int) = 0) by decide)]
   simp only [ygQ, ygR, ygS, ygT, ygU, ygV, ygW, ygX, ygY, ygZ, yh0, yh1, yh2, yh3, yh4, yh5, yh6, yh7, yh8, yh9, yha, yhb, yhc, yhd, yhe, yup, ybV, yuq, ybW, yur, ybX, yus, ybY, yut, ybZ, cond_true, cond_false, erd]
   rw [if_pos i0, if_pos i1]
   exact h12 1 (.inl rfl)
  ·rw [hp, if_neg (show ¬ ((2 : Int) = 0) by decide)]
   simp only [ygQ, ygR, ygS, ygT, ygU, ygV, ygW, ygX, ygY, ygZ, yh0, yh1, yh2, yh3, yh4, yh5, yh6, yh7, yh8, yh9, yha, yhb, yhc, yhd, yhe, yup, ybV, yuq, ybW, yur, ybX, yus, ybY, yut, ybZ, cond_true, cond_false, erd]
   rw [if_pos i0, if_pos i1]
   exact h12 2 (.inr rfl)
  ·rw [hp, if_neg (show ¬ ((3 : Int) = 0) by decide)]
   have hT := yeG z h 3 i
   unfold W0 at hT ⊢
   rw [if_neg (show ¬ ((3 : Int) = 1 ∨ (3 : Int) = 2) by decide), if_pos (show (3 : Int) = 3 from rfl)] at hT ⊢
   simp only [ygQ, ygR, ygS, ygT, ygU, ygV, ygW, ygX, ygY, ygZ, yh0, yh1, yh2, yh3, yh4, yh5, yh6, yh7, yh8, yh9, yha, yhb, yhc, yhd, yhe, yup, ybV, yuq, ybW, yur, ybX, yus, ybY, yut, ybZ, cond_true, cond_false, erd]
   rw [if_pos i0, if_pos i1]
   obtain ⟨⟨a, b, c, d, e⟩, hx⟩ : ∃ x, JZ t i = x := ⟨_, rfl⟩
   rw [hx] at hk hT ⊢
   have h1 := Kh (a, b, 0, 0, 0) hq
   have hone : y9k vs b = true ∧ ((Yx l b).length : Int) = 1 := by
    unfold Je yeE at hk
    rw [if_neg (show ¬ (3 : Int) = 1 by decide), if_neg (show ¬ (3 : Int) = 2 by decide)] at hk
    simp only [Bool.and_eq_true, beq_iff_eq] at hk
    exact hk.1
   have eKid : Zu (q, t, l, cs, vs, z, b) = some ((Yx l b).getD 0 0) := by
    unfold Zu
    simp only [Kt l b hl, y0m q t l cs vs z b hv, hone.1, Bool.not_true, cond_false, Option.bind_some]
    rw [show (((List.length (Yx l b) : Nat) : Int) != 1) = false by rw [hone.2]; rfl, cond_false, if_pos (by omega), if_pos (by omega)]
    rfl
   simp only [y2u] at hT ⊢
   simp only [Z4 q t a b 0 0 0 hq.T hq.Q hq.q, eKid, Option.bind_some]
   rw [Z4 _ _ a ((Yx l b).getD 0 0) c d e h1.T h1.Q h1.q]
   simp only [Option.bind_some]
   cases (yx q t (a, b, 0, 0, 0)).2.2 with
   | false => rfl
   | true =>
    simp only [cond_true, Option.bind_some, Bool.true_and]
    exact y88 z _ hT
 ·rw [hp, if_neg (show ¬ ((4 : Int) = 0) by decide)]
  have hT := yeG z h 4 i
  unfold W0 at hT ⊢
  rw [if_neg (show ¬ ((4 : Int) = 1 ∨ (4 : Int) = 2) by decide), if_neg (show ¬ (4 : Int) = 3 by decide)] at hT ⊢
  simp only [ygQ, ygR, ygS, ygT, ygU, ygV, ygW, ygX, ygY, ygZ, yh0, yh1, yh2, yh3, yh4, yh5, yh6, yh7, yh8, yh9, yha, yhb, yhc, yhd, yhe, yup, ybV, yuq, ybW, yur, ybX, yus, ybY, yut, ybZ, cond_true, cond_false]
  rw [if_pos i0, if_pos i1, y5a l _ hl]
  simp only [Option.bind_some]
  exact y88 z _ hT
end
end Go.Proofs.YthgdjjdigalckaaGreat.Pl
namespace Go.Proofs.YthgdjjdigalckaaGreat.Pl
open Go.Proofs.YthgdjjdigalckaaGreat.R Go.Proofs.YthgdjjdigalckaaGreat.XB
def YC (c : List Int) (p : Int) : Prop := c.length ≤ 1099511627776 ∧ 0 ≤ p ∧ p ≤ c.length
def jX {A : Type} (o : Option (A × List Int × Int × Int)) (c : List Int) (Q : A → Prop) : Prop := ∃ v p s, o = some (v, c, p, s) ∧ YC c p ∧ Q v
theorem yaR (c : List Int) (p s : Int) (h : YC c p) : jX (Zm (c, p, s)) c (fun v => 0 ≤ v ∧ v < 256) := by
 obtain ⟨h1, h2, h3⟩ := h
 unfold Zm
 simp only [Bool.cond_eq_ite, decide_eq_true_eq, ytI]
 by_cases hp : p < (c.length : Int)
 ·rw [if_pos hp, if_pos h2, if_pos hp]
  refine ⟨_, _, _, rfl, ⟨h1, ?_, ?_⟩, by omega⟩
  ·rw [w64 (by omega) (by omega)]
   omega
  ·rw [w64 (by omega) (by omega)]
   omega
 ·rw [if_neg hp]
  exact ⟨_, _, _, rfl, ⟨h1, h2, h3⟩, by omega⟩
theorem z9 (c : List Int) (p s n : Int) (h : YC c p) : jX (yc (c, p, s, n)) c (fun v => 0 ≤ v ∧ (0 < n → v < n)) := by
 unfold yc
 simp only [Bool.cond_eq_ite, decide_eq_true_eq]
 by_cases hn : n ≤ 0
 ·rw [if_pos hn]
  exact ⟨_, _, _, rfl, h, Int.le_refl _, fun hh => by omega⟩
 ·rw [if_neg hn]
  obtain ⟨v1, p1, s1, e1, h1, q1⟩ := yaR c p s h
  obtain ⟨v2, p2, s2, e2, h2, q2⟩ := yaR c p1 s1 h1
  obtain ⟨v3, p3, s3, e3, h3, q3⟩ := yaR c p2 s2 h2
  rw [e1]
  simp only [Option.bind_some]
  have mod : ∀ v : Int, 0 ≤ v → 0 ≤ Int.tmod v n ∧ (0 < n → Int.tmod v n < n) := fun v hv => by
   rw [Int.tmod_eq_emod_of_nonneg hv]
   exact ⟨Int.emod_nonneg _ (by omega), fun hh => Int.emod_lt_of_pos _ hh⟩
  by_cases h6 : n ≤ 256
  ·rw [if_pos h6, if_neg (by omega)]
   exact ⟨_, _, _, rfl, h1, mod _ q1.1⟩
  ·rw [if_neg h6, e2]
   simp only [Option.bind_some]
   rw [e3]
   simp only [Option.bind_some]
   rw [if_neg (by omega)]
   rw [w64 (n := v1 * 65536) (by omega) (by omega), w64 (n := v2 * 256) (by omega) (by omega), w64 (n := v1 * 65536 + v2 * 256) (by omega) (by omega), w64 (n := v1 * 65536 + v2 * 256 + v3) (by omega) (by omega)]
   exact ⟨_, _, _, rfl, h3, mod _ (by omega)⟩
theorem Jf (c : List Int) (p s : Int) (L : List Int) (hL : 0 < L.length) (hL2 : L.length ≤ 1048576) (h : YC c p) : jX (yq (c, p, s, L)) c (fun v => v ∈ L) := by
 obtain ⟨v, p1, s1, e1, h1, q1⟩ := z9 c p s (L.length : Int) h
 have := q1.2 (by omega)
 unfold yq
 rw [e1]
 simp only [Option.bind_some]
 rw [if_pos q1.1, if_pos this]
 exact ⟨_, _, _, rfl, h1, yZ y4X L v q1.1 this⟩
theorem ytK (c : List Int) (hc : c.length ≤ 1099511627776) : ∃ s, VA c = some (c, 0, s) := by
 have key := YI (step := Ko (fun x2 : List Int × Int => some (x2.1, (0 : Int), x2.2))) (fun t : List Int × Int × Int => c.length - t.2.2.toNat) (fun t => t.1 = c ∧ 0 ≤ t.2.2 ∧ t.2.2 ≤ c.length) (fun _ res => ∃ s, res = some (c, 0, s)) ?_ (c, (Go.IntKind.wrap .i64 ((941941 : Int) + ((List.length c : Nat) : Int))), (0 : Int)) ⟨rfl, Int.le_refl _, by simp⟩ (by simp; omega)
 ·exact key
 ·rintro again ⟨c', s, i⟩ ⟨rfl, h0, h1⟩ hag
  simp only at h0 h1
  unfold Ko
  simp only [Bool.cond_eq_ite, decide_eq_true_eq]
  by_cases hi : i < (c'.length : Int)
  ·rw [if_pos hi]
   simp only [Option.bind_some, decide_eq_true_eq]
   by_cases h4 : i < 4000
   ·rw [if_pos h4, if_pos h0, if_pos hi]
    have hw : Go.IntKind.wrap .i64 (i + 1) = i + 1 := w64 (by omega) (by omega)
    rw [hw]
    exact hag _ ⟨rfl, by simp only; omega, by simp only; omega⟩ (by simp only; omega)
   ·rw [if_neg h4]
    exact ⟨_, rfl⟩
  ·rw [if_neg hi]
   exact ⟨_, rfl⟩
end Go.Proofs.YthgdjjdigalckaaGreat.Pl
namespace Go.Proofs.YthgdjjdigalckaaGreat.Pl
open Go.Proofs.YthgdjjdigalckaaGreat.R Go.Proofs.YthgdjjdigalckaaGreat.XB
end Go.Proofs.YthgdjjdigalckaaGreat.Pl
namespace Go.Proofs.YthgdjjdigalckaaGreat.Pl
open Go.Proofs.YthgdjjdigalckaaGreat.R Go.Proofs.YthgdjjdigalckaaGreat.XB
def w2 (l : List Int) (i : Int) : Int := by_ l i * 256 + by_ l (i + 1)
end Go.Proofs.YthgdjjdigalckaaGreat.Pl
namespace Go.Proofs.YthgdjjdigalckaaGreat.Pl
open Go.Proofs.YthgdjjdigalckaaGreat.R Go.Proofs.YthgdjjdigalckaaGreat.XB
end Go.Proofs.YthgdjjdigalckaaGreat.Pl
namespace Go.Proofs.YthgdjjdigalckaaGreat.Pl
open Go.Proofs.YthgdjjdigalckaaGreat.R Go.Proofs.YthgdjjdigalckaaGreat.XB
end Go.Proofs.YthgdjjdigalckaaGreat.Pl
namespace Go.Proofs.YthgdjjdigalckaaGreat.Pl
open Go.Proofs.YthgdjjdigalckaaGreat.R Go.Proofs.YthgdjjdigalckaaGreat.XB
theorem yEe (x : List Int) (hx : x.length ≤ 1099511627776) : YC x 0 := ⟨hx, Int.le_refl _, by omega⟩
end Go.Proofs.YthgdjjdigalckaaGreat.Pl
namespace Go.Proofs.YthgdjjdigalckaaGreat.Pl
open Go.Proofs.YthgdjjdigalckaaGreat.R Go.Proofs.YthgdjjdigalckaaGreat.XB
def two (x : Int) : List Int := [x / 256 % 256, x % 256]
end Go.Proofs.YthgdjjdigalckaaGreat.Pl
namespace Go.Proofs.YthgdjjdigalckaaGreat.Pl
open Go.Proofs.YthgdjjdigalckaaGreat.R Go.Proofs.YthgdjjdigalckaaGreat.XB
def tx (s : ByteArray) : List Int := two (s.size : Int) ++ Vq s
end Go.Proofs.YthgdjjdigalckaaGreat.Pl
namespace Go.Proofs.YthgdjjdigalckaaGreat.Pl
open Go.Proofs.YthgdjjdigalckaaGreat.R Go.Proofs.YthgdjjdigalckaaGreat.XB
structure PoolF (q : List Int) (t : List y0) (l : List ya) (cs : List y7) (vs : List ye) : Prop where
 ql : q.length = t.length
 tl : t.length ≤ 20
 ll : l.length ≤ 16
 cl : cs.length = 24
 vl : vs.length ≤ 6
 nm : ∀ v ∈ vs, ByteArray.size v.1 ≤ 6
 nl : ∀ n ∈ t, List.length n ≤ 3
 sl : ∀ n ∈ t, ∀ s ∈ (show List yb from n), List.length s ≤ 60 ∧ ∀ k ∈ (show List y9 from s), wm k = true
theorem yz5 {q : List Int} {t : List y0} {l : List ya} {cs : List y7} {vs : List ye} {z : Int} (h : yQ q t l cs vs z = true) : PoolF q t l cs vs := by
 unfold yQ at h
 simp only [Bool.and_eq_true] at h
 obtain ⟨h1, h2, h3, _, _, h4, _⟩ := h
 obtain ⟨t1, t2, t3, t4⟩ := wR h1
 unfold JV at h2
 unfold zT at h3
 unfold kH at h4
 simp only [Bool.and_eq_true, Bool.not_eq_true', decide_eq_true_eq, beq_iff_eq] at h2 h3 h4
 refine ⟨t1, t3, by omega, by omega, by omega, fun v hv => ?_, fun n hn => (y4v (t4 n hn)).1, fun n hn s hs => y83 ((y4v (t4 n hn)).2 s hs)⟩
 obtain ⟨j, hj⟩ := y1m _ vs 0 h4.1 v hv
 unfold yex at hj
 simp only [Bool.or_eq_false_iff, Bool.not_eq_false'] at hj
 have hn := hj.1
 unfold Z3 at hn
 simp only [Bool.and_eq_true, Z6] at hn
 omega
section
variable {q : List Int} {t : List y0} {l : List ya} {cs : List y7} {vs : List ye} (z : Int) (h : PoolF q t l cs vs)
include h
end
end Go.Proofs.YthgdjjdigalckaaGreat.Pl
namespace Go.Proofs.YthgdjjdigalckaaGreat.Pl
open Go.Proofs.YthgdjjdigalckaaGreat.R Go.Proofs.YthgdjjdigalckaaGreat.XB
def yc0 (kind a b : Int) : Bool :=
 if kind = 2 then decide (a = 0) && inR b 0 1 else if kind = 3 ∨ kind = 7 then decide (a = 0) && decide (b = 0) else if kind = 4 then true else decide (b = 0)
def yeH (s : ByteArray) : Bool := s.toList == ([] : List UInt8)
def yz6 (kind : Int) (name tt : ByteArray) (a b : Int) : Bool :=
 inR kind 1 9 && (if kind ≥ 7 then yeH name else Z3 name) && (if kind = 2 then Z3 tt else yeH tt) && isW a && isW b && yc0 kind a b
theorem y4G (kind : Int) (name tt : ByteArray) (a b : Int) : YS (kind, name, tt, a, b) = some (yc0 kind a b) := by
 unfold YS yc0
 simp only [Bool.cond_eq_ite, Yz, Option.bind_some, beq_iff_eq]
 by_cases h2 : kind = 2 <;> by_cases h3 : kind = 3 <;> by_cases h7 : kind = 7 <;> by_cases h4 : kind = 4 <;> by_cases ha : a = 0 <;> by_cases hb : b = 0 <;> simp_all
theorem y9v : (ByteArray.toList { data := #[] }) = [] := by
 unfold ByteArray.toList ByteArray.toList.loop
 rfl
theorem y9w (kind : Int) (name tt : ByteArray) (a b : Int) (hn : name.size ≤ maxLen) (ht : tt.size ≤ maxLen) : V9 (kind, name, tt, a, b) = some (yz6 kind name tt a b) := by
 unfold V9 yz6 yeH
 simp only [Bool.cond_eq_ite, J5 _ hn, J5 _ ht, Yz, Vh, y4G, Option.bind_some, bi, y9v, decide_eq_true_eq]
 generalize (name.toList == ([] : List UInt8)) = n1
 generalize (tt.toList == ([] : List UInt8)) = n2
 generalize inR kind 1 9 = n3
 generalize yc0 kind a b = n4
 by_cases h7 : kind ≥ 7 <;> by_cases h2 : kind = 2 <;> simp only [h7, h2, if_true, if_false, Option.bind_some] <;> cases n1 <;> cases n2 <;> cases n3 <;> cases n4 <;> cases Z3 name <;> cases Z3 tt <;> cases isW a <;> cases isW b <;> rfl
end Go.Proofs.YthgdjjdigalckaaGreat.Pl
namespace Go.Proofs.YthgdjjdigalckaaGreat.Pl
open Go.Proofs.YthgdjjdigalckaaGreat.R Go.Proofs.YthgdjjdigalckaaGreat.XB
abbrev P7a : Type := List yd × List y0 × List ya × List y7 × List ye × Int × Int
theorem y9O {A : Type} {o : Option A} : (Option.bind o fun r => some r) = o := by cases o <;> rfl
theorem ym3 {o : Option P7a} : (Option.bind o fun r => some (r.1, r.2.1, r.2.2.1, r.2.2.2.1, r.2.2.2.2.1, r.2.2.2.2.2.1, r.2.2.2.2.2.2)) = o := by cases o <;> rfl
theorem yz7 {o : Option (List yd × List y0 × List ya × List y7 × List ye × Int × Bool)} : (Option.bind o fun r => some (r.1, r.2.1, r.2.2.1, r.2.2.2.1, r.2.2.2.2.1, r.2.2.2.2.2.1, r.2.2.2.2.2.2)) = o := by cases o <;> rfl
theorem yz8 {o : Option (Bool × List yd × List y0 × List ya × List y7 × List ye × Int)} : (Option.bind o fun r => some (r.1, r.2.1, r.2.2.1, r.2.2.2.1, r.2.2.2.2.1, r.2.2.2.2.2.1, r.2.2.2.2.2.2)) = o := by cases o <;> rfl
theorem jd {A : Type} {P : A → Prop} (b : Bool) {x y : A} (hx : b = true → P x) (hy : b = false → P y) : P (bif b then x else y) := by cases b <;> first | exact hx rfl | exact hy rfl
structure Tn (q : List yd) (t : List y0) (l : List ya) (cs : List y7) (vs : List ye) : Prop where
 ql : q.length ≤ 100
 T : TS t
 ll : l.length ≤ 100
 cl : cs.length = 24
 vl : vs.length ≤ 100
 N : ∀ v ∈ vs, ByteArray.size v.1 ≤ 60
 e : q.length = t.length
 p : 0 < t.length
theorem Tn.sp {q : List yd} {t : List y0} {l : List ya} {cs : List y7} {vs : List ye} (h : Tn q t l cs vs) : SP q t l cs vs := by
 have hT := h.T.ok
 refine ⟨⟨Nat.le_trans h.ql (by decide), hT.len, hT.sum, Nat.le_trans h.ll (by decide), by rw [h.cl]; decide, Nat.le_trans h.vl (by decide)⟩, fun v hv => Nat.le_trans (h.N v hv) (by decide)⟩
theorem VY {q : List yd} {t : List y0} {l : List ya} {cs : List y7} {vs : List ye} {z : Int} (h : yQ q t l cs vs z = true) : Tn q t l cs vs := by
 have hF := yz5 h
 unfold yQ at h
 rw [Bool.and_eq_true] at h
 have h1 := wR h.1
 exact ⟨by have := hF.ql; have := hF.tl; omega, y22 h.1, by have := hF.ll; omega, hF.cl, by have := hF.vl; omega, fun v hv => by have := hF.nm v hv; omega, hF.ql, by omega⟩
def Res (q : List yd) (t : List y0) (l : List ya) (cs : List y7) (vs : List ye) (z : Int) (o : Option P7a) : Prop :=
 ∃ q' t' l' cs' vs' z' c, o = some (q', t', l', cs', vs', z', c) ∧ (yQ q' t' l' cs' vs' z' = true ∨ (q', t', l', cs', vs', z') = (q, t, l, cs, vs, z))
def yB (vs : List ye) (n : ByteArray) : Int := ZE (fun v : ye => ByteArray.toList v.1 == ByteArray.toList n) vs 0
theorem Zd (vs : List ye) (n : ByteArray) : yB vs n = -1 ∨ (0 ≤ yB vs n ∧ yB vs n < vs.length) := by
 rcases Kg (fun v : ye => ByteArray.toList v.1 == ByteArray.toList n) zX vs 0 (Int.le_refl _) with h | ⟨h1, h2, h3⟩
 ·exact .inl h
 ·exact .inr ⟨h1, by simpa [yB] using h2⟩
section
variable (q : List yd) (t : List y0) (l : List ya) (cs : List y7) (vs : List ye) (z : Int)
theorem zk (n : ByteArray) (hv : vs.length ≤ 1048576) : za (q, t, l, cs, vs, z, n) = some (yB vs n) := by
 unfold za y0V
 refine (Zw (step := wI _ _) (fun i => (n, i, q, t, l, cs, vs, z)) (fun v : ye => ByteArray.toList v.1 == ByteArray.toList n) (fun x => some x) (some (-1)) zX vs (by omega) ?_ ?_).trans ?_
 ·intro again i h0 h1
  have hw : Go.IntKind.wrap .i64 (i + 1) = i + 1 := w64 (by omega) (by omega)
  unfold wI
  simp only [Bool.cond_eq_ite, decide_eq_true_eq, h0, h1, if_true, hw]
  rfl
 ·intro again i hi
  unfold wI
  simp only [Bool.cond_eq_ite, decide_eq_true_eq, if_neg hi]
 ·rcases Zd vs n with h | ⟨h1, h2⟩ <;> unfold yB at *
  ·rw [h]
   rfl
  ·rw [if_neg (by omega)]
def y9x (n : ByteArray) : Int := if yQ q t l cs vs z = true ∧ Z3 n = true then 0 else 1
noncomputable def ymq (n : ByteArray) : Int := if yQ q t l cs vs z = true ∧ Z3 n = true then (if yB vs n < 0 then 2 else 0) else 1
noncomputable def ZG (n : ByteArray) (b : Int) : Int := if yQ q t l cs vs z = true ∧ Z3 n = true then (if yB vs n < 0 then 2 else if (y8 vs (yB vs n)).2.2.2 = true then 5 else if inR b 0 (Go.IntKind.wrap .i64 ((y8 vs (yB vs n)).2.2.1 - 1)) = true then 0 else 4) else 1
variable {q t l cs vs} (h : SP q t l cs vs)
include h
theorem KL (n : ByteArray) (hn : n.size ≤ maxLen) : ZC (q, t, l, cs, vs, z, n) = some (y9x q t l cs vs z n) := by
 unfold ZC y9x
 simp only [ZF z h, J5 n hn, Option.bind_some]
 cases yQ q t l cs vs z <;> cases Z3 n <;> rfl
theorem Q2 (n : ByteArray) (hn : n.size ≤ maxLen) : jx (q, t, l, cs, vs, z, n) = some (ymq q t l cs vs z n) := by
 unfold jx ymq
 simp only [KL z h n hn, zk q t l cs vs z n h.S.2.2.2.2.2, Option.bind_some]
 unfold y9x
 by_cases hc : yQ q t l cs vs z = true ∧ Z3 n = true
 ·simp only [if_pos hc, beq_self_eq_true, cond_true, Option.bind_some]
  by_cases hv : yB vs n < 0
  ·simp only [if_pos hv, decide_eq_true hv]
   rfl
  ·simp only [if_neg hv, decide_eq_false hv]
   rfl
 ·simp only [if_neg hc]
  rfl
theorem wj (n : ByteArray) (hn : n.size ≤ maxLen) (b : Int) : YY (q, t, l, cs, vs, z, n, b) = some (ZG q t l cs vs z n b) := by
 unfold YY ZG
 simp only [Q2 z h n hn, zk q t l cs vs z n h.S.2.2.2.2.2, Yz, Option.bind_some]
 unfold ymq
 by_cases hc : yQ q t l cs vs z = true ∧ Z3 n = true
 ·simp only [if_pos hc]
  by_cases hv : yB vs n < 0
  ·simp only [if_pos hv]
   rfl
  ·have h2 := Zd vs n
   simp only [if_neg hv, show ((0 : Int) != 0) = false from rfl, cond_false, if_pos (show (0 : Int) ≤ yB vs n by omega), if_pos (show yB vs n < ((List.length vs : Nat) : Int) by omega)]
   cases (y8 vs (yB vs n)).2.2.2 with
   | true => rfl
   | false => cases inR b 0 (Go.IntKind.wrap .i64 ((y8 vs (yB vs n)).2.2.1 - 1)) <;> rfl
 ·simp only [if_neg hc]
  rfl
theorem ws : yp (q, t, l, cs, vs, z) = some (q, t, l, cs, vs, z) := y0l q t l cs vs z h.S
omit h in
theorem Res.same (c : Int) : Res q t l cs vs z (some (q, t, l, cs, vs, z, c)) := ⟨_, _, _, _, _, _, c, rfl, .inr rfl⟩
theorem y2S {q' : List yd} {t' : List y0} {l' : List ya} {cs' : List y7} {vs' : List ye} {z' : Int} (hx : SP q' t' l' cs' vs') (b : Bool) : yG (q, t, l, cs, vs, z, q', t', l', cs', vs', z', b) = some (if b = true ∧ yQ q' t' l' cs' vs' z' = true then (q', t', l', cs', vs', z', 0) else (q, t, l, cs, vs, z, 6)) := by
 unfold yG
 simp only [ZF z' hx, ws z h, Option.bind_some]
 cases b <;> cases hp : yQ q' t' l' cs' vs' z' <;> simp
theorem Res.fin {q' : List yd} {t' : List y0} {l' : List ya} {cs' : List y7} {vs' : List ye} {z' : Int} (hx : SP q' t' l' cs' vs') (b : Bool) : Res q t l cs vs z (yG (q, t, l, cs, vs, z, q', t', l', cs', vs', z', b)) := by
 rw [y2S z h hx b]
 by_cases hc : b = true ∧ yQ q' t' l' cs' vs' z' = true
 ·rw [if_pos hc]
  exact ⟨_, _, _, _, _, _, _, rfl, .inl hc.2⟩
 ·rw [if_neg hc]
  exact ⟨_, _, _, _, _, _, _, rfl, .inr rfl⟩
end
theorem y25 (l : List ya) (id fr : Int) (hl : l.length ≤ 1000) : ∃ l' b, zD (l, id, fr) = some (l', b) ∧ l'.length ≤ l.length + 1 := by
 unfold zD V4
 rw [Yo l id (by omega)]
 simp only [Option.bind_some]
 refine YI (step := j7 _) (fun u : JJ => l.length - u.2.2.2.2.1.toNat) (fun u => u.1 = l ∧ u.2.1 = id ∧ 0 ≤ u.2.2.2.2.1 ∧ u.2.2.2.2.1 ≤ l.length ∧ (u.2.2.2.2.2.length : Int) ≤ u.2.2.2.2.1 + (if u.2.2.2.1 = true then 1 else 0)) (fun _ (res : Option (List ya × Bool)) => ∃ (l' : List ya) (b : Bool), res = some (l', b) ∧ l'.length ≤ l.length + 1) ?_ (l, id, fr, decide (zV l id ≥ 0), 0, []) ⟨rfl, rfl, Int.le_refl _, by simp, by simp; split <;> omega⟩ (by simp; omega)
 ·rintro again ⟨l1, id1, fr1, d, i, o⟩ ⟨rfl, rfl, h0, h1, ho⟩ hag
  simp only at h0 h1 ho hl hag ⊢
  unfold j7
  simp only [Bool.cond_eq_ite, decide_eq_true_eq]
  by_cases hi : i < (l1.length : Int)
  ·have hw : Go.IntKind.wrap .i64 (i + 1) = i + 1 := w64 (by omega) (by omega)
   have ho2 : o.length ≤ 1001 := by split at ho <;> omega
   simp only [if_pos hi, if_pos h0, hw, List.length_append, List.length_cons, List.length_nil]
   cases d with
   | true =>
    simp only [Bool.not_true, Bool.false_eq_true, if_false, Option.bind_some]
    rw [if_pos (by omega)]
    exact hag _ ⟨rfl, rfl, by simp only; omega, by simp only; omega, by simp at ho ⊢; omega⟩ (by simp only; omega)
   | false =>
    simp only [Bool.not_false, if_true, Option.bind_some, decide_eq_true_eq]
    split
    ·rw [if_pos (by omega), if_pos (by omega)]
     exact hag _ ⟨rfl, rfl, by simp only; omega, by simp only; omega, by simp at ho ⊢; omega⟩ (by simp only; omega)
    ·rw [if_pos (by omega)]
     exact hag _ ⟨rfl, rfl, by simp only; omega, by simp only; omega, by simp at ho ⊢; omega⟩ (by simp only; omega)
  ·have ho2 : o.length ≤ 1001 := by split at ho <;> omega
   simp only [if_neg hi, List.length_append, List.length_cons, List.length_nil, Yo l1 id1 (by omega), Option.bind_some, wQ o (by omega), wQ (o ++ [(id1, fr1)]) (by simp; omega)]
   cases d with
   | true =>
    have e1 : ∀ u : Bool, ∃ (l' : List ya) (b : Bool), (if u = true then (if (0 + l1.length) * 16 < 140737488355328 then some ([] ++ l1, false) else none) else some (o, true)) = some (l', b) ∧ l'.length ≤ l1.length + 1 := fun u => by
     rw [if_pos (show (0 + l1.length) * 16 < 140737488355328 by omega)]
     cases u
     ·exact ⟨_, _, rfl, by simp at ho; omega⟩
     ·exact ⟨_, _, rfl, by simp⟩
    simp only [Bool.not_true, Bool.false_eq_true, if_false]
    by_cases ha : zV l1 id1 ≥ 0
    ·rw [if_pos ha]
     exact e1 true
    ·rw [if_neg ha]
     exact e1 _
   | false =>
    have e1 : ∀ u : Bool, ∃ (l' : List ya) (b : Bool), (if u = true then (if (0 + l1.length) * 16 < 140737488355328 then some ([] ++ l1, false) else none) else some (o ++ [(id1, fr1)], true)) = some (l', b) ∧ l'.length ≤ l1.length + 1 := fun u => by
     rw [if_pos (show (0 + l1.length) * 16 < 140737488355328 by omega)]
     cases u
     ·exact ⟨_, _, rfl, by simp at ho ⊢; omega⟩
     ·exact ⟨_, _, rfl, by simp⟩
    simp only [Bool.not_false, if_true]
    rw [if_pos (by omega)]
    by_cases ha : zV l1 id1 ≥ 0
    ·rw [if_pos ha]
     exact e1 true
    ·rw [if_neg ha]
     exact e1 _
theorem y9y (vs : List ye) (n : ByteArray) (a s : Int) (f : Bool) (hv : vs.length ≤ 1000) (hN : ∀ v ∈ vs, ByteArray.size v.1 ≤ 60) (hn : n.size ≤ 60) : ∃ vs', Y8 (vs, n, a, s, f) = some vs' ∧ vs'.length = vs.length + 1 ∧ ∀ v ∈ vs', ByteArray.size v.1 ≤ 60 := by
 unfold Y8 WL
 simp only [List.nil_append, List.length_nil, List.length_append, List.length_cons]
 rw [if_pos (by omega), if_pos (by omega), w64 (by omega) (by omega)]
 refine YI (step := Yw _) (fun u : Zq => u.1.toNat) (fun u => 0 ≤ u.1 ∧ u.1 ≤ vs.length ∧ u.2.1 = n ∧ u.2.2.2.2.2.length = vs.length + 1 ∧ ∀ v ∈ u.2.2.2.2.2, ByteArray.size v.1 ≤ 60) (fun _ (res : Option (List ye)) => ∃ vs' : List ye, res = some vs' ∧ vs'.length = vs.length + 1 ∧ ∀ v ∈ vs', ByteArray.size v.1 ≤ 60) ?_ (((vs.length + (0 + 1) : Nat) : Int) - 1, n, a, s, f, vs ++ [(n, a, s, f)]) ⟨by simp only; omega, by simp only; omega, rfl, by simp, fun v hv => ?_⟩ (by simp only; omega)
 ·rintro again ⟨k, n1, a1, s1, f1, o⟩ ⟨h0, h1, rfl, ho, hoN⟩ hag
  simp only at h0 h1 ho hoN hag ⊢
  unfold Yw
  simp only [Bool.cond_eq_ite, decide_eq_true_eq]
  by_cases hk : k > 0
  ·have hw : Go.IntKind.wrap .i64 (k - 1) = k - 1 := w64 (by omega) (by omega)
   simp only [if_pos hk, hw, if_pos (show (0 : Int) ≤ k - 1 by omega), if_pos (show k - 1 < ((List.length o : Nat) : Int) by omega), if_pos h0, if_pos (show k < ((List.length o : Nat) : Int) by omega), Option.bind_some]
   split
   ·refine hag _ ⟨by simp only; omega, by simp only; omega, rfl, by simp only [List.length_set]; exact ho, fun v hv => ?_⟩ (by simp only; omega)
    rcases List.mem_or_eq_of_mem_set hv with h | rfl
    ·exact hoN v h
    ·exact hoN _ (yZ zX o (k - 1) (by omega) (by omega))
   ·refine ⟨_, rfl, by rw [List.length_set]; exact ho, fun v hv => ?_⟩
    rcases List.mem_or_eq_of_mem_set hv with h | rfl
    ·exact hoN v h
    ·exact hn
  ·simp only [if_neg hk, Option.bind_some, Bool.false_eq_true, if_false, if_pos h0, if_pos (show k < ((List.length o : Nat) : Int) by omega)]
   refine ⟨_, rfl, by rw [List.length_set]; exact ho, fun v hv => ?_⟩
   rcases List.mem_or_eq_of_mem_set hv with h | rfl
   ·exact hoN v h
   ·exact hn
 ·rcases List.mem_append.1 hv with h | h
  ·exact hN v h
  ·rw [List.mem_singleton.1 h]
   exact hn
theorem y1o (cs : List y7) (n : Int) (hc : cs.length ≤ 1048576) : ∃ cs' i b, zM (cs, n) = some (cs', i, b) ∧ cs'.length = cs.length ∧ (b = true → 0 ≤ i ∧ i < cs.length) := by
 unfold zM Y3 Ka
 simp only [List.nil_append, List.length_nil]
 rw [if_pos (by omega)]
 simp only [Option.bind_some]
 refine YI (step := zE _ _) (fun u : w9 => cs.length - u.2.2.1.toNat) (fun u => u.1 = cs ∧ 0 ≤ u.2.2.1 ∧ u.2.2.1 ≤ cs.length ∧ u.2.2.2 = cs) (fun _ (res : Option (List y7 × Int × Bool)) => ∃ (cs' : List y7) (i : Int) (b : Bool), res = some (cs', i, b) ∧ cs'.length = cs.length ∧ (b = true → 0 ≤ i ∧ i < cs.length)) ?_ (cs, n, 0, cs) ⟨rfl, Int.le_refl _, by simp, rfl⟩ (by simp; omega)
 ·rintro again ⟨l1, n1, i, o⟩ ⟨e1, h0, h1, e2⟩ hag
  simp only at e1 e2 h0 h1 hag ⊢
  subst e1
  subst e2
  unfold zE
  simp only [Bool.cond_eq_ite, decide_eq_true_eq, JW o hc, Vh, Option.bind_some]
  by_cases hi : i < (o.length : Int)
  ·have hw : Go.IntKind.wrap .i64 (i + 1) = i + 1 := w64 (by omega) (by omega)
   simp only [if_pos hi, if_pos h0, hw, List.length_set, Option.bind_some]
   split
   ·simp only [Option.bind_some]
    split
    ·split
     ·exact ⟨_, _, _, rfl, by simp, fun _ => ⟨h0, hi⟩⟩
     ·exact hag _ ⟨rfl, by simp only; omega, by simp only; omega, rfl⟩ (by simp only; omega)
    ·exact ⟨_, _, _, rfl, rfl, fun h => by cases h⟩
   ·simp only [Option.bind_some, Bool.false_eq_true, if_false]
    exact ⟨_, _, _, rfl, rfl, fun h => by cases h⟩
  ·simp only [if_neg hi, Option.bind_some, Bool.false_eq_true, if_false]
   exact ⟨_, _, _, rfl, rfl, fun h => by cases h⟩
end Go.Proofs.YthgdjjdigalckaaGreat.Pl
namespace Go.Proofs.YthgdjjdigalckaaGreat.Pl
open Go.Proofs.YthgdjjdigalckaaGreat.R Go.Proofs.YthgdjjdigalckaaGreat.XB
theorem SP.of {q : List yd} {t : List y0} {l : List ya} {cs : List y7} {vs : List ye} (h : TQ q t) (hl : l.length ≤ 1048576) (hc : cs.length ≤ 1048576) (hv : vs.length ≤ 1048576) (hN : ∀ v ∈ vs, ByteArray.size v.1 ≤ maxLen) : SP q t l cs vs :=
 ⟨⟨h.q, h.T.len, h.T.sum, hl, hc, hv⟩, hN⟩
theorem Wj {n : Nat} (h : n ≤ 60) : n ≤ maxLen := Nat.le_trans h (by decide)
section
variable {q : List yd} {t : List y0} {l : List ya} {cs : List y7} {vs : List ye} (z : Int) (h : SP q t l cs vs)
include h
theorem y9z (n : ByteArray) (s : Int) (hn : n.size ≤ 60) : Res q t l cs vs z (YO (q, t, l, cs, vs, z, n, s)) := by
 unfold YO
 simp only [KL z h n (Wj hn), ws z h, zk q t l cs vs z n h.S.2.2.2.2.2, Yz, Option.bind_some, ym3, y9O]
 refine jd (P := Res q t l cs vs z) _ (fun _ => Res.same z _) fun hf => jd (P := Res q t l cs vs z) _ (fun _ => Res.same z _) fun _ => jd (P := Res q t l cs vs z) _ (fun _ => Res.same z _) fun _ => ?_
 have hp : yQ q t l cs vs z = true := by
  unfold y9x at hf
  by_cases hc : yQ q t l cs vs z = true ∧ Z3 n = true
  ·exact hc.1
  ·rw [if_neg hc] at hf
   cases hf
 have hT := VY hp
 obtain ⟨l', b, e1, h1⟩ := y25 l z 0 (by have := hT.ll; omega)
 obtain ⟨vs', e2, h2, h3⟩ := y9y vs n z s false (by have := hT.vl; omega) hT.N hn
 rw [e1]
 simp only [Option.bind_some]
 rw [e2]
 simp only [Option.bind_some]
 exact Res.fin z h (SP.of h.tq (by have := hT.ll; omega) h.S.2.2.2.2.1 (by have := hT.vl; omega) fun v hv => Wj (h3 v hv)) b
theorem yeI (n m : ByteArray) (f : Bool) (hn : n.size ≤ 60) (hm : m.size ≤ 60) : Res q t l cs vs z (jw (q, t, l, cs, vs, z, n, m, f)) := by
 unfold jw
 simp only [KL z h n (Wj hn), ws z h, zk q t l cs vs z _ h.S.2.2.2.2.2, J5 m (Wj hm), Option.bind_some, ym3, y9O]
 cases hf : y9x q t l cs vs z n != 0 with
 | true =>
  simp only [cond_true, Option.bind_some]
  exact Res.same z _
 | false =>
 simp only [cond_false, Option.bind_some]
 have hp : yQ q t l cs vs z = true := by
  unfold y9x at hf
  by_cases hc : yQ q t l cs vs z = true ∧ Z3 n = true
  ·exact hc.1
  ·rw [if_neg hc] at hf
   cases hf
 have hT := VY hp
 refine jd (P := Res q t l cs vs z) _ (fun _ => Res.same z _) fun _ => jd (P := Res q t l cs vs z) _ (fun _ => Res.same z _) fun hi => jd (P := Res q t l cs vs z) _ (fun _ => Res.same z _) fun _ => ?_
 have hi' : 0 ≤ yB vs n ∧ yB vs n < ((List.length vs : Nat) : Int) := by
  have := of_decide_eq_false hi
  have := Zd vs n
  omega
 obtain ⟨l', b, e1, h1⟩ := y25 l z (y8 vs (yB vs n)).2.1 (by have := hT.ll; omega)
 obtain ⟨l2, b2, e2, h2⟩ := y25 l' (Go.IntKind.wrap .i64 (z + 1)) (y8 vs (yB vs n)).2.1 (by have := hT.ll; omega)
 obtain ⟨vs', e3, h3, h4⟩ := y9y (vs.set (Int.toNat (yB vs n)) ((y8 vs (yB vs n)).1, z, (y8 vs (yB vs n)).2.2)) m (Go.IntKind.wrap .i64 (z + 1)) (y8 vs (yB vs n)).2.2.1 f (by rw [List.length_set]; have := hT.vl; omega) (fun v hv => by
  rcases List.mem_or_eq_of_mem_set hv with hv | rfl
  ·exact hT.N v hv
  ·exact hT.N (y8 vs (yB vs n)) (yZ zX vs _ hi'.1 hi'.2)) hm
 simp only [if_pos hi'.1, if_pos hi'.2]
 rw [e1]
 simp only [Option.bind_some]
 rw [e2]
 simp only [Option.bind_some]
 rw [e3]
 simp only [Option.bind_some]
 rw [List.length_set] at h3
 have hS : SP q t l2 cs vs' := SP.of h.tq (by have := hT.ll; omega) h.S.2.2.2.2.1 (by have := hT.vl; omega) fun v hv => Wj (h4 v hv)
 cases b <;> simp only [cond_true, cond_false, Option.bind_some] <;> exact Res.fin z h hS _
theorem yeJ (n : ByteArray) (hn : n.size ≤ 60) : Res q t l cs vs z (jy (q, t, l, cs, vs, z, n)) := by
 unfold jy
 simp only [Q2 z h n (Wj hn), ws z h, zk q t l cs vs z _ h.S.2.2.2.2.2, Option.bind_some, ym3, y9O]
 refine jd (P := Res q t l cs vs z) _ (fun _ => Res.same z _) fun hf => ?_
 have hi : 0 ≤ yB vs n ∧ yB vs n < ((List.length vs : Nat) : Int) := by
  unfold ymq at hf
  have := Zd vs n
  by_cases hc : yQ q t l cs vs z = true ∧ Z3 n = true
  ·rw [if_pos hc] at hf
   by_cases hv : yB vs n < 0
   ·rw [if_pos hv] at hf
    cases hf
   ·omega
  ·rw [if_neg hc] at hf
   cases hf
 have hv := h.S.2.2.2.2.2
 have hw : Go.IntKind.wrap .i64 (yB vs n + 1) = yB vs n + 1 := w64 (by omega) (by omega)
 simp only [hw]
 rw [if_pos (Int.le_refl _), if_pos hi.1, if_pos (by omega), if_pos (by simp only [List.length_nil, List.length_drop, List.length_take]; omega), if_pos (by omega), if_pos (by omega), if_pos (Int.le_refl _), if_pos (by simp only [List.length_append, List.length_nil, List.length_drop, List.length_take]; omega)]
 refine Res.fin z h (SP.of h.tq h.S.2.2.2.1 h.S.2.2.2.2.1 (by simp only [List.length_append, List.length_nil, List.length_drop, List.length_take]; omega) fun v hv => ?_) true
 simp only [List.nil_append, List.mem_append] at hv
 rcases hv with hv | hv
 ·exact h.N v (List.mem_of_mem_take (List.mem_of_mem_drop hv))
 ·exact h.N v (List.mem_of_mem_take (List.mem_of_mem_drop hv))
theorem yeK (a b c d e : Int) : ∃ r q' t' cs', zd (q, t, l, cs, vs, z, a, b, c, d, e) = some (r, q', t', l, cs', vs, z) ∧ SP q' t' l cs' vs := by
 have hq := h.tq
 unfold zd
 simp only [J7 q t a b hq.T hq.q, Z4 q t a b c d e hq.T hq.Q hq.q, Option.bind_some]
 cases (yx q t (a, b, c, d, e)).2.2 with
 | false => exact ⟨_, _, _, _, rfl, h⟩
 | true =>
  unfold J4
  simp only [Bool.not_true, cond_false, jW cs _ h.S.2.2.2.2.1]
  have hT := Kh (a, b, c, d, e) hq
  have key : ∀ u : Bool, ∃ r q' t' cs', (Option.bind (bif u then Option.bind (some (y5b cs (jC q t a b).2.2.2.1)) fun r2 => some ((yx q t (a, b, c, d, e)).1, (yx q t (a, b, c, d, e)).2.1, l, r2, vs, z) else some ((yx q t (a, b, c, d, e)).1, (yx q t (a, b, c, d, e)).2.1, l, cs, vs, z)) fun r3 => some (true, r3.1, r3.2.1, r3.2.2.1, r3.2.2.2.1, r3.2.2.2.2.1, r3.2.2.2.2.2)) = some (r, q', t', l, cs', vs, z) ∧ SP q' t' l cs' vs := fun u => by
   cases u
   ·exact ⟨_, _, _, _, rfl, hT.sp h h.S.2.2.2.1 h.S.2.2.2.2.1⟩
   ·exact ⟨_, _, _, _, rfl, hT.sp h h.S.2.2.2.1 (by rw [y24]; exact h.S.2.2.2.2.1)⟩
  cases (jC q t a b).2.2.2.2.2
  ·exact key false
  ·exact key ((jC q t a b).2.2.1 == 1)
theorem yc1 (n : ByteArray) (b w : Int) (hn : n.size ≤ 60) : Res q t l cs vs z (Zs (q, t, l, cs, vs, z, n, b, w)) := by
 obtain ⟨cs', i, u, e1, h1, h2⟩ := y1o cs w h.S.2.2.2.2.1
 have hS : SP q t l cs' vs := SP.of h.tq h.S.2.2.2.1 (by rw [h1]; exact h.S.2.2.2.2.1) h.S.2.2.2.2.2 h.N
 have main : ZG q t l cs vs z n b = 0 → Res q t l cs vs z (bif u then if (0 : Int) ≤ yB vs n then if yB vs n < ((List.length vs : Nat) : Int) then if (0 : Int) ≤ i then if i < ((List.length cs' : Nat) : Int) then Option.bind (zd (q, t, l, cs', vs, z, b, (y8 vs (yB vs n)).2.1, (1 : Int), i, (yl cs' i).1)) fun r7 => yG (q, t, l, cs, vs, z, r7.2.1, r7.2.2.1, r7.2.2.2.1, r7.2.2.2.2.1, r7.2.2.2.2.2.1, r7.2.2.2.2.2.2, r7.1) else none else none else none else none else yG (q, t, l, cs, vs, z, q, t, l, cs', vs, z, false)) := by
  intro hb
  have hi : 0 ≤ yB vs n ∧ yB vs n < ((List.length vs : Nat) : Int) := by
   unfold ZG at hb
   have := Zd vs n
   by_cases hc : yQ q t l cs vs z = true ∧ Z3 n = true
   ·rw [if_pos hc] at hb
    by_cases hv : yB vs n < 0
    ·rw [if_pos hv] at hb
     cases hb
    ·omega
   ·rw [if_neg hc] at hb
    cases hb
  cases u with
  | false => exact Res.fin z h hS false
  | true =>
   have h3 := h2 rfl
   obtain ⟨r, q', t', cs2, e2, h4⟩ := yeK z hS b (y8 vs (yB vs n)).2.1 1 i (yl cs' i).1
   simp only [cond_true, if_pos hi.1, if_pos hi.2, if_pos h3.1, if_pos (show i < ((List.length cs' : Nat) : Int) by rw [h1]; exact h3.2), e2, Option.bind_some]
   exact Res.fin z h h4 r
 unfold Zs
 simp only [wj z h n (Wj hn), ws z h, zk q t l cs vs z _ h.S.2.2.2.2.2, Vh, e1, Option.bind_some, ym3, y9O]
 cases hb : ZG q t l cs vs z n b == 0 with
 | false =>
  have hne : (ZG q t l cs vs z n b != 0) = true := by
   rw [bne, hb]
   rfl
  simp only [cond_false, Option.bind_some, hne, cond_true]
  exact Res.same z _
 | true =>
  have h0 : ZG q t l cs vs z n b = 0 := by simpa using hb
  cases hw : isW w with
  | false =>
   simp only [cond_true, Option.bind_some, Bool.not_false, show ((4 : Int) != 0) = true from rfl]
   exact Res.same z _
  | true =>
   have hne : (ZG q t l cs vs z n b != 0) = false := by
    rw [bne, hb]
    rfl
   simp only [cond_true, Option.bind_some, Bool.not_true, cond_false, hne]
   exact main h0
theorem jh (i b : Int) (h0 : 0 ≤ i) (h1 : i < (vs.length : Int)) : ∃ r q' t' cs', zo (q, t, l, cs, vs, z, i, b) = some (r, q', t', l, cs', vs, z) ∧ SP q' t' l cs' vs := by
 have hq := h.tq
 unfold zo
 simp only [if_pos h0, if_pos h1, qZ q t l _ _ hq.T h.S.2.2.2.1, J7 q t _ _ hq.T hq.q, Option.bind_some, yz8, y9O]
 have key : ∀ u : Bool, ∃ r q' t' cs', (bif u then zd (q, t, l, cs, vs, z, b, (y8 vs i).2.1, (2 : Int), (0 : Int), (0 : Int)) else bif (!(jC q t b (y8 vs i).2.1).2.2.2.2.2) then some (true, q, t, l, cs, vs, z) else zd (q, t, l, cs, vs, z, b, (y8 vs i).2.1, (0 : Int), (0 : Int), (0 : Int))) = some (r, q', t', l, cs', vs, z) ∧ SP q' t' l cs' vs := fun u => by
  cases u
  ·cases (jC q t b (y8 vs i).2.1).2.2.2.2.2
   ·exact ⟨_, _, _, _, rfl, h⟩
   ·exact yeK z h _ _ _ _ _
  ·exact yeK z h _ _ _ _ _
 cases (ans (y4x t l b (y8 vs i).2.1)).2.2.2.2.2
 ·exact key false
 ·exact key _
theorem y62 (n : ByteArray) (b : Int) (hn : n.size ≤ 60) : Res q t l cs vs z (Yn (q, t, l, cs, vs, z, n, b)) := by
 unfold Yn
 simp only [wj z h n (Wj hn), ws z h, zk q t l cs vs z _ h.S.2.2.2.2.2, Option.bind_some, ym3, y9O]
 refine jd (P := Res q t l cs vs z) _ (fun _ => Res.same z _) fun hb => ?_
 have hi : 0 ≤ yB vs n ∧ yB vs n < ((List.length vs : Nat) : Int) := by
  unfold ZG at hb
  have := Zd vs n
  by_cases hc : yQ q t l cs vs z = true ∧ Z3 n = true
  ·rw [if_pos hc] at hb
   by_cases hv : yB vs n < 0
   ·rw [if_pos hv] at hb
    cases hb
   ·omega
  ·rw [if_neg hc] at hb
   cases hb
 obtain ⟨r, q', t', cs', e1, h1⟩ := jh z h (yB vs n) b hi.1 hi.2
 rw [e1]
 exact Res.fin z h h1 r
omit h in
theorem y89 {n : ByteArray} {b : Int} (hb : ZG q t l cs vs z n b = 0) : (0 ≤ yB vs n ∧ yB vs n < ((List.length vs : Nat) : Int)) ∧ yQ q t l cs vs z = true := by
 unfold ZG at hb
 have := Zd vs n
 by_cases hc : yQ q t l cs vs z = true ∧ Z3 n = true
 ·rw [if_pos hc] at hb
  by_cases hv : yB vs n < 0
  ·rw [if_pos hv] at hb
   cases hb
  ·exact ⟨by omega, hc.1⟩
 ·rw [if_neg hc] at hb
  cases hb
theorem y9A (n : ByteArray) (s : Int) (hn : n.size ≤ 60) : Res q t l cs vs z (YP (q, t, l, cs, vs, z, n, s)) := by
 have fin : ∀ (i : Int) (s : Int) (ok : Bool) (q' : List yd) (t' : List y0) (cs' : List y7), 0 ≤ i → i < (vs.length : Int) → SP q' t' l cs' vs → Res q t l cs vs z (if (0 : Int) ≤ i then if i < ((List.length vs : Nat) : Int) then yG (q, t, l, cs, vs, z, q', t', l, cs', List.set vs (Int.toNat i) ((y8 vs i).1, (y8 vs i).2.1, s, (y8 vs i).2.2.2), z, ok) else none else none) := by
  intro i s ok q' t' cs' h0 h1 hS
  rw [if_pos h0, if_pos h1]
  refine Res.fin z h ⟨⟨hS.S.1, hS.S.2.1, hS.S.2.2.1, hS.S.2.2.2.1, hS.S.2.2.2.2.1, by rw [List.length_set]; exact h.S.2.2.2.2.2⟩, fun v hv => ?_⟩ ok
  rcases List.mem_or_eq_of_mem_set hv with hv | rfl
  ·exact h.N v hv
  ·exact h.N (y8 vs i) (yZ zX vs i h0 h1)
 have loop : ∀ (k0 : Int × Int × Bool × List yd × List y0 × List ya × List y7 × List ye × Int × Int × Int × List yd × List y0 × List ya × List y7 × List ye → Option P7a) (k1 : Int × Int × Bool × List yd × List y0 × List ya × List y7 × List ye × Int × Int × List yd × List y0 × List ya × Int × List y7 × List ye → Option P7a) (s i b : Int) (ok : Bool) (y : Int), 0 ≤ i → i < (vs.length : Int) → b ≤ 1000 → -1000 ≤ b → 0 ≤ s →
   (∀ ok q' t' cs', SP q' t' l cs' vs → Res q t l cs vs z (k0 (s, i, ok, q, t, l, cs, vs, z, y, z, q', t', l, cs', vs))) →
   (∀ ok q' t' cs', SP q' t' l cs' vs → Res q t l cs vs z (k1 (s, i, ok, q, t, l, cs, vs, z, y, q', t', l, z, cs', vs))) →
   Res q t l cs vs z (Zb k0 k1 (Sum.inl (s, i, ok, b, q, t, l, cs, vs, z, y, z, q, t, l, cs, vs))) := by
  intro k0 k1 s i b ok y h0 h1 hb hb0 hs f0 f1
  unfold Zb
  refine YI (step := Y9 k0 k1) (fun u : jQ => match u with | .inl u => (u.2.2.2.1 + 1).toNat + 1 | .inr u => (u.2.2.2.1 + 1).toNat)
   (fun u => match u with
    | .inl u => ∃ b ok q' t' cs', b ≤ 1000 ∧ -1000 ≤ b ∧ SP q' t' l cs' vs ∧ u = (s, i, ok, b, q, t, l, cs, vs, z, y, z, q', t', l, cs', vs)
    | .inr u => ∃ b ok q' t' cs', b ≤ 1000 ∧ -1001 ≤ b ∧ SP q' t' l cs' vs ∧ u = (s, i, ok, b, q, t, l, cs, vs, z, y, q', t', l, z, cs', vs))
   (fun _ res => Res q t l cs vs z res) ?_ _ ⟨b, ok, q, t, cs, hb, hb0, h, rfl⟩ (by simp only; omega)
  intro again u hu hag
  cases u with
  | inl u =>
   obtain ⟨b, ok, q', t', cs', k1', k2', hS, rfl⟩ := hu
   unfold Y9
   simp only at hag ⊢
   by_cases hbs : b ≥ s
   ·cases ok with
    | false =>
     simp only [decide_eq_true hbs, cond_true, Option.bind_some, cond_false]
     exact f0 _ _ _ _ hS
    | true =>
     obtain ⟨r, q2, t2, cs2, e1, h2⟩ := jh z hS i b h0 h1
     have hw : Go.IntKind.wrap .i64 (b - 1) = b - 1 := w64 (by omega) (by omega)
     simp only [decide_eq_true hbs, cond_true, Option.bind_some, e1, hw]
     exact hag _ ⟨b - 1, r, q2, t2, cs2, by omega, by omega, h2, rfl⟩ (by simp only; omega)
   ·simp only [decide_eq_false hbs, cond_false, Option.bind_some]
    exact f0 _ _ _ _ hS
  | inr u =>
   obtain ⟨b, ok, q', t', cs', k1', k2', hS, rfl⟩ := hu
   unfold Y9
   simp only at hag ⊢
   by_cases hbs : b ≥ s
   ·cases ok with
    | false =>
     simp only [decide_eq_true hbs, cond_true, Option.bind_some, cond_false]
     exact f1 _ _ _ _ hS
    | true =>
     obtain ⟨r, q2, t2, cs2, e1, h2⟩ := jh z hS i b h0 h1
     have hw : Go.IntKind.wrap .i64 (b - 1) = b - 1 := w64 (by omega) (by omega)
     simp only [decide_eq_true hbs, cond_true, Option.bind_some, e1, hw]
     exact hag _ ⟨b - 1, r, q2, t2, cs2, by omega, by omega, h2, rfl⟩ (by simp only; omega)
   ·simp only [decide_eq_false hbs, cond_false, Option.bind_some]
    exact f1 _ _ _ _ hS
 unfold YP
 simp only [wj z h n (Wj hn), ws z h, zk q t l cs vs z _ h.S.2.2.2.2.2, Yz, Option.bind_some, ym3, y9O]
 cases hb : ZG q t l cs vs z n 0 == 0 with
 | false =>
  have hne : (ZG q t l cs vs z n 0 != 0) = true := by
   rw [bne, hb]
   rfl
  simp only [cond_false, Option.bind_some, hne, cond_true]
  exact Res.same z _
 | true =>
  have h0 : ZG q t l cs vs z n 0 = 0 := by simpa using hb
  cases hs : inR s 1 12 with
  | false =>
   simp only [cond_true, Option.bind_some, Bool.not_false, show ((4 : Int) != 0) = true from rfl]
   exact Res.same z _
  | true =>
   have hne : (ZG q t l cs vs z n 0 != 0) = false := by
    rw [bne, hb]
    rfl
   simp only [cond_true, Option.bind_some, Bool.not_true, cond_false, hne]
   obtain ⟨hi, hp⟩ := y89 z h0
   rw [if_pos hi.1, if_pos hi.2]
   have hs' := Z6.1 hs
   have hr : 1 ≤ (y8 vs (yB vs n)).2.2.1 ∧ (y8 vs (yB vs n)).2.2.1 ≤ 12 := by
    unfold yQ at hp
    simp only [Bool.and_eq_true] at hp
    have hv := hp.2.2.2.2.2.1
    unfold kH at hv
    simp only [Bool.and_eq_true, Bool.not_eq_true'] at hv
    obtain ⟨j, hj⟩ := y1m _ vs 0 hv.1 _ (yZ zX vs _ hi.1 hi.2)
    unfold yex at hj
    simp only [Bool.or_eq_false_iff, Bool.not_eq_false', Z6] at hj
    exact hj.2.1
   have hw : Go.IntKind.wrap .i64 ((y8 vs (yB vs n)).2.2.1 - 1) = (y8 vs (yB vs n)).2.2.1 - 1 := w64 (by omega) (by omega)
   rw [hw]
   exact loop _ _ s (yB vs n) _ true 0 hi.1 hi.2 (by omega) (by omega) (by omega) (fun ok q' t' cs' hS => fin _ s ok q' t' cs' hi.1 hi.2 hS) (fun ok q' t' cs' hS => fin _ s ok q' t' cs' hi.1 hi.2 hS)
end
end Go.Proofs.YthgdjjdigalckaaGreat.Pl
namespace Go.Proofs.YthgdjjdigalckaaGreat.Pl
open Go.Proofs.YthgdjjdigalckaaGreat.R Go.Proofs.YthgdjjdigalckaaGreat.XB
def VZ (cs : List y7) : Int := ZE (fun c : y7 => !c.2.1) cs 0
def Ki (cs : List y7) (n : Int) : List y7 × Int × Bool :=
 if zT cs = true ∧ isW n = true ∧ ¬ VZ cs < 0 then (cs.set (VZ cs).toNat ((cs.getD (VZ cs).toNat zW).1, true, n), VZ cs, true) else (cs, 0, false)
theorem yhf {cs : List y7} (h : ¬ VZ cs < 0) : 0 ≤ VZ cs ∧ VZ cs < (cs.length : Int) ∧ (cs.getD (VZ cs).toNat zW).2.1 = false := by
 rcases Kg (fun c : y7 => !c.2.1) zW cs 0 (Int.le_refl _) with h1 | ⟨h1, h2, h3⟩
 ·exact absurd (show VZ cs < 0 by unfold VZ; omega) h
 ·rw [Int.sub_zero] at h3
  refine ⟨h1, by show ZE (fun c : y7 => !c.2.1) cs 0 < _; omega, ?_⟩
  have : (!(cs.getD (VZ cs).toNat zW).2.1) = true := h3
  simpa using this
theorem yeL (cs : List y7) (n : Int) : (Ki cs n).1.length = cs.length := by
 unfold Ki
 split <;> simp
theorem y5c (cs : List y7) (hc : cs.length ≤ 1048576) : Wy cs = some (VZ cs) := by
 unfold Wy QM
 refine (Zw (step := Jy _ _) (fun i => (cs, (cs.length : Int), i)) (fun c : y7 => !c.2.1) (fun i => some i) (some (-1)) zW cs (by omega) ?_ ?_).trans ?_
 ·intro again i h0 h1
  have hw : Go.IntKind.wrap .i64 (i + 1) = i + 1 := w64 (by omega) (by omega)
  unfold Jy
  have hx : cs.getD i.toNat zW = yl cs i := rfl
  rw [hx]
  simp only [Bool.cond_eq_ite, decide_eq_true_eq, h0, h1, if_true, hw]
 ·intro again i hi
  unfold Jy
  simp only [Bool.cond_eq_ite, decide_eq_true_eq, if_neg hi]
 ·unfold VZ
  rcases y3J (fun c : y7 => !c.2.1) cs 0 with h | ⟨h, _⟩
  ·rw [h]
   rfl
  ·rw [if_neg (by omega)]
theorem y9B (cs : List y7) (i : Int) (n : Int) (h0 : 0 ≤ i) (h1 : i < (cs.length : Int)) :
  (List.set (List.set cs (Int.toNat i) ((yl cs i).1, true, (yl cs i).2.2)) (Int.toNat i) ((yl (List.set cs (Int.toNat i) ((yl cs i).1, true, (yl cs i).2.2)) i).1, (yl (List.set cs (Int.toNat i) ((yl cs i).1, true, (yl cs i).2.2)) i).2.1, n)) = cs.set i.toNat ((cs.getD i.toNat zW).1, true, n) := by
 have hr : yl (List.set cs (Int.toNat i) ((yl cs i).1, true, (yl cs i).2.2)) i = ((yl cs i).1, true, (yl cs i).2.2) := by
  show (List.set cs (Int.toNat i) ((yl cs i).1, true, (yl cs i).2.2)).getD i.toNat zW = _
  rw [List.getD_eq_getElem?_getD, List.getElem?_set_self (by omega)]
  rfl
 rw [hr, List.set_set]
 rfl
theorem y4H {cs : List y7} {n : Int} (h : ¬ (zT cs = true ∧ isW n = true ∧ ¬ VZ cs < 0)) : Ki cs n = (cs, 0, false) := if_neg h
theorem yc2 {cs : List y7} {n : Int} (h : zT cs = true ∧ isW n = true ∧ ¬ VZ cs < 0) : Ki cs n = (cs.set (VZ cs).toNat ((cs.getD (VZ cs).toNat zW).1, true, n), VZ cs, true) := if_pos h
theorem y37 (cs : List y7) (n : Int) (hc : cs.length ≤ 1048576) : ZV (cs, n) = some (Ki cs n) := by
 have e1 : zA cs = some cs := by
  unfold zA
  rw [if_pos (by simp only [List.length_nil]; omega)]
  rfl
 unfold ZV
 simp only [e1, y5c cs hc, y4p, Vi cs hc, Option.bind_some]
 by_cases hf : VZ cs < 0
 ·rw [y4H fun h => h.2.2 hf]
  simp only [decide_eq_true hf, cond_true, Option.bind_some]
 ·obtain ⟨f0, f1, _⟩ := yhf hf
  simp only [decide_eq_false hf, cond_false, Option.bind_some]
  cases hw : isW n with
  | false =>
   rw [y4H fun h => by rw [hw] at h; exact Bool.noConfusion h.2.1]
   rfl
  | true =>
   simp only [Bool.not_true, cond_false, Option.bind_some]
   cases hk : zT cs with
   | false =>
    rw [y4H fun h => by rw [hk] at h; exact Bool.noConfusion h.1]
    rfl
   | true =>
    rw [yc2 ⟨hk, hw, hf⟩]
    simp only [Bool.not_true, cond_false, List.length_set, if_pos f0, if_pos f1, y9B cs _ n f0 f1]
theorem y38 (cs : List y7) (n : Int) (hc : cs.length ≤ 1048576) : zM (cs, n) = some (Ki cs n) := by
 have e1 : Y3 cs = some cs := by
  unfold Y3
  rw [if_pos (by simp only [List.length_nil]; omega)]
  rfl
 unfold zM Ka
 simp only [e1, Option.bind_some]
 by_cases hok : zT cs = true ∧ isW n = true
 ·refine (Zw (step := zE _ _) (fun i => (cs, n, i, cs)) (fun c : y7 => !c.2.1) (fun i => some (cs.set i.toNat ((cs.getD i.toNat zW).1, true, n), i, true)) (some (cs, 0, false)) zW cs (by omega) ?_ ?_).trans ?_
  ·intro again i h0 h1
   have hw : Go.IntKind.wrap .i64 (i + 1) = i + 1 := w64 (by omega) (by omega)
   unfold zE
   have hx : cs.getD i.toNat zW = yl cs i := rfl
   have hs := y9B cs i n h0 h1
   rw [hx] at hs ⊢
   simp only [Bool.cond_eq_ite, decide_eq_true_eq, h0, h1, if_true, hw, JW cs hc, Vh, hok.1, hok.2, Option.bind_some, List.length_set, hs]
  ·intro again i hi
   unfold zE
   simp only [Bool.cond_eq_ite, decide_eq_true_eq, if_neg hi, Option.bind_some, Bool.false_eq_true, if_false]
  ·show (if VZ cs < 0 then _ else _) = _
   by_cases hf : VZ cs < 0
   ·rw [if_pos hf, y4H fun h => h.2.2 hf]
   ·rw [if_neg hf, yc2 ⟨hok.1, hok.2, hf⟩]
    rfl
 ·rw [y4H fun h => hok ⟨h.1, h.2.1⟩]
  refine YH (step := zE _ _) (fun _ => 0) (fun u => u = (cs, n, 0, cs)) (fun _ => some (cs, 0, false)) ?_ _ rfl (by decide)
  rintro again u rfl _
  unfold zE
  simp only [JW cs hc, Vh, Option.bind_some]
  cases hk : zT cs with
  | false => cases decide ((0 : Int) < (cs.length : Int)) <;> rfl
  | true =>
   have hw : isW n = false := by
    cases hw : isW n with
    | false => rfl
    | true => exact absurd ⟨hk, hw⟩ hok
   rw [hw]
   cases decide ((0 : Int) < (cs.length : Int)) <;> rfl
end Go.Proofs.YthgdjjdigalckaaGreat.Pl
namespace Go.Proofs.YthgdjjdigalckaaGreat.Pl
open Go.Proofs.YthgdjjdigalckaaGreat.R Go.Proofs.YthgdjjdigalckaaGreat.XB
theorem y63 : ∀ (a b c : List UInt8), Go.Op.bytesLess a b = true → Go.Op.bytesLess b c = true → Go.Op.bytesLess a c = true
 | _, [], _, h, _ => by simp [Go.Op.bytesLess] at h
 | _, _ :: _, [], _, h => by simp [Go.Op.bytesLess] at h
 | [], _ :: _, _ :: _, _, _ => by simp [Go.Op.bytesLess]
 | x :: a, y :: b, z :: c, h1, h2 => by
  simp only [Go.Op.bytesLess, Bool.or_eq_true, Bool.and_eq_true, decide_eq_true_eq, beq_iff_eq] at *
  rcases h1 with h1 | ⟨rfl, h1⟩
  ·rcases h2 with h2 | ⟨rfl, h2⟩
   ·exact .inl (UInt8.lt_trans h1 h2)
   ·exact .inl h1
  ·rcases h2 with h2 | ⟨rfl, h2⟩
   ·exact .inl h2
   ·exact .inr ⟨rfl, y63 a b c h1 h2⟩
def y1p (n : ByteArray) (v : ye) : Bool := !(Go.Op.bytesLess (ByteArray.toList v.1) (ByteArray.toList n) || (ByteArray.toList v.1) == (ByteArray.toList n))
theorem ym4 {n : ByteArray} {u v : ye} (h : Go.Op.bytesLess (ByteArray.toList u.1) (ByteArray.toList v.1) = true) (hu : y1p n u = true) : y1p n v = true := by
 unfold y1p at *
 simp only [Bool.not_eq_true', Bool.or_eq_false_iff, beq_eq_false_iff_ne, ne_eq] at *
 refine ⟨?_, fun e => ?_⟩
 ·cases hb : Go.Op.bytesLess (ByteArray.toList v.1) (ByteArray.toList n) with
  | false => rfl
  | true => rw [y63 _ _ _ h hb] at hu; exact absurd hu.1 (by simp)
 ·rw [e] at h
  rw [h] at hu
  exact absurd hu.1 (by simp)
def vb (n : ya) : List ya → List ya
 | [] => [n]
 | a :: l => if a.1 > n.1 then n :: a :: l else a :: vb n l
def y0r (id : Int) : List ya → Nat
 | [] => 0
 | a :: l => if a.1 > id then 0 else y0r id l + 1
theorem y9C (id : Int) : ∀ l : List ya, y0r id l ≤ l.length
 | [] => Nat.le_refl _
 | a :: l => by
  have := y9C id l
  rw [y0r]
  split <;> simp <;> omega
theorem yeM (n : ya) : ∀ l : List ya, l.take (y0r n.1 l) ++ ([n] ++ l.drop (y0r n.1 l)) = vb n l
 | [] => rfl
 | a :: l => by
  rw [y0r, vb]
  split
  ·rfl
  ·rw [List.take_succ_cons, List.drop_succ_cons, List.cons_append, yeM n l]
theorem y0F (n : ya) : ∀ l : List ya, (vb n l).length = l.length + 1
 | [] => rfl
 | a :: l => by
  have := y0F n l
  rw [vb]
  split <;> simp [this]
def jD (l : List ya) (id fr : Int) : List ya × Bool := if 0 ≤ zV l id ∨ JV (vb (id, fr) l) = false then (l, false) else (vb (id, fr) l, true)
theorem q8 (l : List ya) (id fr : Int) (hl : l.length ≤ 1000) : jr (l, id, fr) = some (jD l id fr) := by
 unfold jr QL
 refine (YH (step := Wx _) (fun x : Jx => l.length - x.2.2.2.toNat) (fun x => ∃ j : Int, x = (l, id, fr, j) ∧ 0 ≤ j ∧ j ≤ l.length) (fun x => (fun x2 : Jx => Option.bind (zK x2.1) fun r3 => Option.bind (zR (r3, x2.2.2.2, ([(x2.2.1, x2.2.2.1)] : List ya))) fun r4 => Option.bind (Yq (x2.1, x2.2.1)) fun r5 => Option.bind (bif (decide (r5 ≥ (0 : Int))) then some true else Option.bind (jp r4) fun r7 => some (!r7)) fun u6 => bif u6 then Option.bind (zK x2.1) fun r8 => some (r8, false) else some (r4, true)) (l, id, fr, x.2.2.2 + (y0r id (l.drop x.2.2.2.toNat) : Nat))) ?_ _ ⟨0, rfl, Int.le_refl _, by omega⟩ (by simp only; omega)).trans ?_
 ·rintro again x ⟨j, rfl, j0, j1⟩ hag
  unfold Wx
  by_cases hj : j < (l.length : Int)
  ·have hw : Go.IntKind.wrap .i64 (j + 1) = j + 1 := w64 (by omega) (by omega)
   have hd : l.drop j.toNat = yD l j :: l.drop (j.toNat + 1) := by
    rw [List.drop_eq_getElem_cons (by omega)]
    congr 1
    show _ = l.getD j.toNat YT
    simp [show j.toNat < l.length by omega]
   simp only [decide_eq_true hj, cond_true, if_pos j0, if_pos hj, Option.bind_some, hw]
   rw [hd, y0r]
   by_cases ha : (yD l j).1 ≤ id
   ·rw [decide_eq_true ha, cond_true, if_neg (by omega), hag _ ⟨j + 1, rfl, by omega, by omega⟩ (by simp only; omega)]
    simp only
    rw [show (j + 1).toNat = j.toNat + 1 by omega, show j + 1 + ((y0r id (l.drop (j.toNat + 1)) : Nat) : Int) = j + ((y0r id (l.drop (j.toNat + 1)) + 1 : Nat) : Int) by omega]
   ·rw [decide_eq_false ha, cond_false, if_pos (by omega)]
    simp
  ·have hd : l.drop j.toNat = [] := List.drop_eq_nil_of_le (by omega)
   simp only [decide_eq_false hj, cond_false, Option.bind_some, hd, y0r]
   simp
 ·have hp := y9C id l
  simp only [Int.toNat_zero, List.drop_zero, Int.zero_add, y2t l (by omega), Option.bind_some]
  unfold zR
  simp only
  rw [if_pos (by omega), if_pos (by omega), if_pos (show List.length ([(id, fr)] : List ya) = 1 from rfl), if_pos (by omega)]
  simp only [Option.bind_some, Int.toNat_natCast, yeM (id, fr) l, kF l id (by omega), y13 (vb (id, fr) l) (by rw [y0F]; omega)]
  unfold jD
  by_cases ha : 0 ≤ zV l id
  ·rw [if_pos (.inl ha), decide_eq_true (show zV l id ≥ 0 from ha)]
   rfl
  ·rw [decide_eq_false (show ¬ zV l id ≥ 0 from ha)]
   cases hb : JV (vb (id, fr) l) with
   | false => rw [if_pos (.inr rfl)]; rfl
   | true => rw [if_neg (by simp [ha])]; rfl
theorem yEf {n : Nat} (h : n ≤ 1001) : (n + 1) * 16 < 140737488355328 := by omega
theorem yEg {n : Nat} (h : n ≤ 1001) : (n + 1 + 1) * 16 < 140737488355328 := by omega
set_option maxHeartbeats 4000000 in
theorem qa (l : List ya) (id fr : Int) (hl : l.length ≤ 1000) : zD (l, id, fr) = some (jD l id fr) := by
 unfold zD V4
 simp only [Yo l id (by omega), Option.bind_some]
 have hE : ∀ out : List ya, out.length ≤ 1001 → (0 ≤ zV l id ∨ out = vb (id, fr) l) → (Option.bind (zy (l, id)) fun r4 => Option.bind (bif (decide (r4 ≥ (0 : Int))) then some true else Option.bind (YN out) fun r6 => some (!r6)) fun u5 => bif u5 then if (List.length ([] : List ya) + List.length l) * 16 < 140737488355328 then some ((([] : List ya) ++ l), false) else none else some (out, true)) = some (jD l id fr) := by
  intro out ho hcase
  simp only [Yo l id (by omega), wQ out (by omega), Option.bind_some, List.nil_append, if_pos (show (List.length ([] : List ya) + List.length l) * 16 < 140737488355328 by simp; omega)]
  unfold jD
  by_cases ha : 0 ≤ zV l id
  ·rw [if_pos (.inl ha), decide_eq_true (show zV l id ≥ 0 from ha)]
   rfl
  ·rcases hcase with h | rfl
   ·exact absurd h ha
   ·rw [decide_eq_false (show ¬ zV l id ≥ 0 from ha)]
    cases hb : JV (vb (id, fr) l) with
    | false => rw [if_pos (.inr rfl)]; rfl
    | true => rw [if_neg (by simp [ha])]; rfl
 refine YI (step := j7 _) (fun x : JJ => l.length - x.2.2.2.2.1.toNat)
  (fun x => ∃ (j : Int) (dn : Bool) (acc : List ya), x = (l, id, fr, dn, j, acc) ∧ 0 ≤ j ∧ j ≤ l.length ∧ acc.length ≤ j.toNat + (bif dn then 1 else 0) ∧ (dn = true → 0 ≤ zV l id ∨ acc ++ l.drop j.toNat = vb (id, fr) l) ∧ (dn = false → acc ++ vb (id, fr) (l.drop j.toNat) = vb (id, fr) l))
  (fun _ res => res = some (jD l id fr)) ?_ _ ⟨0, _, [], rfl, Int.le_refl _, by omega, by simp, fun h => .inl (of_decide_eq_true h), fun _ => by simp⟩ (by simp only; omega)
 rintro again x ⟨j, dn, acc, rfl, j0, j1, hl2, hd1, hd2⟩ hag
 unfold j7
 by_cases hj : j < (l.length : Int)
 ·have hw : Go.IntKind.wrap .i64 (j + 1) = j + 1 := w64 (by omega) (by omega)
  have hd : l.drop j.toNat = yD l j :: l.drop (j.toNat + 1) := by
   rw [List.drop_eq_getElem_cons (by omega)]
   congr 1
   show _ = l.getD j.toNat YT
   simp [show j.toNat < l.length by omega]
  have hjn : (j + 1).toNat = j.toNat + 1 := by omega
  have heta : ((yD l j).1, (yD l j).2) = yD l j := rfl
  have hal : acc.length ≤ 1001 := by cases dn <;> simp at hl2 <;> omega
  have h1 := yEf hal
  have h2 := yEg hal
  have hap : ∀ a b : ya, (acc ++ [a]) ++ [b] ++ l.drop (j.toNat + 1) = acc ++ (a :: b :: l.drop (j.toNat + 1)) := fun a b => by simp only [List.append_assoc, List.cons_append, List.nil_append]
  have hap1 : ∀ (a : ya) (m : List ya), (acc ++ [a]) ++ m = acc ++ (a :: m) := fun a m => by simp only [List.append_assoc, List.cons_append, List.nil_append]
  cases dn with
  | true =>
   simp only [decide_eq_true hj, cond_true, if_pos j0, if_pos hj, Option.bind_some, hw, Bool.not_true, cond_false, List.length_cons, List.length_nil, Nat.zero_add, List.length_append, heta, if_pos h1]
   refine hag _ ⟨j + 1, true, acc ++ [yD l j], rfl, by omega, by omega, by simp only [cond_true, List.length_append, List.length_cons, List.length_nil] at hl2 ⊢; omega, fun h => (hd1 h).imp (fun h => h) fun h => ?_, fun h => Bool.noConfusion h⟩ (by simp only; omega)
   rw [hjn, ← h, hd]
   exact hap1 _ _
  | false =>
   simp only [decide_eq_true hj, cond_true, if_pos j0, if_pos hj, Option.bind_some, hw, Bool.not_false, List.length_cons, List.length_nil, Nat.zero_add, List.length_append, heta, if_pos h1, if_pos h2]
   have h3 := hd2 rfl
   rw [hd, vb] at h3
   by_cases ha : (yD l j).1 > id
   ·rw [if_pos ha] at h3
    rw [decide_eq_true ha, cond_true]
    refine hag _ ⟨j + 1, true, _, rfl, by omega, by omega, by simp only [cond_true, cond_false, List.length_append, List.length_cons, List.length_nil] at hl2 ⊢; omega, fun _ => .inr ?_, fun h => Bool.noConfusion h⟩ (by simp only; omega)
    rw [hjn, ← h3]
    exact hap _ _
   ·rw [if_neg ha] at h3
    rw [decide_eq_false ha, cond_false]
    refine hag _ ⟨j + 1, false, _, rfl, by omega, by omega, by simp only [cond_false, List.length_append, List.length_cons, List.length_nil] at hl2 ⊢; omega, fun h => Bool.noConfusion h, fun _ => ?_⟩ (by simp only; omega)
    rw [hjn, ← h3]
    exact hap1 _ _
 ·have hd : l.drop j.toNat = [] := List.drop_eq_nil_of_le (by omega)
  rw [hd] at hd1 hd2
  have hal : acc.length ≤ 1001 := by cases dn <;> simp at hl2 <;> omega
  simp only [decide_eq_false hj, cond_false]
  cases dn with
  | true =>
   simp only [Bool.not_true, cond_false]
   exact hE acc hal ((hd1 rfl).imp (fun h => h) fun h => by simpa using h)
  | false =>
   have h1 : (List.length acc + List.length [(id, fr)]) * 16 < 140737488355328 := by simp; omega
   simp only [Bool.not_false, cond_true, if_pos h1]
   have h3 : acc ++ [(id, fr)] = vb (id, fr) l := hd2 rfl
   exact hE (acc ++ [(id, fr)]) (by rw [h3, y0F]; omega) (.inr h3)
end Go.Proofs.YthgdjjdigalckaaGreat.Pl
namespace Go.Proofs.YthgdjjdigalckaaGreat.Pl
open Go.Proofs.YthgdjjdigalckaaGreat.R Go.Proofs.YthgdjjdigalckaaGreat.XB
def wo (v : ye) : List ye → List ye
 | [] => [v]
 | u :: r => if y1p v.1 u = true then v :: u :: r else u :: wo v r
theorem qC (v : ye) : ∀ l : List ye, (wo v l).length = l.length + 1
 | [] => rfl
 | u :: r => by
  have := qC v r
  rw [wo]
  split <;> simp [this]
theorem y9D (v : ye) : ∀ (l : List ye) (i : Nat), i ≤ l.length → (∀ j, j < i → y1p v.1 (l.getD j zX) = false) → (i < l.length → y1p v.1 (l.getD i zX) = true) → wo v l = l.take i ++ v :: l.drop i
 | [], i, hi, _, _ => by
  have : i = 0 := by simpa using hi
  subst this
  rfl
 | u :: r, 0, _, _, h2 => by
  have := h2 (by simp)
  rw [wo, if_pos (by simpa using this)]
  rfl
 | u :: r, i + 1, hi, h1, h2 => by
  have := h1 0 (by omega)
  rw [wo, if_neg (by simpa using this), y9D v r i (by simpa using hi) (fun j hj => by simpa using h1 (j + 1) (by omega)) (fun h => by simpa using h2 (by simpa using h))]
  rfl
def ym5 (l : List ye) : Prop := ∀ j, j + 1 < l.length → Go.Op.bytesLess (ByteArray.toList (l.getD j zX).1) (ByteArray.toList (l.getD (j + 1) zX).1) = true
theorem yc3 {l : List ye} (h : ym5 l) (n : ByteArray) {j : Nat} : ∀ k : Nat, j + k < l.length → y1p n (l.getD j zX) = true → y1p n (l.getD (j + k) zX) = true
 | 0, _, ho => ho
 | k + 1, hk, ho => ym4 (h (j + k) hk) (yc3 h n k (by omega) ho)
theorem yeN {A : Type} : ∀ (X : List A) (y z : A) (Y : List A), (X ++ y :: Y).set X.length z = X ++ z :: Y
 | [], _, _, _ => rfl
 | x :: X, y, z, Y => by
  have := yeN X y z Y
  simpa using this
theorem yEh {n : Nat} (h : n ≤ 1001) : (n + 1) * 40 < 140737488355328 := by omega
theorem yEi {n : Nat} (h : n ≤ 1001) : (n + 1 + 1) * 40 < 140737488355328 := by omega
theorem qD (vs : List ye) (n : ByteArray) (a s : Int) (f : Bool) (hv : vs.length ≤ 1000) : Z8 (vs, n, a, s, f) = some (wo (n, a, s, f) vs) := by
 unfold Z8 Vz
 refine YI (step := Jd _) (fun x : Jc => vs.length - x.2.2.2.1.toNat)
  (fun x => ∃ (j : Int) (dn : Bool) (acc : List ye), x = (dn, vs, (vs.length : Int), j, n, a, s, f, acc) ∧ 0 ≤ j ∧ j ≤ vs.length ∧ acc.length ≤ 1001 ∧ (dn = true → acc ++ vs.drop j.toNat = wo (n, a, s, f) vs) ∧ (dn = false → acc ++ wo (n, a, s, f) (vs.drop j.toNat) = wo (n, a, s, f) vs))
  (fun _ res => res = some (wo (n, a, s, f) vs)) ?_ _ ⟨0, false, [], rfl, Int.le_refl _, by omega, by simp, fun h => Bool.noConfusion h, fun _ => by simp⟩ (by simp only; omega)
 rintro again x ⟨j, dn, acc, rfl, j0, j1, hl2, hd1, hd2⟩ hag
 have hL := qC (n, a, s, f) vs
 unfold Jd
 by_cases hj : j < (vs.length : Int)
 ·have hw : Go.IntKind.wrap .i64 (j + 1) = j + 1 := w64 (by omega) (by omega)
  have hd : vs.drop j.toNat = y8 vs j :: vs.drop (j.toNat + 1) := by
   rw [List.drop_eq_getElem_cons (by omega)]
   congr 1
   show _ = vs.getD j.toNat zX
   simp [show j.toNat < vs.length by omega]
  have hjn : (j + 1).toNat = j.toNat + 1 := by omega
  have heta : ((y8 vs j).1, (y8 vs j).2.1, (y8 vs j).2.2.1, (y8 vs j).2.2.2) = y8 vs j := rfl
  have h1 := yEh hl2
  have h2 := yEi hl2
  have hap : ∀ a b : ye, (acc ++ [a]) ++ [b] ++ vs.drop (j.toNat + 1) = acc ++ (a :: b :: vs.drop (j.toNat + 1)) := fun a b => by simp only [List.append_assoc, List.cons_append, List.nil_append]
  have hap1 : ∀ (a : ye) (m : List ye), (acc ++ [a]) ++ m = acc ++ (a :: m) := fun a m => by simp only [List.append_assoc, List.cons_append, List.nil_append]
  rw [hd] at hd1 hd2
  cases dn with
  | true =>
   have h3 := hd1 rfl
   simp only [decide_eq_true hj, cond_true, if_pos j0, if_pos hj, Option.bind_some, hw, Bool.not_true, cond_false, List.length_cons, List.length_nil, Nat.zero_add, heta, if_pos h1]
   have h4 := congrArg List.length h3
   rw [List.length_append, List.length_cons, List.length_drop] at h4
   refine hag _ ⟨j + 1, true, acc ++ [y8 vs j], rfl, by omega, by omega, by rw [List.length_append]; simp only [List.length_cons, List.length_nil]; omega, fun h => ?_, fun h => Bool.noConfusion h⟩ (by simp only; omega)
   rw [hjn, ← h3]
   exact hap1 _ _
  | false =>
   have h3 := hd2 rfl
   have h4 := congrArg List.length h3
   rw [List.length_append, qC, List.length_cons, List.length_drop] at h4
   rw [wo] at h3
   have hov : (!(Go.Op.bytesLess (ByteArray.toList ((y8 vs j).1)) (ByteArray.toList n) || (ByteArray.toList ((y8 vs j).1)) == (ByteArray.toList n))) = y1p n (y8 vs j) := rfl
   simp only [decide_eq_true hj, cond_true, if_pos j0, if_pos hj, Option.bind_some, hw, Bool.not_false, List.length_cons, List.length_nil, Nat.zero_add, List.length_append, heta, if_pos h1, if_pos h2, hov]
   cases ho : y1p n (y8 vs j) with
   | true =>
    rw [if_pos ho] at h3
    rw [cond_true]
    refine hag _ ⟨j + 1, true, _, rfl, by omega, by omega, by simp only [List.length_append, List.length_cons, List.length_nil]; omega, fun _ => ?_, fun h => Bool.noConfusion h⟩ (by simp only; omega)
    rw [hjn, ← h3]
    exact hap _ _
   | false =>
    rw [if_neg (by rw [ho]; exact Bool.false_ne_true)] at h3
    rw [cond_false]
    refine hag _ ⟨j + 1, false, _, rfl, by omega, by omega, by simp only [List.length_append, List.length_cons, List.length_nil]; omega, fun h => Bool.noConfusion h, fun _ => ?_⟩ (by simp only; omega)
    rw [hjn, ← h3]
    exact hap1 _ _
 ·have hd : vs.drop j.toNat = [] := List.drop_eq_nil_of_le (by omega)
  rw [hd] at hd1 hd2
  simp only [decide_eq_false hj, cond_false]
  cases dn with
  | true =>
   simp only [Bool.not_true, cond_false]
   rw [← hd1 rfl, List.append_nil]
  | false =>
   have h1 : (List.length acc + List.length ([(n, a, s, f)] : List ye)) * 40 < 140737488355328 := by simp only [List.length_cons, List.length_nil]; omega
   simp only [Bool.not_false, cond_true, if_pos h1]
   rw [← hd2 rfl]
   rfl
theorem y17 (vs : List ye) (n : ByteArray) (a s : Int) (f : Bool) (hv : vs.length ≤ 1000) (hs : ym5 vs) : Y8 (vs, n, a, s, f) = some (wo (n, a, s, f) vs) := by
 unfold Y8 WL
 have h1 : (List.length ([] : List ye) + List.length vs) * 40 < 140737488355328 := by simp only [List.length_nil]; omega
 have h2 : (List.length (([] : List ye) ++ vs) + List.length ([(n, a, s, f)] : List ye)) * 40 < 140737488355328 := by simp only [List.nil_append, List.length_cons, List.length_nil]; omega
 simp only
 rw [if_pos h1, if_pos h2]
 simp only [List.nil_append]
 have hw0 : Go.IntKind.wrap .i64 ((((vs ++ [(n, a, s, f)]).length : Nat) : Int) - 1) = (vs.length : Int) := by
  rw [List.length_append, w64 (by simp only [List.length_cons, List.length_nil]; omega) (by simp only [List.length_cons, List.length_nil]; omega)]
  simp only [List.length_cons, List.length_nil]
  omega
 rw [hw0]
 refine YI (step := Yw _) (fun x : Zq => x.1.toNat)
  (fun x => ∃ (j : Int) (u : ye), x = (j, n, a, s, f, vs.take j.toNat ++ u :: vs.drop j.toNat) ∧ 0 ≤ j ∧ j ≤ vs.length ∧ (j < vs.length → y1p n (vs.getD j.toNat zX) = true))
  (fun _ res => res = some (wo (n, a, s, f) vs)) ?_ _ ⟨(vs.length : Int), (n, a, s, f), by rw [Int.toNat_natCast, List.take_length, List.drop_length], by omega, Int.le_refl _, fun h => absurd h (Int.lt_irrefl _)⟩ (by simp only; omega)
 rintro again x ⟨j, u, rfl, j0, j1, ho⟩ hag
 have hxl : (vs.take j.toNat ++ u :: vs.drop j.toNat).length = vs.length + 1 := by
  simp only [List.length_append, List.length_take, List.length_cons, List.length_drop]
  omega
 have htl : (vs.take j.toNat).length = j.toNat := by rw [List.length_take]; omega
 have hset : ∀ y : ye, (vs.take j.toNat ++ u :: vs.drop j.toNat).set j.toNat y = vs.take j.toNat ++ y :: vs.drop j.toNat := fun y => by
  have := yeN (vs.take j.toNat) u y (vs.drop j.toNat)
  rwa [htl] at this
 unfold Yw
 have done : (0 < j → y1p n (vs.getD (j.toNat - 1) zX) = false) → some (vs.take j.toNat ++ (n, a, s, f) :: vs.drop j.toNat) = some (wo (n, a, s, f) vs) := fun hlast => by
  rw [y9D (n, a, s, f) vs j.toNat (by omega) (fun i hi => ?_) (fun h => ho (by omega))]
  cases hov : y1p n (vs.getD i zX) with
  | false => rfl
  | true =>
   have := yc3 hs n (j := i) (j.toNat - 1 - i) (by omega) hov
   rw [show i + (j.toNat - 1 - i) = j.toNat - 1 by omega, hlast (by omega)] at this
   cases this
 by_cases hj : j > 0
 ·have hw : Go.IntKind.wrap .i64 (j - 1) = j - 1 := w64 (by omega) (by omega)
  have hrd : y8 (vs.take j.toNat ++ u :: vs.drop j.toNat) (j - 1) = vs.getD (j.toNat - 1) zX := by
   show (vs.take j.toNat ++ u :: vs.drop j.toNat).getD (j - 1).toNat zX = _
   rw [show (j - 1).toNat = j.toNat - 1 by omega, List.getD_eq_getElem?_getD, List.getD_eq_getElem?_getD, List.getElem?_append_left (by rw [htl]; omega), List.getElem?_take, if_pos (by omega)]
  have hov : (!(Go.Op.bytesLess (ByteArray.toList ((vs.getD (j.toNat - 1) zX).1)) (ByteArray.toList n) || (ByteArray.toList ((vs.getD (j.toNat - 1) zX).1)) == (ByteArray.toList n))) = y1p n (vs.getD (j.toNat - 1) zX) := rfl
  have heta : ((vs.getD (j.toNat - 1) zX).1, (vs.getD (j.toNat - 1) zX).2.1, (vs.getD (j.toNat - 1) zX).2.2.1, (vs.getD (j.toNat - 1) zX).2.2.2) = vs.getD (j.toNat - 1) zX := rfl
  simp only [decide_eq_true hj, cond_true, hw, if_pos (show (0 : Int) ≤ j - 1 by omega), if_pos (show j - 1 < ((List.length (vs.take j.toNat ++ u :: vs.drop j.toNat) : Nat) : Int) by rw [hxl]; omega), if_pos j0, if_pos (show j < ((List.length (vs.take j.toNat ++ u :: vs.drop j.toNat) : Nat) : Int) by rw [hxl]; omega), hrd, hov, heta, hset, Option.bind_some]
  cases hb : y1p n (vs.getD (j.toNat - 1) zX) with
  | true =>
   rw [cond_true]
   have e1 : vs.take j.toNat = vs.take (j - 1).toNat ++ [vs.getD (j.toNat - 1) zX] := by
    rw [show j.toNat = (j.toNat - 1) + 1 by omega, List.take_succ, show (j - 1).toNat = j.toNat - 1 by omega]
    congr 1
    rw [List.getElem?_eq_getElem (by omega), Nat.add_sub_cancel]
    simp [show j.toNat - 1 < vs.length by omega]
   have e2 : vs.drop (j - 1).toNat = vs.getD (j.toNat - 1) zX :: vs.drop j.toNat := by
    rw [List.drop_eq_getElem_cons (by omega), show (j - 1).toNat + 1 = j.toNat by omega]
    congr 1
    simp [show (j - 1).toNat = j.toNat - 1 by omega, show j.toNat - 1 < vs.length by omega]
   refine hag _ ⟨j - 1, vs.getD (j.toNat - 1) zX, ?_, by omega, by omega, fun _ => by rw [show (j - 1).toNat = j.toNat - 1 by omega]; exact hb⟩ (by simp only; omega)
   rw [e1, e2, List.append_assoc]
   rfl
  | false =>
   rw [cond_false]
   exact done fun _ => hb
 ·simp only [decide_eq_false hj, cond_false, Option.bind_some, if_pos j0, if_pos (show j < ((List.length (vs.take j.toNat ++ u :: vs.drop j.toNat) : Nat) : Int) by rw [hxl]; omega), hset]
  exact done fun h => absurd h hj
theorem yhg {vs : List ye} {l : List ya} (h : kH vs l = true) : ym5 vs := by
 intro j hj
 unfold kH at h
 simp only [Bool.and_eq_true, Bool.not_eq_true'] at h
 have := ybH zX vs 0 h.1 (j + 1) hj
 unfold yex at this
 simp only [Bool.or_eq_false_iff, Bool.not_eq_false', Bool.and_eq_false_iff] at this
 rcases this.2.2.2.2.1 with h1 | h1
 ·have := of_decide_eq_false h1
  omega
 ·rwa [show ((0 : Int) + ((j + 1 : Nat) : Int) - 1).toNat = j by omega] at h1
theorem ym6 {vs : List ye} (h : ym5 vs) (i : Nat) (v : ye) (hv : v.1 = (vs.getD i zX).1) : ym5 (vs.set i v) := by
 have hn : ∀ k, ((vs.set i v).getD k zX).1 = (vs.getD k zX).1 := fun k => by
  rw [List.getD_eq_getElem?_getD, List.getD_eq_getElem?_getD]
  by_cases hk : i = k
  ·subst hk
   by_cases hl : i < vs.length
   ·rw [List.getElem?_set_self hl]
    rw [List.getD_eq_getElem?_getD] at hv
    exact hv
   ·rw [List.getElem?_eq_none (by rw [List.length_set]; omega), List.getElem?_eq_none (by omega)]
  ·rw [List.getElem?_set_ne hk]
 intro j hj
 rw [hn, hn]
 exact h j (by simpa using hj)
section
variable (q : List yd) (t : List y0) (l : List ya) (cs : List y7) (vs : List ye) (z : Int)
theorem vj (n : ByteArray) (hv : vs.length ≤ 1048576) : Zj (q, t, l, cs, vs, z, n) = some (yB vs n) := by
 unfold Zj zh YF
 have key := Zw (step := yS (fun x2 => some x2) (fun x3 => some ((-1 : Int), x3))) (fun i => (vs, (vs.length : Int), i, n)) (fun v : ye => ByteArray.toList v.1 == ByteArray.toList n) (fun i => some (i, n)) (some (-1, n)) zX vs (by omega) (fun again i h0 h1 => by
  have hw : Go.IntKind.wrap .i64 (i + 1) = i + 1 := w64 (by omega) (by omega)
  unfold yS Kn
  simp only [Bool.cond_eq_ite, decide_eq_true_eq, h0, h1, if_true, hw, Option.bind_some]
  rfl) (fun again i hi => by
  unfold yS
  simp only [Bool.cond_eq_ite, decide_eq_true_eq, if_neg hi])
 simp only
 rw [key]
 rcases Zd vs n with h | ⟨h1, h2⟩ <;> unfold yB at *
 ·rw [h]
  rfl
 ·rw [if_neg (by omega)]
  rfl
noncomputable def ym7 (n : ByteArray) (b : Int) : Int := if yQ q t l cs vs z = true ∧ Z3 n = true then (if yB vs n < 0 then 2 else if inR b 0 (Go.IntKind.wrap .i64 ((y8 vs (yB vs n)).2.2.1 - 1)) = true then 0 else 4) else 1
variable {q t l cs vs} (h : SP q t l cs vs)
include h
theorem wk (n : ByteArray) (hn : n.size ≤ maxLen) (b : Int) (ch : Bool) : Y7 (q, t, l, cs, vs, z, n, b, ch) = some (yB vs n, if ch = true then ZG q t l cs vs z n b else ym7 q t l cs vs z n b) := by
 unfold Y7 ZG ym7
 simp only [vj q t l cs vs z n h.S.2.2.2.2.2, wT z h, J6 n hn, YJ, Option.bind_some]
 cases hp : yQ q t l cs vs z with
 | false => cases ch <;> rfl
 | true =>
  cases hno : Z3 n with
  | false => cases ch <;> rfl
  | true =>
   simp only [Bool.not_true, cond_false, Option.bind_some, and_self, if_true]
   by_cases hv : yB vs n < 0
   ·simp only [decide_eq_true hv, cond_true, if_pos hv]
    cases ch <;> rfl
   ·have h2 := Zd vs n
    simp only [decide_eq_false hv, cond_false, if_neg hv, if_pos (show (0 : Int) ≤ yB vs n by omega), if_pos (show yB vs n < ((List.length vs : Nat) : Int) by omega)]
    cases ch <;> cases (y8 vs (yB vs n)).2.2.2 <;> cases inR b 0 (Go.IntKind.wrap .i64 ((y8 vs (yB vs n)).2.2.1 - 1)) <;> rfl
theorem vm {q' : List yd} {t' : List y0} {l' : List ya} {cs' : List y7} {vs' : List ye} {z' : Int} (hx : SP q' t' l' cs' vs') (b : Bool) : yU (q, t, l, cs, vs, z, q', t', l', cs', vs', z', b) = some (if b = true ∧ yQ q' t' l' cs' vs' z' = true then (q', t', l', cs', vs', z', 0) else (q, t, l, cs, vs, z, 6)) := by
 have ec : ym (q, t, l, cs, vs, z) = some (q, t, l, cs, vs, z) := Qo q t l cs vs z h.S
 unfold yU
 simp only [wT z' hx, ec, Option.bind_some]
 cases b <;> cases hp : yQ q' t' l' cs' vs' z' <;> simp
omit h in
theorem ycV {q : List yd} {t : List y0} {k : y9} (h : (yx q t k).2.2 = false) : (yx q t k).1 = q ∧ (yx q t k).2.1 = t := by
 unfold yx at h ⊢
 split
 ·rename_i h1
  rw [if_pos h1] at h
  split
  ·rename_i h2
   rw [if_pos h2] at h
   cases h
  ·exact ⟨rfl, rfl⟩
 ·exact ⟨rfl, rfl⟩
def yaS (q : List yd) (t : List y0) (l : List ya) (cs : List y7) (vs : List ye) (z : Int) (k : y9) : Bool × List yd × List y0 × List ya × List y7 × List ye × Int :=
 ((yx q t k).2.2, (yx q t k).1, (yx q t k).2.1, l, if (yx q t k).2.2 = true then Q1 q t cs k else cs, vs, z)
theorem y4I (a b c d e : Int) : zd (q, t, l, cs, vs, z, a, b, c, d, e) = some (yaS q t l cs vs z (a, b, c, d, e)) := by
 have hq := h.tq
 unfold zd yaS
 simp only [J7 q t a b hq.T hq.q, Z4 q t a b c d e hq.T hq.Q hq.q, Option.bind_some]
 cases hr : (yx q t (a, b, c, d, e)).2.2 with
 | false =>
  obtain ⟨e1, e2⟩ := ycV hr
  rw [e1, e2]
  rfl
 | true =>
  unfold J4 Q1
  simp only [Bool.not_true, cond_false, if_true, jW cs _ h.S.2.2.2.2.1, Option.bind_some]
  cases (jC q t a b).2.2.2.2.2 with
  | false => rfl
  | true =>
   by_cases h1 : (jC q t a b).2.2.1 = 1
   ·rw [if_pos ⟨rfl, h1⟩]
    simp only [h1, cond_true, Option.bind_some, beq_self_eq_true]
   ·rw [if_neg fun hh => h1 hh.2]
    simp only [cond_true, Option.bind_some, beq_eq_false_iff_ne.2 h1, cond_false]
theorem y4J (a b c d e : Int) : zp (q, t, l, cs, vs, z, a, b, c, d, e) = some (yaS q t l cs vs z (a, b, c, d, e)) := by
 have hq := h.tq
 unfold zp yaS
 simp only [y16 q t a b hq.T hq.q, y4C q t a b c d e hq.T hq.Q hq.q, Option.bind_some]
 cases hr : (yx q t (a, b, c, d, e)).2.2 with
 | false => rfl
 | true =>
  unfold Q1
  simp only [cond_true, if_true, Option.bind_some, y36 cs _ h.S.2.2.2.2.1]
  cases (jC q t a b).2.2.2.2.2 with
  | false => rfl
  | true =>
   by_cases h1 : (jC q t a b).2.2.1 = 1
   ·rw [if_pos ⟨rfl, h1⟩]
    simp only [h1, cond_true, Option.bind_some, beq_self_eq_true]
   ·rw [if_neg fun hh => h1 hh.2]
    simp only [cond_true, Option.bind_some, beq_eq_false_iff_ne.2 h1, cond_false]
theorem y0s (i b : Int) : zS (q, t, l, cs, vs, z, i, b) = zo (q, t, l, cs, vs, z, i, b) := by
 have hq := h.tq
 unfold zS zo
 simp only [y85 q t l _ _ hq.T h.S.2.2.2.1, qZ q t l _ _ hq.T h.S.2.2.2.1, y16 q t _ _ hq.T hq.q, J7 q t _ _ hq.T hq.q, y4J z h, y4I z h, Option.bind_some]
 split
 ·split
  ·have key : ∀ u v : Bool, (bif u then some (yaS q t l cs vs z (b, (y8 vs i).2.1, 2, 0, 0)) else bif v then some (yaS q t l cs vs z (b, (y8 vs i).2.1, 0, 0, 0)) else some (true, q, t, l, cs, vs, z)) = (bif u then some (yaS q t l cs vs z (b, (y8 vs i).2.1, 2, 0, 0)) else bif (!v) then some (true, q, t, l, cs, vs, z) else some (yaS q t l cs vs z (b, (y8 vs i).2.1, 0, 0, 0))) := fun u v => by cases u <;> cases v <;> rfl
   cases (ans (y4x t l b (y8 vs i).2.1)).2.2.2.2.2
   ·exact key false _
   ·exact key _ _
  ·rfl
 ·rfl
theorem y9E (i b : Int) (h0 : 0 ≤ i) (h1 : i < (vs.length : Int)) (hr : 1 ≤ (y8 vs i).2.2.1 ∧ (y8 vs i).2.2.1 ≤ 12) (hb : inR b 0 (Go.IntKind.wrap .i64 ((y8 vs i).2.2.1 - 1)) = true) : ∃ r, wB (q, t, l, cs, vs, z, i, b) = some r ∧ wM (q, t, l, cs, vs, z, i, b) = some r := by
 have hq := h.tq
 have hv := h.S.2.2.2.2.2
 have hm : Go.IntKind.wrap .i64 ((vs.length : Int) - 1) = (vs.length : Int) - 1 := w64 (by omega) (by omega)
 have hw : Go.IntKind.wrap .i64 ((y8 vs i).2.2.1 - 1) = (y8 vs i).2.2.1 - 1 := w64 (by omega) (by omega)
 obtain ⟨b0, b1⟩ := Z6.1 hb
 rw [hw] at b1
 unfold wB wM
 simp only [Yz, YJ, hm, hb, Z6.2 ⟨h0, show i ≤ (vs.length : Int) - 1 by omega⟩, Bool.not_true, cond_false, if_pos h0, if_pos h1, decide_eq_false (show ¬ b < 0 by omega), decide_eq_false (show ¬ b ≥ (y8 vs i).2.2.1 by omega), Option.bind_some,
  y2P q t l b _ hq.T h.S.2.2.2.1, y94 q t l b _ hq.T h.S.2.2.2.1, VV cs _ _ h.S.2.2.2.2.1, y14 cs _ _ h.S.2.2.2.2.1]
 have key : ∀ u : Bool, ∃ r, (bif u then some (0 : Int) else some (Vj cs (ans (y7W t l b (y8 vs i).2.1)).2.2.2.1 (ans (y7W t l b (y8 vs i).2.1)).2.2.2.2.1).1) = some r := fun u => by cases u <;> exact ⟨_, rfl⟩
 cases (ans (y7W t l b (y8 vs i).2.1)).2.2.2.2.2
 ·obtain ⟨r, hr⟩ := key true
  exact ⟨r, hr, hr⟩
 ·obtain ⟨r, hr⟩ := key ((ans (y7W t l b (y8 vs i).2.1)).2.2.1 != 1)
  exact ⟨r, hr, hr⟩
end
end Go.Proofs.YthgdjjdigalckaaGreat.Pl
namespace Go.Proofs.YthgdjjdigalckaaGreat.Pl
open Go.Proofs.YthgdjjdigalckaaGreat.R Go.Proofs.YthgdjjdigalckaaGreat.XB
theorem y2w (l : List ya) (id fr : Int) : (jD l id fr).1.length ≤ l.length + 1 := by
 unfold jD
 split
 ·exact Nat.le_succ _
 ·exact Nat.le_of_eq (y0F _ _)
theorem y2x {v u : ye} : ∀ {l : List ye}, u ∈ wo v l → u = v ∨ u ∈ l
 | [], h => .inl (by simpa [wo] using h)
 | w :: r, h => by
  rw [wo] at h
  split at h
  ·rcases List.mem_cons.1 h with h | h
   ·exact .inl h
   ·exact .inr h
  ·rcases List.mem_cons.1 h with h | h
   ·exact .inr (by simp [h])
   ·exact (y2x h).imp (fun h => h) (fun h => List.mem_cons_of_mem _ h)
section
variable {q : List yd} {t : List y0} {l : List ya} {cs : List y7} {vs : List ye} (z : Int) (h : SP q t l cs vs)
include h
theorem y9F : ym (q, t, l, cs, vs, z) = some (q, t, l, cs, vs, z) := Qo q t l cs vs z h.S
theorem yc4 (hp : yQ q t l cs vs z = true) : ym5 vs := by
 unfold yQ at hp
 simp only [Bool.and_eq_true] at hp
 exact yhg hp.2.2.2.2.2.1
theorem y9G (hp : yQ q t l cs vs z = true) {i : Int} (h0 : 0 ≤ i) (h1 : i < (vs.length : Int)) : 1 ≤ (y8 vs i).2.2.1 ∧ (y8 vs i).2.2.1 ≤ 12 := by
 unfold yQ at hp
 simp only [Bool.and_eq_true] at hp
 have hv := hp.2.2.2.2.2.1
 unfold kH at hv
 simp only [Bool.and_eq_true, Bool.not_eq_true'] at hv
 obtain ⟨j, hj⟩ := y1m _ vs 0 hv.1 _ (yZ zX vs _ h0 h1)
 unfold yex at hj
 simp only [Bool.or_eq_false_iff, Bool.not_eq_false', Z6] at hj
 exact hj.2.1
theorem yaT (n : ByteArray) (s : Int) (hn : n.size ≤ 60) : kz (q, t, l, cs, vs, z, n, s) = YO (q, t, l, cs, vs, z, n, s) := by
 unfold kz YO
 simp only [KL z h n (Wj hn), ws z h, y9F z h, zk q t l cs vs z n h.S.2.2.2.2.2, vj q t l cs vs z n h.S.2.2.2.2.2, wT z h, J6 n (Wj hn), Yz, YJ, Option.bind_some, y9O]
 unfold y9x
 cases hp : yQ q t l cs vs z with
 | false => rfl
 | true =>
  cases hno : Z3 n with
  | false => rfl
  | true =>
   have hT := VY hp
   have hl := hT.ll
   have hv := hT.vl
   have e3 := qC (n, z, s, false) vs
   have hS : SP q t (jD l z 0).1 cs (wo (n, z, s, false) vs) := SP.of h.tq (by have := y2w l z 0; omega) h.S.2.2.2.2.1 (by omega) fun v hv => by
    rcases y2x hv with rfl | hv
    ·exact Wj hn
    ·exact h.N v hv
   simp only [Bool.not_true, cond_false, Option.bind_some, and_self, if_true, q8 l z 0 (by omega), qa l z 0 (by omega), qD vs n z s false (by omega), y17 vs n z s false (by omega) (yc4 z h hp), vm z h hS, y2S z h hS]
   rfl
theorem yeO (n m : ByteArray) (f : Bool) (hn : n.size ≤ 60) (hm : m.size ≤ 60) : vG (q, t, l, cs, vs, z, n, m, f) = jw (q, t, l, cs, vs, z, n, m, f) := by
 unfold vG jw
 simp only [KL z h n (Wj hn), ws z h, y9F z h, zk q t l cs vs z _ h.S.2.2.2.2.2, vj q t l cs vs z _ h.S.2.2.2.2.2, wT z h, J6 n (Wj hn), J6 m (Wj hm), J5 m (Wj hm), Option.bind_some, y9O]
 unfold y9x
 cases hp : yQ q t l cs vs z with
 | false => rfl
 | true =>
  cases hno : Z3 n with
  | false => rfl
  | true =>
   cases hmo : Z3 m with
   | false => rfl
   | true =>
    have hT := VY hp
    have hl := hT.ll
    have hv := hT.vl
    simp only [Bool.not_true, cond_false, Option.bind_some, and_self, if_true, show ((0 : Int) != 0) = false from rfl]
    by_cases hi : yB vs n < 0
    ·simp only [decide_eq_true hi, cond_true]
    ·simp only [decide_eq_false hi, cond_false]
     have hi' : 0 ≤ yB vs n ∧ yB vs n < ((List.length vs : Nat) : Int) := by
      have := Zd vs n
      omega
     cases hto : decide (yB vs m ≥ 0) with
     | true => rfl
     | false =>
      have hl1 := y2w l z (y8 vs (yB vs n)).2.1
      have hl2 := y2w (jD l z (y8 vs (yB vs n)).2.1).1 (Go.IntKind.wrap .i64 (z + 1)) (y8 vs (yB vs n)).2.1
      simp only [cond_false, if_pos hi'.1, if_pos hi'.2, q8 l z _ (show l.length ≤ 1000 by omega), qa l z _ (show l.length ≤ 1000 by omega), Option.bind_some]
      rw [q8 _ _ _ (by omega), qa _ _ _ (by omega)]
      simp only [Option.bind_some]
      have hsv : ym5 (vs.set (Int.toNat (yB vs n)) ((y8 vs (yB vs n)).1, z, (y8 vs (yB vs n)).2.2)) := ym6 (yc4 z h hp) _ _ rfl
      rw [qD _ m _ _ f (by rw [List.length_set]; omega), y17 _ m _ _ f (by rw [List.length_set]; omega) hsv]
      simp only [Option.bind_some]
      have hS : SP q t (jD (jD l z (y8 vs (yB vs n)).2.1).1 (Go.IntKind.wrap .i64 (z + 1)) (y8 vs (yB vs n)).2.1).1 cs (wo (m, Go.IntKind.wrap .i64 (z + 1), (y8 vs (yB vs n)).2.2.1, f) (vs.set (Int.toNat (yB vs n)) ((y8 vs (yB vs n)).1, z, (y8 vs (yB vs n)).2.2))) := SP.of h.tq (by omega) h.S.2.2.2.2.1 (by rw [qC, List.length_set]; omega) fun v hv => by
       rcases y2x hv with rfl | hv
       ·exact Wj hm
       ·rcases List.mem_or_eq_of_mem_set hv with hv | rfl
        ·exact h.N v hv
        ·exact h.N (y8 vs (yB vs n)) (yZ zX vs _ hi'.1 hi'.2)
      have fin : ∀ b : Bool, yU (q, t, l, cs, vs, z, q, t, (jD (jD l z (y8 vs (yB vs n)).2.1).1 (Go.IntKind.wrap .i64 (z + 1)) (y8 vs (yB vs n)).2.1).1, cs, wo (m, Go.IntKind.wrap .i64 (z + 1), (y8 vs (yB vs n)).2.2.1, f) (vs.set (Int.toNat (yB vs n)) ((y8 vs (yB vs n)).1, z, (y8 vs (yB vs n)).2.2)), Go.IntKind.wrap .i64 (z + 2), b) = yG (q, t, l, cs, vs, z, q, t, (jD (jD l z (y8 vs (yB vs n)).2.1).1 (Go.IntKind.wrap .i64 (z + 1)) (y8 vs (yB vs n)).2.1).1, cs, wo (m, Go.IntKind.wrap .i64 (z + 1), (y8 vs (yB vs n)).2.2.1, f) (vs.set (Int.toNat (yB vs n)) ((y8 vs (yB vs n)).1, z, (y8 vs (yB vs n)).2.2)), Go.IntKind.wrap .i64 (z + 2), b) := fun b => (vm z h hS b).trans (y2S z h hS b).symm
      cases (jD l z (y8 vs (yB vs n)).2.1).2
      ·exact fin false
      ·exact fin (jD (jD l z (y8 vs (yB vs n)).2.1).1 (Go.IntKind.wrap .i64 (z + 1)) (y8 vs (yB vs n)).2.1).2
theorem yeP (n : ByteArray) (hn : n.size ≤ 60) : Vd (q, t, l, cs, vs, z, n) = jy (q, t, l, cs, vs, z, n) := by
 unfold Vd jy
 simp only [Q2 z h n (Wj hn), ws z h, y9F z h, zk q t l cs vs z n h.S.2.2.2.2.2, vj q t l cs vs z n h.S.2.2.2.2.2, wT z h, J6 n (Wj hn), Option.bind_some, y9O]
 unfold ymq
 cases hp : yQ q t l cs vs z with
 | false => rfl
 | true =>
  cases hno : Z3 n with
  | false => rfl
  | true =>
   simp only [Bool.not_true, cond_false, Option.bind_some, and_self, if_true]
   by_cases hi : yB vs n < 0
   ·simp only [decide_eq_true hi, cond_true, if_pos hi]
    rfl
   ·have h2 := Zd vs n
    have hv := h.S.2.2.2.2.2
    have hw : Go.IntKind.wrap .i64 (yB vs n + 1) = yB vs n + 1 := w64 (by omega) (by omega)
    simp only [decide_eq_false hi, cond_false, if_neg hi, show ((0 : Int) != 0) = false from rfl, hw]
    rw [if_pos (Int.le_refl _), if_pos (by omega), if_pos (by omega), if_pos (by omega), if_pos (by omega), if_pos (Int.le_refl _), if_pos (by simp only [List.length_take, List.length_drop]; omega)]
    rw [if_pos (Int.le_refl _), if_pos (by omega), if_pos (by omega), if_pos (by simp only [List.length_nil, List.length_drop, List.length_take]; omega), if_pos (by omega), if_pos (by omega), if_pos (Int.le_refl _), if_pos (by simp only [List.length_append, List.length_nil, List.length_drop, List.length_take]; omega)]
    have e1 : ((([] : List ye) ++ (List.drop (Int.toNat (0 : Int)) (List.take (Int.toNat (yB vs n)) vs))) ++ (List.drop (Int.toNat (yB vs n + 1)) (List.take (Int.toNat ((List.length vs : Nat) : Int)) vs))) = List.take (Int.toNat (yB vs n)) vs ++ List.drop (Int.toNat (yB vs n + 1)) vs := by
     rw [Int.toNat_natCast, List.take_length]
     rfl
    rw [e1]
    have hS : SP q t l cs (List.take (Int.toNat (yB vs n)) vs ++ List.drop (Int.toNat (yB vs n + 1)) vs) := SP.of h.tq h.S.2.2.2.1 h.S.2.2.2.2.1 (by simp only [List.length_append, List.length_take, List.length_drop]; omega) fun v hv => by
     rcases List.mem_append.1 hv with hv | hv
     ·exact h.N v (List.mem_of_mem_take hv)
     ·exact h.N v (List.mem_of_mem_drop hv)
    rw [vm z h hS, y2S z h hS]
theorem ytL (k : y9) : SP (yaS q t l cs vs z k).2.1 (yaS q t l cs vs z k).2.2.1 (yaS q t l cs vs z k).2.2.2.1 (yaS q t l cs vs z k).2.2.2.2.1 (yaS q t l cs vs z k).2.2.2.2.2.1 :=
 (Kh k h.tq).sp h h.S.2.2.2.1 (by
  show (if _ then Q1 q t cs k else cs).length ≤ _
  split
  ·rw [y4F]
   exact h.S.2.2.2.2.1
  ·exact h.S.2.2.2.2.1)
theorem ycW (n : ByteArray) (b w : Int) (hn : n.size ≤ 60) : KA (q, t, l, cs, vs, z, n, b, w) = Zs (q, t, l, cs, vs, z, n, b, w) := by
 have htl := yeL cs w
 have hS : SP q t l (Ki cs w).1 vs := SP.of h.tq h.S.2.2.2.1 (by rw [htl]; exact h.S.2.2.2.2.1) h.S.2.2.2.2.2 h.N
 have main : ZG q t l cs vs z n b = 0 → (bif (!(Ki cs w).2.2) then some (q, t, l, cs, vs, z, (6 : Int)) else if (0 : Int) ≤ yB vs n then if yB vs n < ((List.length vs : Nat) : Int) then if (0 : Int) ≤ (Ki cs w).2.1 then if (Ki cs w).2.1 < ((List.length (Ki cs w).1 : Nat) : Int) then Option.bind (zp (q, t, l, (Ki cs w).1, vs, z, b, (y8 vs (yB vs n)).2.1, (1 : Int), (Ki cs w).2.1, (yl (Ki cs w).1 (Ki cs w).2.1).1)) fun r8 => yU (q, t, l, cs, vs, z, r8.2.1, r8.2.2.1, r8.2.2.2.1, r8.2.2.2.2.1, r8.2.2.2.2.2.1, r8.2.2.2.2.2.2, r8.1) else none else none else none else none) =
   (bif (Ki cs w).2.2 then if (0 : Int) ≤ yB vs n then if yB vs n < ((List.length vs : Nat) : Int) then if (0 : Int) ≤ (Ki cs w).2.1 then if (Ki cs w).2.1 < ((List.length (Ki cs w).1 : Nat) : Int) then Option.bind (zd (q, t, l, (Ki cs w).1, vs, z, b, (y8 vs (yB vs n)).2.1, (1 : Int), (Ki cs w).2.1, (yl (Ki cs w).1 (Ki cs w).2.1).1)) fun r7 => yG (q, t, l, cs, vs, z, r7.2.1, r7.2.2.1, r7.2.2.2.1, r7.2.2.2.2.1, r7.2.2.2.2.2.1, r7.2.2.2.2.2.2, r7.1) else none else none else none else none else yG (q, t, l, cs, vs, z, q, t, l, (Ki cs w).1, vs, z, false)) := by
  intro hb
  simp only [y4J z hS, y4I z hS, Option.bind_some]
  have hP := fun k => ytL z hS k
  cases (Ki cs w).2.2 with
  | false =>
   rw [y2S z h hS]
   rfl
  | true =>
   simp only [Bool.not_true, cond_false, cond_true]
   have fin := fun k => (vm z h (hP k) (yaS q t l (Ki cs w).1 vs z k).1 (z' := (yaS q t l (Ki cs w).1 vs z k).2.2.2.2.2.2)).trans (y2S z h (hP k) _).symm
   split
   ·split
    ·split
     ·split
      ·exact fin _
      ·rfl
     ·rfl
    ·rfl
   ·rfl
 unfold KA Zs
 simp only [wj z h n (Wj hn), wk z h n (Wj hn), if_true, ws z h, y9F z h, zk q t l cs vs z _ h.S.2.2.2.2.2, Vh, y4p, y37 cs w h.S.2.2.2.2.1, y38 cs w h.S.2.2.2.2.1, Option.bind_some, y9O]
 cases hb : ZG q t l cs vs z n b == 0 with
 | false =>
  have hne : (ZG q t l cs vs z n b != 0) = true := by
   rw [bne, hb]
   rfl
  simp only [cond_false, Option.bind_some, hne, cond_true]
 | true =>
  have h0 : ZG q t l cs vs z n b = 0 := by simpa using hb
  cases hw : isW w with
  | false => rfl
  | true =>
   have hne : (ZG q t l cs vs z n b != 0) = false := by
    rw [bne, hb]
    rfl
   simp only [cond_true, Option.bind_some, Bool.not_true, cond_false, hne]
   exact main h0
theorem yeQ (n : ByteArray) (b : Int) (hn : n.size ≤ 60) : ∃ r, vO (q, t, l, cs, vs, z, n, b) = some r ∧ Ve (q, t, l, cs, vs, z, n, b) = some r := by
 unfold vO Ve
 simp only [Q2 z h n (Wj hn), wk z h n (Wj hn), zk q t l cs vs z _ h.S.2.2.2.2.2, Yz, Option.bind_some, Bool.false_eq_true, if_false]
 unfold ymq ym7
 by_cases hc : yQ q t l cs vs z = true ∧ Z3 n = true
 ·simp only [if_pos hc]
  by_cases hi : yB vs n < 0
  ·simp only [if_pos hi]
   exact ⟨_, rfl, rfl⟩
  ·have h2 := Zd vs n
   have hi0 : (0 : Int) ≤ yB vs n := by omega
   have hi1 : yB vs n < ((List.length vs : Nat) : Int) := by omega
   simp only [if_neg hi, if_pos hi0, if_pos hi1, show ((0 : Int) != 0) = false from rfl, cond_false]
   cases hr : inR b 0 (Go.IntKind.wrap .i64 ((y8 vs (yB vs n)).2.2.1 - 1)) with
   | false => exact ⟨_, rfl, rfl⟩
   | true =>
    obtain ⟨r, e1, e2⟩ := y9E z h (yB vs n) b hi0 hi1 (y9G z h hc.1 hi0 hi1) hr
    simp only [if_true, show ((0 : Int) != 0) = false from rfl, Bool.not_true, cond_false, e1, e2, Option.bind_some]
    exact ⟨_, rfl, rfl⟩
 ·simp only [if_neg hc]
  exact ⟨_, rfl, rfl⟩
theorem y9H (n : ByteArray) (b : Int) (hn : n.size ≤ 60) : wN (q, t, l, cs, vs, z, n, b) = Yn (q, t, l, cs, vs, z, n, b) := by
 unfold wN Yn
 simp only [wj z h n (Wj hn), wk z h n (Wj hn), if_true, ws z h, y9F z h, zk q t l cs vs z _ h.S.2.2.2.2.2, Option.bind_some, y9O, y0s z h]
 cases hb : ZG q t l cs vs z n b != 0 with
 | true => rfl
 | false =>
  have h0 : ZG q t l cs vs z n b = 0 := by simpa using hb
  obtain ⟨hi, hp⟩ := y89 z h0
  obtain ⟨r, q', t', cs', e1, h1⟩ := jh z h (yB vs n) b hi.1 hi.2
  simp only [cond_false, e1, Option.bind_some]
  rw [vm z h h1, y2S z h h1]
end
end Go.Proofs.YthgdjjdigalckaaGreat.Pl
namespace Go.Proofs.YthgdjjdigalckaaGreat.Pl
open Go.Proofs.YthgdjjdigalckaaGreat.R Go.Proofs.YthgdjjdigalckaaGreat.XB
def y0G {A : Type} (q : List yd) (t : List y0) (l : List ya) (cs : List y7) (vs : List ye) (z : Int) (o : Option (List yd × List y0 × List ya × List y7 × List ye × Int × A)) : Prop :=
 ∃ q' t' l' cs' vs' z' c, o = some (q', t', l', cs', vs', z', c) ∧ (Tn q' t' l' cs' vs' ∨ (q', t', l', cs', vs', z') = (q, t, l, cs, vs, z))
section
variable {q : List yd} {t : List y0} {l : List ya} {cs : List y7} {vs : List ye} {z : Int}
theorem Res.a {o : Option P7a} (h : Res q t l cs vs z o) : y0G q t l cs vs z o := by
 obtain ⟨q', t', l', cs', vs', z', c, e, hc⟩ := h
 exact ⟨q', t', l', cs', vs', z', c, e, hc.imp VY id⟩
theorem y0G.same {A : Type} (c : A) : y0G q t l cs vs z (some (q, t, l, cs, vs, z, c)) := ⟨_, _, _, _, _, _, c, rfl, .inr rfl⟩
theorem y0G.tn {A : Type} (c : A) {q' : List yd} {t' : List y0} {l' : List ya} {cs' : List y7} {vs' : List ye} {z' : Int} (h : Tn q' t' l' cs' vs') : y0G q t l cs vs z (some (q', t', l', cs', vs', z', c)) := ⟨_, _, _, _, _, _, c, rfl, .inl h⟩
theorem Tn.pack (h : Tn q t l cs vs) {i : Int} (h0 : 0 ≤ i) (h1 : i < (t.length : Int)) : Tn q (t.set i.toNat (zt (z3 (yf t i)))) l cs vs := by
 refine ⟨h.ql, ⟨by rw [List.length_set]; exact h.T.len, fun n hn => ?_⟩, h.ll, h.cl, h.vl, h.N, by rw [List.length_set]; exact h.e, by rw [List.length_set]; exact h.p⟩
 rcases List.mem_or_eq_of_mem_set hn with hn | rfl
 ·exact h.T.node n hn
 ·exact qB (nk h.T h0 h1).keys
end
section
variable {q : List yd} {t : List y0} {l : List ya} {cs : List y7} {vs : List ye} (z : Int) (h : SP q t l cs vs)
include h
theorem yaU (i : Int) : y0G q t l cs vs z (Z0 (q, t, l, cs, vs, z, i)) := by
 unfold Z0
 simp only [ws z h, ZF z h, Yz, Option.bind_some]
 cases hp : yQ q t l cs vs z with
 | false =>
  simp only [Bool.not_false, cond_true, Option.bind_some]
  exact y0G.same _
 | true =>
  have hT := VY hp
  simp only [Bool.not_true, cond_false, Option.bind_some]
  cases hi : inR i 0 (Go.IntKind.wrap .i64 (((List.length t : Nat) : Int) - (1 : Int))) with
  | false =>
   simp only [Bool.not_false, cond_true]
   exact y0G.same _
  | true =>
   have hl := hT.T.len
   have hw : Go.IntKind.wrap .i64 (((List.length t : Nat) : Int) - (1 : Int)) = ((List.length t : Nat) : Int) - 1 := w64 (by omega) (by omega)
   have hi2 := hi
   rw [hw, Z6] at hi
   simp only [Bool.not_true, cond_false]
   unfold WV WU
   have hk := nk hT.T hi.1 (show i < (t.length : Int) by omega)
   simp only [VX q t h.S.1 h.S.2.1 (fun n hn => Wi h.S.2.2.1 hn), Yz, hi2, Option.bind_some, cond_true]
   simp only [if_pos hi.1, if_pos (show i < ((List.length t : Nat) : Int) by omega), Vk hT.T hi.1 (show i < (t.length : Int) by omega), JY (z3 (yf t i)) (Nat.le_trans hk.keys (by decide)), Option.bind_some]
   exact y0G.tn _ (hT.pack hi.1 (by omega))
theorem yhh (i : Int) : ∃ a b c d e, WY (q, t, l, cs, vs, z, i) = some (a, b, c, d, e) := by
 have hq := h.tq
 have hk := y93 t
 have hs3 := h.S.2.2.1
 unfold WY y06
 simp only [Yy q t (by have := h.S.2.1; omega) (fun n hn => by have := (Wi h.S.2.2.1 hn).1; omega) h.S.2.2.1, Option.bind_some]
 refine YI (step := WX _ _) (fun u : WW => (zF t).length - u.2.1.toNat) (fun u => u.2.2.2.2.2.2.2 = zF t ∧ 0 ≤ u.2.1 ∧ u.2.1 ≤ (zF t).length) (fun _ (res : Option (Int × Int × Int × Int × Int)) => ∃ a b c d e : Int, res = some (a, b, c, d, e)) ?_ (i, 0, 0, 0, 0, 0, 0, zF t) ⟨rfl, Int.le_refl _, by simp⟩ (by simp only; omega)
 rintro again ⟨i1, j, a, b, c, d, e, ks⟩ ⟨e1, h0, h1⟩ hag
 simp only at e1 h0 h1 hag ⊢
 subst e1
 unfold WX
 simp only [Bool.cond_eq_ite, decide_eq_true_eq]
 by_cases hj : j < ((zF t).length : Int)
 ·have hw : Go.IntKind.wrap .i64 (j + 1) = j + 1 := w64 (by omega) (by omega)
  simp only [if_pos hj, if_pos h0, hw, Option.bind_some]
  split
  ·simp only [Option.bind_some]
   split
   ·exact ⟨_, _, _, _, _, rfl⟩
   ·exact hag _ ⟨rfl, by simp only; omega, by simp only; omega⟩ (by simp only; omega)
  ·simp only [Option.bind_some, Bool.false_eq_true, if_false]
   exact hag _ ⟨rfl, by simp only; omega, by simp only; omega⟩ (by simp only; omega)
 ·simp only [if_neg hj]
  exact ⟨_, _, _, _, _, rfl⟩
theorem yaV (i : Int) : y0G q t l cs vs z (Z1 (q, t, l, cs, vs, z, i)) := by
 unfold Z1
 simp only [ws z h, ZF z h, Yz, Option.bind_some]
 cases hp : yQ q t l cs vs z with
 | false =>
  simp only [Bool.not_false, cond_true, Option.bind_some]
  exact y0G.same _
 | true =>
  have hT := VY hp
  have hcl := hT.cl
  simp only [Bool.not_true, cond_false, Option.bind_some]
  have hw : Go.IntKind.wrap .i64 (((List.length cs : Nat) : Int) - (1 : Int)) = ((List.length cs : Nat) : Int) - 1 := w64 (by omega) (by omega)
  rw [hw]
  cases hi : inR i 0 (((List.length cs : Nat) : Int) - 1) with
  | false =>
   simp only [Bool.not_false, cond_true, Option.bind_some]
   exact y0G.same _
  | true =>
   rw [Z6] at hi
   simp only [Bool.not_true, cond_false, if_pos hi.1, if_pos (show i < ((List.length cs : Nat) : Int) by omega), Option.bind_some]
   obtain ⟨a, b, c, d, e, e1⟩ := yhh z h i
   obtain ⟨cs', j, u, e2, h1, h2⟩ := y1o cs (yl cs i).2.2 h.S.2.2.2.2.1
   have hq := h.tq
   have hT2 := Kh (a, b, c, j, (yl cs' j).1) hq
   have hc' : cs'.length ≤ 1048576 := by rw [h1]; exact h.S.2.2.2.2.1
   cases (yl cs i).2.1 with
   | false =>
    simp only [Bool.not_false, cond_true]
    exact y0G.same _
   | true =>
    simp only [Bool.not_true, cond_false, e1, e2, Option.bind_some]
    cases u with
    | false =>
     simp only [Bool.not_false, cond_true, Option.bind_some]
     exact y0G.same _
    | true =>
     have h3 := h2 rfl
     simp only [Bool.not_true, cond_false, Option.bind_some]
     cases decide (j > i) with
     | true =>
      simp only [cond_true]
      exact y0G.same _
     | false =>
      have hx : SP (yx q t (a, b, c, j, (yl cs' j).1)).1 (yx q t (a, b, c, j, (yl cs' j).1)).2.1 l (y5b cs' i) vs := hT2.sp h h.S.2.2.2.1 (by rw [y24]; exact hc')
      simp only [cond_false, if_pos h3.1, if_pos (show j < ((List.length cs' : Nat) : Int) by rw [h1]; exact h3.2), Z4 q t a b c j (yl cs' j).1 hq.T hq.Q hq.q, jW cs' i hc', ZF z hx, Option.bind_some]
      cases (yx q t (a, b, c, j, (yl cs' j).1)).2.2 with
      | false =>
       simp only [Bool.not_false, cond_true, Option.bind_some]
       exact y0G.same _
      | true =>
       simp only [Bool.not_true, cond_false, Option.bind_some]
       cases hp2 : yQ (yx q t (a, b, c, j, (yl cs' j).1)).1 (yx q t (a, b, c, j, (yl cs' j).1)).2.1 l (y5b cs' i) vs z with
       | false =>
        simp only [Bool.not_false, cond_true]
        exact y0G.same _
       | true =>
        simp only [Bool.not_true, cond_false]
        exact y0G.tn _ (VY hp2)
theorem y9I : y0G q t l cs vs z (Ya (q, t, l, cs, vs, z)) := by
 rw [y2v z h]
 have key : ym2 (y61 q t l cs vs z).1 = true ∨ (y61 q t l cs vs z).1 = (q, t, l, cs, vs, z) := by
  unfold y61
  split
  ·split
   ·exact .inr rfl
   ·unfold ymp
    split
    ·rename_i hh
     rw [Bool.and_eq_true] at hh
     exact .inl hh.2
    ·exact .inr rfl
  ·exact .inr rfl
 unfold yeF
 rcases key with hk | hk
 ·exact y0G.tn _ (VY hk)
 ·rw [hk]
  exact y0G.same _
theorem yhi (k : Int) (n m : ByteArray) (a b : Int) (hn : n.size ≤ 60) (hm : m.size ≤ 60) : y0G q t l cs vs z (JP (q, t, l, cs, vs, z, k, n, m, a, b)) := by
 unfold JP Kr
 simp only [y9w k n m a b (Wj hn) (Wj hm), ZF z h, ws z h, Option.bind_some, ym3, yz7, y9O]
 have key : ∀ u : Bool, y0G q t l cs vs z (bif u then some (q, t, l, cs, vs, z, (1 : Int)) else bif (k == (1 : Int)) then YO (q, t, l, cs, vs, z, n, a) else bif (k == (2 : Int)) then jw (q, t, l, cs, vs, z, n, m, (b == (1 : Int))) else bif (k == (3 : Int)) then jy (q, t, l, cs, vs, z, n) else bif (k == (4 : Int)) then Zs (q, t, l, cs, vs, z, n, a, b) else bif (k == (5 : Int)) then Yn (q, t, l, cs, vs, z, n, a) else bif (k == (6 : Int)) then YP (q, t, l, cs, vs, z, n, a) else
   Option.bind (bif (k == (7 : Int)) then Ya (q, t, l, cs, vs, z) else bif (k == (8 : Int)) then Z0 (q, t, l, cs, vs, z, a) else Z1 (q, t, l, cs, vs, z, a)) fun r11 => bif (!r11.2.2.2.2.2.2) then some (r11.1, r11.2.1, r11.2.2.1, r11.2.2.2.1, r11.2.2.2.2.1, r11.2.2.2.2.2.1, (2 : Int)) else some (r11.1, r11.2.1, r11.2.2.1, r11.2.2.2.1, r11.2.2.2.2.1, r11.2.2.2.2.2.1, (0 : Int))) := by
  intro u
  refine jd (P := y0G q t l cs vs z) _ (fun _ => y0G.same _) fun _ => jd (P := y0G q t l cs vs z) _ (fun _ => (y9z z h n a hn).a) fun _ => jd (P := y0G q t l cs vs z) _ (fun _ => (yeI z h n m _ hn hm).a) fun _ => jd (P := y0G q t l cs vs z) _ (fun _ => (yeJ z h n hn).a) fun _ => jd (P := y0G q t l cs vs z) _ (fun _ => (yc1 z h n a b hn).a) fun _ => jd (P := y0G q t l cs vs z) _ (fun _ => (y62 z h n a hn).a) fun _ => jd (P := y0G q t l cs vs z) _ (fun _ => (y9A z h n a hn).a) fun _ => ?_
  have hs : y0G q t l cs vs z (bif (k == (7 : Int)) then Ya (q, t, l, cs, vs, z) else bif (k == (8 : Int)) then Z0 (q, t, l, cs, vs, z, a) else Z1 (q, t, l, cs, vs, z, a)) :=
   jd (P := y0G q t l cs vs z) _ (fun _ => y9I z h) fun _ => jd (P := y0G q t l cs vs z) _ (fun _ => yaU z h a) fun _ => yaV z h a
  obtain ⟨q', t', l', cs', vs', z', c, e, hc⟩ := hs
  rw [e]
  cases c
  ·exact ⟨_, _, _, _, _, _, _, rfl, hc⟩
  ·exact ⟨_, _, _, _, _, _, _, rfl, hc⟩
 cases yz6 k n m a b
 ·exact key true
 ·exact key _
end
end Go.Proofs.YthgdjjdigalckaaGreat.Pl
namespace Go.Proofs.YthgdjjdigalckaaGreat.Pl
open Go.Proofs.YthgdjjdigalckaaGreat.R Go.Proofs.YthgdjjdigalckaaGreat.XB
theorem yc5 (c : List Int) (p s : Int) (L : List ByteArray) (hL : 0 < L.length) (hL2 : L.length ≤ 1048576) (hs : ∀ t ∈ L, t.size ≤ 60) (h : YC c p) : jX (jg (c, p, s, L)) c (fun v => v.size ≤ 60) := by
 obtain ⟨v, p1, s1, e1, h1, q1⟩ := z9 c p s (L.length : Int) h
 have := q1.2 (by omega)
 unfold jg
 rw [e1]
 simp only [Option.bind_some]
 rw [if_pos q1.1, if_pos this]
 exact ⟨_, _, _, rfl, h1, hs _ (yZ yfG L v q1.1 this)⟩
theorem ym8 (c : List Int) (p s : Int) (h : YC c p) : jX (YL (c, p, s)) c (fun v => v.size ≤ 60) := by
 obtain ⟨v, p1, s1, e1, h1, q1⟩ := yc5 c p s [{ data := #[97] }, { data := #[98] }, { data := #[99] }, { data := #[100] }, { data := #[101, 53] }] (by simp) (by simp) (by decide) h
 unfold YL
 rw [e1]
 exact ⟨_, _, _, rfl, h1, q1⟩
theorem yhj (c : List Int) (p s : Int) (h : YC c p) : jX (YM (c, p, s)) c (fun _ => True) := by
 obtain ⟨v, p1, s1, e1, h1, q1⟩ := z9 c p s 200 h
 unfold YM
 rw [e1]
 simp only [Option.bind_some]
 obtain ⟨v2, p2, s2, e2, h2, q2⟩ := Jf c p1 s1 [0, 1, 2, 7, 65535, Go.IntKind.wrap .i64 (1 + v)] (by simp) (by simp) h1
 rw [e2]
 exact ⟨_, _, _, rfl, h2, trivial⟩
def y4K (o : Option (Int × ByteArray × ByteArray × Int × Int × List Int × Int × Int)) (c : List Int) : Prop := ∃ k n t a b p s, o = some (k, n, t, a, b, c, p, s) ∧ YC c p ∧ ByteArray.size n ≤ 60 ∧ ByteArray.size t ≤ 60
theorem ytM {c : List Int} {p s : Int} {L : List Int} {k b : Int} {n t : ByteArray} (hL : 0 < L.length) (hL2 : L.length ≤ 1048576) (h : YC c p) (hn : n.size ≤ 60) (ht : t.size ≤ 60) :
  y4K (Option.bind (yq (c, p, s, L)) fun r => some (k, n, t, r.1, b, r.2.1, r.2.2.1, r.2.2.2)) c := by
 obtain ⟨v, p1, s1, e1, h1, _⟩ := Jf c p s L hL hL2 h
 rw [e1]
 exact ⟨_, _, _, _, _, _, _, rfl, h1, hn, ht⟩
theorem ytN {c : List Int} {p s m : Int} {k b : Int} {n t : ByteArray} (h : YC c p) (hn : n.size ≤ 60) (ht : t.size ≤ 60) :
  y4K (Option.bind (yc (c, p, s, m)) fun r => some (k, n, t, r.1, b, r.2.1, r.2.2.1, r.2.2.2)) c := by
 obtain ⟨v, p1, s1, e1, h1, _⟩ := z9 c p s m h
 rw [e1]
 exact ⟨_, _, _, _, _, _, _, rfl, h1, hn, ht⟩
theorem ytO {c : List Int} {p s : Int} {L : List Int} {k a : Int} {n : ByteArray} (hL : 0 < L.length) (hL2 : L.length ≤ 1048576) (h : YC c p) (hn : n.size ≤ 60) :
  y4K (Option.bind (YL (c, p, s)) fun r4 => Option.bind (yq (r4.2.1, r4.2.2.1, r4.2.2.2, L)) fun r5 => some (k, n, r4.1, a, r5.1, r5.2.1, r5.2.2.1, r5.2.2.2)) c := by
 obtain ⟨v, p1, s1, e1, h1, q1⟩ := ym8 c p s h
 rw [e1]
 simp only [Option.bind_some]
 obtain ⟨v2, p2, s2, e2, h2, _⟩ := Jf c p1 s1 L hL hL2 h1
 rw [e2]
 exact ⟨_, _, _, _, _, _, _, rfl, h2, hn, q1⟩
theorem ytP {c : List Int} {p s m : Int} {k : Int} {n t : ByteArray} (h : YC c p) (hn : n.size ≤ 60) (ht : t.size ≤ 60) :
  y4K (Option.bind (yc (c, p, s, m)) fun r6 => Option.bind (YM (r6.2.1, r6.2.2.1, r6.2.2.2)) fun r7 => some (k, n, t, r6.1, r7.1, r7.2.1, r7.2.2.1, r7.2.2.2)) c := by
 obtain ⟨v, p1, s1, e1, h1, _⟩ := z9 c p s m h
 rw [e1]
 simp only [Option.bind_some]
 obtain ⟨v2, p2, s2, e2, h2, _⟩ := yhj c p1 s1 h1
 rw [e2]
 exact ⟨_, _, _, _, _, _, _, rfl, h2, hn, ht⟩
theorem ytQ {c : List Int} {p s k a b : Int} {n t : ByteArray} (h : YC c p) (hn : n.size ≤ 60) (ht : t.size ≤ 60) : y4K (some (k, n, t, a, b, c, p, s)) c := ⟨_, _, _, _, _, _, _, rfl, h, hn, ht⟩
theorem yz9 : (⟨#[]⟩ : ByteArray).size ≤ 60 := by decide
theorem yO {A : Type} {P : A → Prop} (b : Bool) {x y : A} (hx : P x) (hy : P y) : P (bif b then x else y) := by cases b <;> assumption
theorem yza (c : List Int) (p s : Int) (h : YC c p) : y4K (ZA (c, p, s)) c := by
 unfold ZA
 obtain ⟨v, p1, s1, e1, h1, _⟩ := Jf c p s [1, 1, 1, 2, 2, 3, 4, 4, 4, 4, 4, 4, 5, 6, 7, 7, 8, 9] (by simp) (by simp) h
 rw [e1]
 simp only [Option.bind_some]
 obtain ⟨n, p2, s2, e2, h2, hn⟩ := yc5 c p1 s1 [{ data := #[97] }, { data := #[97] }, { data := #[98] }, { data := #[99] }, { data := #[100] }] (by simp) (by simp) (by decide) h1
 rw [e2]
 simp only [Option.bind_some]
 have hz := yz9
 repeat' (first
  | with_reducible refine yO (P := fun o => y4K o c) _ ?_ ?_
  | with_reducible exact ytM (by simp) (by simp) h2 hn hz
  | with_reducible exact ytM (by simp) (by simp) h1 hz hz
  | with_reducible exact ytO (by simp) (by simp) h2 hn
  | with_reducible exact ytO (by simp) (by simp) h1 hz
  | with_reducible exact ytP h2 hn hz
  | with_reducible exact ytP h1 hz hz
  | with_reducible exact ytN h2 hn hz
  | with_reducible exact ytN h1 hz hz
  | with_reducible exact ytQ h2 hn hz
  | with_reducible exact ytQ h1 hz hz)
end Go.Proofs.YthgdjjdigalckaaGreat.Pl
namespace Go.Proofs.YthgdjjdigalckaaGreat.Pl
open Go.Proofs.YthgdjjdigalckaaGreat.R Go.Proofs.YthgdjjdigalckaaGreat.XB
def Q3 (o : Option (Int × Int × Int × Int × Int × List Int × Int × Int)) (c : List Int) : Prop := ∃ a b k d g p s, o = some (a, b, k, d, g, c, p, s) ∧ YC c p
theorem y0H (c : List Int) (p s : Int) (h : YC c p) : Q3 (zQ (c, p, s)) c := by
 obtain ⟨v1, p1, s1, e1, h1, q1⟩ := z9 c p s 4 h
 obtain ⟨v2, p2, s2, e2, h2, q2⟩ := z9 c p1 s1 5 h1
 obtain ⟨v3, p3, s3, e3, h3, q3⟩ := Jf c p2 s2 [0, 1, 1, 1, 2] (by simp) (by simp) h2
 obtain ⟨v4, p4, s4, e4, h4, q4⟩ := z9 c p3 s3 24 h3
 obtain ⟨v5, p5, s5, e5, h5, q5⟩ := Jf c p4 s4 [0, 1, 256, 999] (by simp) (by simp) h4
 unfold zQ
 simp only [e1, e2, e3, e4, e5, Option.bind_some]
 exact yO (P := fun o => Q3 o c) _ ⟨_, _, _, _, _, _, _, rfl, h5⟩ ⟨_, _, _, _, _, _, _, rfl, h3⟩
theorem ym9 (c : List Int) (p s : Int) (h : YC c p) : Q3 (KE (c, p, s)) c := by
 obtain ⟨a, b, k, d, g, p1, s1, e1, h1⟩ := y0H c p s h
 obtain ⟨v2, p2, s2, e2, h2, q2⟩ := z9 c p1 s1 12 h1
 obtain ⟨v3, p3, s3, e3, h3, q3⟩ := Jf c p2 s2 [-1, 15, 16] (by simp) (by simp) h2
 obtain ⟨v4, p4, s4, e4, h4, q4⟩ := Jf c p2 s2 [0, 60, 61] (by simp) (by simp) h2
 obtain ⟨v5, p5, s5, e5, h5, q5⟩ := Jf c p2 s2 [-1, 3] (by simp) (by simp) h2
 obtain ⟨v6, p6, s6, e6, h6, q6⟩ := Jf c p2 s2 [-1, 1, 23, 24] (by simp) (by simp) h2
 obtain ⟨v7, p7, s7, e7, h7, q7⟩ := Jf c p2 s2 [-1, 1, 999, 1000] (by simp) (by simp) h2
 unfold KE
 simp only [e1, e2, e3, e4, e5, e6, e7, Option.bind_some]
 exact yO (P := fun o => Q3 o c) _ ⟨_, _, _, _, _, _, _, rfl, h3⟩ (yO (P := fun o => Q3 o c) _ ⟨_, _, _, _, _, _, _, rfl, h4⟩ (yO (P := fun o => Q3 o c) _ ⟨_, _, _, _, _, _, _, rfl, h5⟩ (yO (P := fun o => Q3 o c) _ ⟨_, _, _, _, _, _, _, rfl, h6⟩ (yO (P := fun o => Q3 o c) _ ⟨_, _, _, _, _, _, _, rfl, h7⟩ ⟨_, _, _, _, _, _, _, rfl, h2⟩))))
theorem yzb (c : List Int) (p s : Int) (h : YC c p) : Q3 (KD (c, p, s)) c := by
 obtain ⟨a, b, k, d, g, p1, s1, e1, h1⟩ := y0H c p s h
 obtain ⟨v2, p2, s2, e2, h2, q2⟩ := z9 c p1 s1 12 h1
 unfold KD
 simp only [e1, e2, Option.bind_some]
 exact ⟨_, _, _, _, _, _, _, rfl, h2⟩
theorem yma (c : List Int) (p s m : Int) (h : YC c p) (m0 : 0 ≤ m) (m1 : m ≤ 100) : jX (ko (c, p, s, m)) c (fun l => l.length ≤ 101) := by
 obtain ⟨v1, p1, s1, e1, h1, q1⟩ := z9 c p s (m + 1) h
 have b1 := q1.2 (by omega)
 unfold ko y0b
 try simp only []
 rw [show Go.IntKind.wrap .i64 (m + 1) = m + 1 from w64 (by omega) (by omega), e1]
 simp only [Option.bind_some]
 refine YI (step := kn _) (fun u : km => u.1.toNat) (fun u => ∃ k l p s, u = (k, c, p, s, l) ∧ YC c p ∧ 0 ≤ k ∧ (List.length l : Int) + k ≤ 101) (fun _ (res : Option (List y9 × List Int × Int × Int)) => jX res c (fun l : List y9 => l.length ≤ 101)) ?_ (v1, c, p1, s1, []) ⟨v1, [], p1, s1, rfl, h1, q1.1, by simp; omega⟩ (by simp only; omega)
 rintro again _ ⟨k, l, p, s, rfl, hc, hk, hl⟩ hag
 unfold kn
 simp only [Bool.cond_eq_ite, decide_eq_true_eq]
 by_cases hk2 : k > 0
 ·obtain ⟨a, b, kk, d, g, p2, s2, e2, h2⟩ := y0H c p s hc
  have hs := wh l (a, b, kk, d, g)
  have hw : Go.IntKind.wrap .i64 (k - 1) = k - 1 := w64 (by omega) (by omega)
  simp only [if_pos hk2, e2, Option.bind_some, wP l a b kk d g (by omega), hw]
  exact hag _ ⟨_, _, _, _, rfl, h2, by omega, by omega⟩ (by simp only; omega)
 ·simp only [if_neg hk2]
  exact ⟨_, _, _, rfl, hc, by simp only; omega⟩
theorem ycX (c : List Int) (p s m : Int) (h : YC c p) (m0 : 0 ≤ m) (m1 : m ≤ 100) : jX (KF (c, p, s, m)) c (fun l => l.length ≤ 102) := by
 obtain ⟨l, p1, s1, e1, h1, q1⟩ := yma c p s m h m0 m1
 obtain ⟨v2, p2, s2, e2, h2, q2⟩ := z9 c p1 s1 8 h1
 obtain ⟨a, b, k, d, g, p3, s3, e3, h3⟩ := ym9 c p2 s2 h2
 unfold KF
 simp only [e1, e2, e3, Option.bind_some]
 refine yO (P := fun o => jX o c (fun l : List y9 => l.length ≤ 102)) _ ?_ (yO (P := fun o => jX o c (fun l : List y9 => l.length ≤ 102)) _ (jd (P := fun o => jX o c (fun l : List y9 => l.length ≤ 102)) _ (fun hh => ?_) fun _ => ⟨_, _, _, rfl, h2, by omega⟩) ⟨_, _, _, rfl, h2, by omega⟩)
 ·rw [if_pos (by simp only [List.length_cons, List.length_nil]; omega)]
  exact ⟨_, _, _, rfl, h3, by simp only [List.length_append, List.length_cons, List.length_nil]; omega⟩
 ·have hh := of_decide_eq_true hh
  simp only [List.length_set, if_pos (Int.le_refl (0 : Int)), if_pos (show (0 : Int) < ((List.length l : Nat) : Int) by omega), if_pos (show (0 : Int) ≤ 1 by omega), if_pos (show (1 : Int) < ((List.length l : Nat) : Int) by omega)]
  exact ⟨_, _, _, rfl, h2, by simp only [List.length_set]; omega⟩
def Nsm (n : List yb) (a : Nat) (b : Int) : Prop := n.length ≤ a ∧ Wg Vo n ≤ b
theorem Nsm.ns {n : List yb} {a : Nat} {b : Int} (h : Nsm n a b) (ha : a ≤ 900) (hb : b ≤ 900) : NS n := ⟨Nat.le_trans h.1 (by omega), by have := h.2; omega⟩
theorem yaW (n : List yb) (k : y9) (h : Nsm n 3 8) : Nsm (zr n k).1 3 8 := by
 unfold zr
 split
 ·rename_i hh
  exact ⟨(jc hh).1, (jc hh).2.1⟩
 ·split
  ·exact h
  ·split
   ·rename_i hh
    exact ⟨(jc hh).1, (jc hh).2.1⟩
   ·exact h
theorem yhk (c : List Int) (p s : Int) (h : YC c p) : jX (kl (c, p, s)) c (fun n : List yb => Nsm n 3 8) := by
 obtain ⟨v1, p1, s1, e1, h1, q1⟩ := z9 c p s 12 h
 have b1 := q1.2 (by omega)
 have z0 : Nsm [] 3 8 := ⟨by simp, by simp [Wg]⟩
 unfold kl y0a
 rw [e1]
 simp only [Option.bind_some]
 refine YI (step := JQ _ _) (fun u : kj => match u with | .inl u => u.1.toNat | .inr u => u.1.toNat) (fun u => match u with | .inl u => ∃ k p s, u = (k, c, p, s) ∧ YC c p ∧ 0 ≤ k ∧ k ≤ 100 | .inr u => ∃ k n p s, u = (k, c, p, s, n) ∧ YC c p ∧ 0 ≤ k ∧ k ≤ 100 ∧ Nsm n 3 8) (fun _ (res : Option (List yb × List Int × Int × Int)) => jX res c (fun n : List yb => Nsm n 3 8)) ?_ (Sum.inl (v1, c, p1, s1)) ⟨v1, p1, s1, rfl, h1, q1.1, by omega⟩ (by simp only; omega)
 intro again u hu hag
 have step : ∀ (k : Int) (n : List yb) (p s : Int), YC c p → 0 ≤ k → k ≤ 100 → Nsm n 3 8 → k > 0 → (∀ k' n' p' s', YC c p' → 0 ≤ k' → k' < k → Nsm n' 3 8 → jX (again (Sum.inr (k', c, p', s', n'))) c (fun n : List yb => Nsm n 3 8)) → jX (Option.bind (zQ (c, p, s)) fun r2 => Option.bind (YR (n, r2.1, r2.2.1, r2.2.2.1, r2.2.2.2.1, r2.2.2.2.2.1)) fun r3 => again (Sum.inr ((Go.IntKind.wrap .i64 (k - (1 : Int))), r2.2.2.2.2.2.1, r2.2.2.2.2.2.2.1, r2.2.2.2.2.2.2.2, r3.1))) c (fun n : List yb => Nsm n 3 8) := by
  intro k n p s hc k0 k1 hn hk hag2
  obtain ⟨a, b, kk, d, g, p2, s2, e2, h2⟩ := y0H c p s hc
  have hw : Go.IntKind.wrap .i64 (k - 1) = k - 1 := w64 (by omega) (by omega)
  simp only [e2, Option.bind_some, y0p n a b kk d g (hn.ns (by omega) (by omega)), hw]
  exact hag2 _ _ _ _ h2 (by omega) (by omega) (yaW n _ hn)
 cases u with
 | inl u =>
  obtain ⟨k, p, s, rfl, hc, k0, k1⟩ := hu
  unfold JQ
  simp only [Bool.cond_eq_ite, decide_eq_true_eq]
  by_cases hk : k > 0
  ·simp only [if_pos hk]
   exact step k [] p s hc k0 k1 z0 hk fun k' n' p' s' g1 g2 g3 g4 => hag _ ⟨_, _, _, _, rfl, g1, g2, by omega, g4⟩ (by simp only; omega)
  ·simp only [if_neg hk]
   exact ⟨_, _, _, rfl, hc, z0⟩
 | inr u =>
  obtain ⟨k, n, p, s, rfl, hc, k0, k1, hn⟩ := hu
  unfold JQ
  simp only [Bool.cond_eq_ite, decide_eq_true_eq]
  by_cases hk : k > 0
  ·simp only [if_pos hk]
   exact step k n p s hc k0 k1 hn hk fun k' n' p' s' g1 g2 g3 g4 => hag _ ⟨_, _, _, _, rfl, g1, g2, by omega, g4⟩ (by simp only; omega)
  ·simp only [if_neg hk]
   exact ⟨_, _, _, rfl, hc, hn⟩
theorem y4L (c : List Int) (p s : Int) (h : YC c p) : jX (Wf (c, p, s)) c (fun n : List yb => NS n) := by
 obtain ⟨n, p1, s1, e1, h1, q1⟩ := yhk c p s h
 obtain ⟨v2, p2, s2, e2, h2, q2⟩ := z9 c p1 s1 8 h1
 obtain ⟨l, p3, s3, e3, h3, q3⟩ := ycX c p2 s2 6 h2 (by omega) (by omega)
 obtain ⟨a, b, k, d, g, p4, s4, e4, h4⟩ := y0H c p2 s2 h2
 obtain ⟨a5, b5, k5, d5, g5, p5, s5, e5, h5⟩ := y0H c p4 s4 h4
 have hl := q1.1
 have hs := q1.2
 unfold Wf
 simp only [e1, e2, e3, e4, e5, Option.bind_some]
 refine yO (P := fun o => jX o c (fun n : List yb => NS n)) _ ?_ (yO (P := fun o => jX o c (fun n : List yb => NS n)) _ ?_ ⟨_, _, _, rfl, h2, q1.ns (by omega) (by omega)⟩)
 ·rw [if_pos (by simp only [List.length_cons, List.length_nil]; omega)]
  refine ⟨_, _, _, rfl, h3, ⟨by rw [List.length_append]; simp only [List.length_cons, List.length_nil]; omega, ?_⟩⟩
  rw [y20]
  have : Vo l = (List.length l : Int) := rfl
  omega
 ·rw [if_pos (by simp only [List.length_cons, List.length_nil]; omega)]
  refine ⟨_, _, _, rfl, h5, ⟨by rw [List.length_append]; simp only [List.length_cons, List.length_nil]; omega, ?_⟩⟩
  rw [show n ++ [[(a, b, k, d, g)], [(a5, b5, k5, d5, g5)]] = (n ++ [[(a, b, k, d, g)]]) ++ [[(a5, b5, k5, d5, g5)]] by simp, y20, y20]
  have e1 : Vo [(a, b, k, d, g)] = 1 := rfl
  have e2 : Vo [(a5, b5, k5, d5, g5)] = 1 := rfl
  omega
theorem yeR (q : List yd) (t : List y0) (k : y9) (h : TS t ∧ q.length = t.length ∧ 1 ≤ t.length ∧ t.length ≤ 20) : TS (yx q t k).2.1 ∧ (yx q t k).1.length = (yx q t k).2.1.length ∧ 1 ≤ (yx q t k).2.1.length ∧ (yx q t k).2.1.length ≤ 20 := by
 unfold yx
 split
 ·split
  ·rename_i hj
   have h1 := wR hj
   exact ⟨y22 hj, h1.1, h1.2.1, h1.2.2.1⟩
  ·exact h
 ·exact h
def y4M (o : Option (List yd × List y0 × List Int × Int × Int)) (c : List Int) (Q : List yd → List y0 → Prop) : Prop := ∃ q t p s, o = some (q, t, c, p, s) ∧ YC c p ∧ Q q t
def yuu (q : List yd) (t : List y0) : Prop := TS t ∧ q.length = t.length ∧ 1 ≤ t.length ∧ t.length ≤ 20
theorem yhl (c : List Int) (p s m : Int) (h : YC c p) (m0 : 0 ≤ m) (m1 : m ≤ 1000) : y4M (ki (c, p, s, m)) c yuu := by
 obtain ⟨v1, p1, s1, e1, h1, q1⟩ := z9 c p s (m + 1) h
 have b1 := q1.2 (by omega)
 have z0 : yuu [0] [[]] := ⟨⟨by simp, fun n hn => by
  rw [List.mem_singleton.1 hn]
  exact ⟨by simp, by simp [Wg]⟩⟩, rfl, by simp, by simp⟩
 unfold ki y09 J1
 simp only [Option.bind_some]
 try simp only []
 rw [show Go.IntKind.wrap .i64 (m + 1) = m + 1 from w64 (by omega) (by omega), e1]
 simp only [Option.bind_some]
 refine YI (step := kg _) (fun u : kf => u.1.toNat) (fun u => ∃ k q t p s, u = (k, c, p, s, q, t) ∧ YC c p ∧ 0 ≤ k ∧ k ≤ 1000 ∧ yuu q t) (fun _ (res : Option (List yd × List y0 × List Int × Int × Int)) => y4M res c yuu) ?_ (v1, c, p1, s1, [0], [[]]) ⟨v1, _, _, p1, s1, rfl, h1, q1.1, by omega, z0⟩ (by simp only; omega)
 rintro again _ ⟨k, q, t, p, s, rfl, hc, k0, k1, hT⟩ hag
 unfold kg
 simp only [Bool.cond_eq_ite, decide_eq_true_eq]
 by_cases hk : k > 0
 ·obtain ⟨a, b, kk, d, g, p2, s2, e2, h2⟩ := yzb c p s hc
  have hw : Go.IntKind.wrap .i64 (k - 1) = k - 1 := w64 (by omega) (by omega)
  have hq := hT.1.tq (q := q) (by have := hT.2.1; have := hT.2.2.2; omega)
  simp only [if_pos hk, e2, Option.bind_some, Z4 q t a b kk d g hq.T hq.Q hq.q, hw]
  exact hag _ ⟨_, _, _, _, _, rfl, h2, by omega, by omega, yeR q t _ hT⟩ (by simp only; omega)
 ·simp only [if_neg hk]
  exact ⟨_, _, _, _, rfl, hc, hT⟩
theorem yaX (c : List Int) (p s m : Int) (h : YC c p) (m0 : 0 ≤ m) (m1 : m ≤ 1000) : y4M (KG (c, p, s, m)) c TQ := by
 obtain ⟨q, t, p1, s1, e1, h1, q1⟩ := yhl c p s m h m0 m1
 obtain ⟨v2, p2, s2, e2, h2, q2⟩ := z9 c p1 s1 12 h1
 obtain ⟨v3, p3, s3, e3, h3, q3⟩ := z9 c p2 s2 (q.length : Int) h2
 obtain ⟨v4, p4, s4, e4, h4, q4⟩ := Jf c p3 s3 [0, -1, 1, 300] (by simp) (by simp) h3
 obtain ⟨n5, p5, s5, e5, h5, q5⟩ := y4L c p2 s2 h2
 obtain ⟨v6, p6, s6, e6, h6, q6⟩ := z9 c p2 s2 (t.length : Int) h2
 obtain ⟨n7, p7, s7, e7, h7, q7⟩ := y4L c p6 s6 h6
 obtain ⟨hT, hql, t1, t2⟩ := q1
 have b3 := q3.2 (by omega)
 have b6 := q6.2 (by omega)
 unfold KG
 simp only [e1, e2, e3, e4, e5, e6, e7, Option.bind_some]
 refine yO (P := fun o => y4M o c TQ) _ ?_ (yO (P := fun o => y4M o c TQ) _ ?_ (yO (P := fun o => y4M o c TQ) _ ?_ (yO (P := fun o => y4M o c TQ) _ ?_ ?_)))
 ·rw [if_pos q3.1, if_pos b3]
  exact ⟨_, _, _, _, rfl, h4, hT.tq (by rw [List.length_set]; omega)⟩
 ·rw [if_pos (by simp only [List.length_cons, List.length_nil]; omega)]
  refine ⟨_, _, _, _, rfl, h5, TS.tq ⟨by rw [List.length_append]; simp only [List.length_cons, List.length_nil]; omega, fun n hn => ?_⟩ (by omega)⟩
  rcases List.mem_append.1 hn with hn | hn
  ·exact hT.node n hn
  ·rw [List.mem_singleton.1 hn]
   exact q5
 ·rw [if_pos q6.1, if_pos b6]
  refine ⟨_, _, _, _, rfl, h7, TS.tq ⟨by rw [List.length_set]; omega, fun n hn => ?_⟩ (by omega)⟩
  rcases List.mem_or_eq_of_mem_set hn with hn | rfl
  ·exact hT.node n hn
  ·exact q7
 ·exact ⟨_, _, _, _, rfl, h2, TS.tq ⟨by simp, fun n hn => by cases hn⟩ (by simp)⟩
 ·exact ⟨_, _, _, _, rfl, h2, hT.tq (by omega)⟩
end Go.Proofs.YthgdjjdigalckaaGreat.Pl
namespace Go.Proofs.YthgdjjdigalckaaGreat.Pl
open Go.Proofs.YthgdjjdigalckaaGreat.R Go.Proofs.YthgdjjdigalckaaGreat.XB
theorem yaY (c : List Int) (p s n : Int) (h : YC c p) : jX (jB (c, p, s, n)) c (fun _ => True) := by
 obtain ⟨v, p1, s1, e1, h1, q1⟩ := z9 c p s n h
 unfold jB
 rw [e1]
 exact ⟨_, _, _, rfl, h1, trivial⟩
abbrev AL : Type := List ya × List Int × Int × Int
theorem yhm (c : List Int) (p s : Int) (h : YC c p) : jX (kr (c, p, s)) c (fun l : List ya => l.length ≤ 8) := by
 obtain ⟨v1, p1, s1, e1, h1, q1⟩ := z9 c p s 8 h
 have b1 := q1.2 (by omega)
 unfold kr y0c
 rw [e1]
 simp only [Option.bind_some]
 refine YI (step := kq _) (fun u : kp => u.1.toNat) (fun u => ∃ k l p s, u = (k, c, p, s, l) ∧ YC c p ∧ 0 ≤ k ∧ (List.length l : Int) + k ≤ 8) (fun _ (res : Option AL) => jX res c (fun l : List ya => l.length ≤ 8)) ?_ (v1, c, p1, s1, []) ⟨v1, [], p1, s1, rfl, h1, q1.1, by simp; omega⟩ (by simp only; omega)
 rintro again _ ⟨k, l, p, s, rfl, hc, hk, hl⟩ hag
 unfold kq
 simp only [Bool.cond_eq_ite, decide_eq_true_eq]
 by_cases hk2 : k > 0
 ·have hw : Go.IntKind.wrap .i64 (k - 1) = k - 1 := w64 (by omega) (by omega)
  have step : ∀ (p s id fr : Int), YC c p → jX (Option.bind (zD (l, id, fr)) fun r => again (k - 1, c, p, s, r.1)) c (fun l : List ya => l.length ≤ 8) := fun p s id fr hp => by
   obtain ⟨l', b, e2, h2⟩ := y25 l id fr (by omega)
   rw [e2]
   exact hag (k - 1, c, p, s, l') ⟨k - 1, l', p, s, rfl, hp, by omega, by omega⟩ (by simp only; omega)
  obtain ⟨v2, p2, s2, e2, h2, _⟩ := yaY c p s 4 hc
  obtain ⟨v3, p3, s3, e3, h3, q3⟩ := z9 c p2 s2 (l.length : Int) h2
  obtain ⟨v4, p4, s4, e4, h4, _⟩ := z9 c p3 s3 8 h3
  obtain ⟨v6, p6, s6, e6, h6, _⟩ := z9 c p2 s2 8 h2
  obtain ⟨v8, p8, s8, e8, h8, _⟩ := z9 c p s 8 hc
  simp only [if_pos hk2, hw, e2, e3, e6, e8, Option.bind_some]
  split
  ·rename_i hlen
   split
   ·rw [if_pos q3.1, if_pos (q3.2 hlen), e4]
    exact step _ _ _ _ h4
   ·exact step _ _ _ _ h6
  ·exact step _ _ _ _ h8
 ·simp only [if_neg hk2]
  exact ⟨_, _, _, rfl, hc, by simp only; omega⟩
theorem yaZ (c : List Int) (p s : Int) (h : YC c p) : jX (KH (c, p, s)) c (fun l : List ya => l.length ≤ 100) := by
 obtain ⟨l, p1, s1, e1, h1, q1⟩ := yhm c p s h
 obtain ⟨v2, p2, s2, e2, h2, q2⟩ := z9 c p1 s1 8 h1
 obtain ⟨v3, p3, s3, e3, h3, q3⟩ := Jf c p2 s2 [0, 3, 60, 61] (by simp) (by simp) h2
 obtain ⟨v4, p4, s4, e4, h4, q4⟩ := Jf c p3 s3 [0, 1, 9, -1] (by simp) (by simp) h3
 obtain ⟨v5, p5, s5, e5, h5, q5⟩ := Jf c p2 s2 [1, 2, 3] (by simp) (by simp) h2
 unfold KH
 simp only [e1, e2, e3, e4, e5, Option.bind_some]
 refine yO (P := fun o => jX o c (fun l : List ya => l.length ≤ 100)) _ ?_ (yO (P := fun o => jX o c (fun l : List ya => l.length ≤ 100)) _ (jd (P := fun o => jX o c (fun l : List ya => l.length ≤ 100)) _ (fun hh => ?_) fun _ => ⟨_, _, _, rfl, h2, by omega⟩) (yO (P := fun o => jX o c (fun l : List ya => l.length ≤ 100)) _ ?_ ⟨_, _, _, rfl, h2, by omega⟩))
 ·rw [if_pos (by simp only [List.length_cons, List.length_nil]; omega)]
  exact ⟨_, _, _, rfl, h4, by simp only [List.length_append, List.length_cons, List.length_nil]; omega⟩
 ·have hh := of_decide_eq_true hh
  rw [if_pos (Int.le_refl _), if_pos (show (0 : Int) < ((List.length l : Nat) : Int) by omega)]
  exact ⟨_, _, _, rfl, h5, by simp only [List.length_set]; omega⟩
 ·unfold y0d
  refine YI (step := ku _) (fun u : kt => (14 - u.1).toNat) (fun u => ∃ k l p s, u = (k, c, p, s, l) ∧ YC c p ∧ 0 ≤ k ∧ k ≤ 14 ∧ (List.length l : Int) ≤ 8 + k) (fun _ (res : Option AL) => jX res c (fun l : List ya => l.length ≤ 100)) ?_ (0, c, p2, s2, l) ⟨0, l, p2, s2, rfl, h2, Int.le_refl _, by omega, by omega⟩ (by simp only; omega)
  rintro again _ ⟨k, l, p, s, rfl, hc, k0, k1, hl⟩ hag
  unfold ku
  simp only [Bool.cond_eq_ite, decide_eq_true_eq]
  by_cases hk2 : k < 14
  ·have hw : Go.IntKind.wrap .i64 (k + 1) = k + 1 := w64 (by omega) (by omega)
   simp only [if_pos hk2, hw, List.length_cons, List.length_nil]
   rw [if_pos (by omega)]
   exact hag _ ⟨_, _, _, _, rfl, hc, by omega, by omega, by simp only [List.length_append, List.length_cons, List.length_nil]; omega⟩ (by simp only; omega)
  ·simp only [if_neg hk2]
   exact ⟨_, _, _, rfl, hc, by simp only; omega⟩
abbrev CL : Type := List y7 × List Int × Int × Int
theorem yeS (c : List Int) (p s : Int) (h : YC c p) : jX (kx (c, p, s)) c (fun l : List y7 => l.length = 24) := by
 obtain ⟨v1, p1, s1, e1, h1, q1⟩ := z9 c p s 30 h
 have b1 := q1.2 (by omega)
 unfold kx y0e ZW
 rw [if_pos (by omega), if_pos (by omega), if_pos (by decide)]
 simp only [Option.bind_some]
 rw [e1]
 simp only [Option.bind_some]
 refine YI (step := kw _) (fun u : kv => u.1.toNat) (fun u => ∃ k l p s, u = (k, c, p, s, l) ∧ YC c p ∧ 0 ≤ k ∧ k ≤ 30 ∧ List.length l = 24) (fun _ (res : Option CL) => jX res c (fun l : List y7 => l.length = 24)) ?_ (v1, c, p1, s1, List.replicate (Int.toNat (24 : Int)) zW) ⟨v1, _, p1, s1, rfl, h1, q1.1, by omega, by simp⟩ (by simp only; omega)
 rintro again _ ⟨k, l, p, s, rfl, hc, k0, k1, hl⟩ hag
 unfold kw
 simp only [Bool.cond_eq_ite, decide_eq_true_eq]
 by_cases hk2 : k > 0
 ·have hw : Go.IntKind.wrap .i64 (k - 1) = k - 1 := w64 (by omega) (by omega)
  obtain ⟨v2, p2, s2, e2, h2, _⟩ := yaY c p s 3 hc
  obtain ⟨v3, p3, s3, e3, h3, q3⟩ := z9 c p2 s2 6 h2
  obtain ⟨v4, p4, s4, e4, h4, q4⟩ := Jf c p2 s2 [0, 5, 65535] (by simp) (by simp) h2
  obtain ⟨l', i, b, e5, h5, _⟩ := y1o l v4 (by omega)
  simp only [if_pos hk2, hw, e2, e3, e4, e5, Option.bind_some, jW l v3 (by omega)]
  split
  ·exact hag _ ⟨_, _, _, _, rfl, h3, by omega, by omega, by rw [y24]; exact hl⟩ (by simp only; omega)
  ·exact hag _ ⟨_, _, _, _, rfl, h4, by omega, by omega, by rw [h5]; exact hl⟩ (by simp only; omega)
 ·simp only [if_neg hk2]
  exact ⟨_, _, _, rfl, hc, hl⟩
theorem y9J (c : List Int) (p s : Int) (h : YC c p) : jX (KI (c, p, s)) c (fun l : List y7 => l.length ≤ 24) := by
 obtain ⟨l, p1, s1, e1, h1, q1⟩ := yeS c p s h
 obtain ⟨v2, p2, s2, e2, h2, q2⟩ := z9 c p1 s1 10 h1
 obtain ⟨v3, p3, s3, e3, h3, q3⟩ := z9 c p2 s2 (l.length : Int) h2
 obtain ⟨v4, p4, s4, e4, h4, q4⟩ := Jf c p3 s3 [-1, 999, 1000] (by simp) (by simp) h3
 obtain ⟨v5, p5, s5, e5, h5, q5⟩ := Jf c p3 s3 [-1, 5, 65536] (by simp) (by simp) h3
 have b3 := q3.2 (by omega)
 unfold KI
 simp only [e1, e2, e3, e4, e5, Option.bind_some]
 refine yO (P := fun o => jX o c (fun l : List y7 => l.length ≤ 24)) _ ?_ (yO (P := fun o => jX o c (fun l : List y7 => l.length ≤ 24)) _ ?_ (yO (P := fun o => jX o c (fun l : List y7 => l.length ≤ 24)) _ ?_ (yO (P := fun o => jX o c (fun l : List y7 => l.length ≤ 24)) _ ?_ ⟨_, _, _, rfl, h2, by omega⟩)))
 ·rw [if_pos (by omega), if_pos (by omega), if_pos (by omega)]
  exact ⟨_, _, _, rfl, h2, by simp only [List.length_drop, List.length_take]; omega⟩
 ·rw [if_pos q3.1, if_pos b3]
  exact ⟨_, _, _, rfl, h4, by simp only [List.length_set]; omega⟩
 ·rw [if_pos q3.1, if_pos b3]
  exact ⟨_, _, _, rfl, h5, by simp only [List.length_set]; omega⟩
 ·rw [if_pos (by omega), if_pos (by omega)]
  exact ⟨_, _, _, rfl, h2, by simp only [List.length_set]; omega⟩
def qE (o : Option (List yd × List y0 × List ya × List y7 × List ye × Int × List Int × Int × Int)) (c : List Int) (Q : List yd → List y0 → List ya → List y7 → List ye → Prop) : Prop := ∃ q t l cs vs z p s, o = some (q, t, l, cs, vs, z, c, p, s) ∧ YC c p ∧ Q q t l cs vs
theorem Tn0 : Tn [0] [[]] [] (List.replicate (Int.toNat (24 : Int)) zW) [] := by
 have hT : TS [[]] := ⟨by simp, fun n hn => by
  rw [List.mem_singleton.1 hn]
  exact ⟨by simp, by simp [Wg]⟩⟩
 have hN : ∀ v ∈ ([] : List ye), ByteArray.size v.1 ≤ 60 := fun v hv => nomatch hv
 exact ⟨by simp, hT, by simp, by simp, by simp, hN, rfl, by simp⟩
theorem yeT (c : List Int) (p s m : Int) (h : YC c p) (m0 : 0 ≤ m) (m1 : m ≤ 1000) : qE (wL (c, p, s, m)) c Tn := by
 obtain ⟨v1, p1, s1, e1, h1, q1⟩ := z9 c p s (m + 1) h
 have b1 := q1.2 (by omega)
 unfold wL Qj Kp J1 ZW
 rw [if_pos (by omega), if_pos (by omega), if_pos (by decide)]
 simp only [Option.bind_some]
 rw [show Go.IntKind.wrap .i64 (m + 1) = m + 1 from w64 (by omega) (by omega), e1]
 simp only [Option.bind_some]
 refine YI (step := jS _ _) (fun u : wZ => match u with | .inl u => u.1.toNat | .inr u => u.1.toNat) (fun u => match u with | .inl u => ∃ k y q t l cs vs z p s, u = (k, c, p, s, y, z, q, t, l, cs, vs) ∧ YC c p ∧ 0 ≤ k ∧ k ≤ 1000 ∧ Tn q t l cs vs | .inr u => ∃ k y q t l cs vs z p s, u = (k, c, p, s, y, q, t, l, z, cs, vs) ∧ YC c p ∧ 0 ≤ k ∧ k ≤ 1000 ∧ Tn q t l cs vs) (fun _ (res : Option (List yd × List y0 × List ya × List y7 × List ye × Int × List Int × Int × Int)) => qE res c Tn) ?_ _ ⟨v1, 0, _, _, _, _, _, 1, p1, s1, rfl, h1, q1.1, by omega, Tn0⟩ (by simp only; omega)
 intro again u hu hag
 have step : ∀ (k y : Int) q t l cs vs (z p s : Int), YC c p → 0 ≤ k → k ≤ 1000 → Tn q t l cs vs → k > 0 → (∀ k' q' t' l' cs' vs' z' p' s', YC c p' → 0 ≤ k' → k' < k → Tn q' t' l' cs' vs' → qE (again (Sum.inr (k', c, p', s', y, q', t', l', z', cs', vs'))) c Tn) → qE (Option.bind (ZA (c, p, s)) fun r3 => Option.bind (JP (q, t, l, cs, vs, z, r3.1, r3.2.1, r3.2.2.1, r3.2.2.2.1, r3.2.2.2.2.1)) fun r4 => again (Sum.inr ((Go.IntKind.wrap .i64 (k - (1 : Int))), r3.2.2.2.2.2.1, r3.2.2.2.2.2.2.1, r3.2.2.2.2.2.2.2, y, r4.1, r4.2.1, r4.2.2.1, r4.2.2.2.2.2.1, r4.2.2.2.1, r4.2.2.2.2.1))) c Tn := by
  intro k y q t l cs vs z p s hc k0 k1 hT hk hag2
  obtain ⟨kd, n, m, a, b, p2, s2, e2, h2, hn, hm⟩ := yza c p s hc
  obtain ⟨q', t', l', cs', vs', z', cc, e3, h3⟩ := yhi z hT.sp kd n m a b hn hm
  have hw : Go.IntKind.wrap .i64 (k - 1) = k - 1 := w64 (by omega) (by omega)
  simp only [e2, e3, Option.bind_some, hw]
  refine hag2 _ _ _ _ _ _ _ _ _ h2 (by omega) (by omega) ?_
  rcases h3 with h3 | h3
  ·exact h3
  ·simp only [Prod.mk.injEq] at h3
   obtain ⟨rfl, rfl, rfl, rfl, rfl, rfl⟩ := h3
   exact hT
 cases u with
 | inl u =>
  obtain ⟨k, y, q, t, l, cs, vs, z, p, s, rfl, hc, k0, k1, hT⟩ := hu
  unfold jS
  simp only [Bool.cond_eq_ite, decide_eq_true_eq]
  by_cases hk : k > 0
  ·simp only [if_pos hk]
   exact step k y q t l cs vs z p s hc k0 k1 hT hk fun k' q' t' l' cs' vs' z' p' s' g1 g2 g3 g4 => hag _ ⟨_, _, _, _, _, _, _, _, _, _, rfl, g1, g2, by omega, g4⟩ (by simp only; omega)
  ·simp only [if_neg hk]
   exact ⟨_, _, _, _, _, _, _, _, rfl, hc, hT⟩
 | inr u =>
  obtain ⟨k, y, q, t, l, cs, vs, z, p, s, rfl, hc, k0, k1, hT⟩ := hu
  unfold jS
  simp only [Bool.cond_eq_ite, decide_eq_true_eq]
  by_cases hk : k > 0
  ·simp only [if_pos hk]
   exact step k y q t l cs vs z p s hc k0 k1 hT hk fun k' q' t' l' cs' vs' z' p' s' g1 g2 g3 g4 => hag _ ⟨_, _, _, _, _, _, _, _, _, _, rfl, g1, g2, by omega, g4⟩ (by simp only; omega)
  ·simp only [if_neg hk]
   exact ⟨_, _, _, _, _, _, _, _, rfl, hc, hT⟩
theorem y9K (c : List Int) (p s m : Int) (h : YC c p) (m0 : 0 ≤ m) (m1 : m ≤ 1000) : qE (ky (c, p, s, m)) c SP := by
 obtain ⟨q, t, l, cs, vs, z, p1, s1, e1, h1, hT⟩ := yeT c p s m h m0 m1
 obtain ⟨v2, p2, s2, e2, h2, _⟩ := z9 c p1 s1 20 h1
 obtain ⟨q3, t3, p3, s3, e3, h3, hq3⟩ := yaX c p2 s2 6 h2 (by omega) (by omega)
 obtain ⟨l4, p4, s4, e4, h4, hl4⟩ := yaZ c p2 s2 h2
 obtain ⟨c5, p5, s5, e5, h5, hc5⟩ := y9J c p2 s2 h2
 obtain ⟨v6, p6, s6, e6, h6, hv6⟩ := yc5 c p2 s2 [{ data := #[97] }, { data := #[122, 122] }, { data := #[65] }] (by simp) (by simp) (by decide) h2
 obtain ⟨v7, p7, s7, e7, h7, _⟩ := z9 c p6 s6 4 h6
 obtain ⟨v8, p8, s8, e8, h8, _⟩ := Jf c p7 s7 [0, 1, 13] (by simp) (by simp) h7
 obtain ⟨v9, p9, s9, e9, h9, _⟩ := Jf c p2 s2 [0, 1, 60, 61, 62] (by simp) (by simp) h2
 obtain ⟨vA, pA, sA, eA, hA, qA⟩ := z9 c p2 s2 (cs.length : Int) h2
 obtain ⟨vB, pB, sB, eB, hB, _⟩ := z9 c p2 s2 6 h2
 have hS := hT.sp
 have hcl := hT.cl
 have hvl := hT.vl
 have bA := qA.2 (by omega)
 unfold ky
 simp only [e1, e2, e3, e4, e5, e6, e7, e8, e9, eA, eB, Option.bind_some]
 refine yO (P := fun o => qE o c SP) _ ?_ (yO (P := fun o => qE o c SP) _ ?_ (yO (P := fun o => qE o c SP) _ ?_ (yO (P := fun o => qE o c SP) _ ?_ (yO (P := fun o => qE o c SP) _ ?_ (yO (P := fun o => qE o c SP) _ ?_ (yO (P := fun o => qE o c SP) _ (jd (P := fun o => qE o c SP) _ (fun hh => ?_) fun _ => ?_) ?_))))))
 ·exact ⟨_, _, _, _, _, _, _, _, rfl, h3, hq3.sp hS hS.S.2.2.2.1 hS.S.2.2.2.2.1⟩
 ·exact ⟨_, _, _, _, _, _, _, _, rfl, h4, hS.tq.sp hS (by omega) hS.S.2.2.2.2.1⟩
 ·exact ⟨_, _, _, _, _, _, _, _, rfl, h5, hS.tq.sp hS hS.S.2.2.2.1 (by omega)⟩
 ·rw [if_pos (by simp only [List.length_cons, List.length_nil]; omega)]
  refine ⟨_, _, _, _, _, _, _, _, rfl, h8, SP.of hS.tq hS.S.2.2.2.1 hS.S.2.2.2.2.1 (by simp only [List.length_append, List.length_cons, List.length_nil]; omega) fun v hv => ?_⟩
  rcases List.mem_append.1 hv with hv | hv
  ·exact hS.N v hv
  ·rw [List.mem_singleton.1 hv]
   exact Wj hv6
 ·exact ⟨_, _, _, _, _, _, _, _, rfl, h9, hS⟩
 ·rw [if_pos qA.1, if_pos bA]
  exact ⟨_, _, _, _, _, _, _, _, rfl, hA, hS.tq.sp hS hS.S.2.2.2.1 (by rw [List.length_set]; omega)⟩
 ·have hh := of_decide_eq_true hh
  rw [if_pos (Int.le_refl _), if_pos (show (0 : Int) < ((List.length vs : Nat) : Int) by omega)]
  refine ⟨_, _, _, _, _, _, _, _, rfl, hB, SP.of hS.tq hS.S.2.2.2.1 hS.S.2.2.2.2.1 (by rw [List.length_set]; omega) fun v hv => ?_⟩
  rcases List.mem_or_eq_of_mem_set hv with hv | rfl
  ·exact hS.N v hv
  ·exact hS.N (y8 vs 0) (yZ zX vs 0 (Int.le_refl _) (by omega))
 ·exact ⟨_, _, _, _, _, _, _, _, rfl, h2, hS⟩
 ·exact ⟨_, _, _, _, _, _, _, _, rfl, h2, hS⟩
theorem ymb (x : List Int) (m : Int) (hx : x.length ≤ 1099511627776) (hm : 3 ≤ m) : ∃ n, WF (x, m) = some n ∧ 0 ≤ n ∧ n ≤ m := by
 unfold WF
 have hd : Int.tdiv ((List.length x : Nat) : Int) 12 = ((List.length x : Nat) : Int) / 12 := Int.tdiv_eq_ediv_of_nonneg (by omega)
 simp only [hd]
 rw [show Go.IntKind.wrap .i64 (((List.length x : Nat) : Int) / 12) = ((List.length x : Nat) : Int) / 12 from w64 (by omega) (by omega), show Go.IntKind.wrap .i64 (3 + ((List.length x : Nat) : Int) / 12) = 3 + ((List.length x : Nat) : Int) / 12 from w64 (by omega) (by omega)]
 by_cases h : 3 + ((List.length x : Nat) : Int) / 12 > m
 ·rw [decide_eq_true h]
  exact ⟨_, rfl, by omega, Int.le_refl _⟩
 ·rw [decide_eq_false h]
  exact ⟨_, rfl, by omega, by omega⟩
end Go.Proofs.YthgdjjdigalckaaGreat.Pl
namespace Go.Proofs.YthgdjjdigalckaaGreat.Pl
open Go.Proofs.YthgdjjdigalckaaGreat.R Go.Proofs.YthgdjjdigalckaaGreat.XB
def Jj {A : Type} (eq : A → A → Bool) (da : A) (a b : List A) : Bool := decide (a.length = b.length) && !YA (fun i x => !eq x (b.getD i.toNat da)) a 0
theorem Q4 {A : Type} (eq : A → A → Bool) (da : A) {a b : List A} (h : a.length ≠ b.length) : Jj eq da a b = false := by
 unfold Jj
 rw [decide_eq_false h]
 rfl
theorem y4N {A B : Type} {a : List A} {b : List B} (h : a.length = b.length) : (((List.length a : Nat) : Int) != ((List.length b : Nat) : Int)) = false := by
 rw [h]
 simp
theorem y4O {A B : Type} {a : List A} {b : List B} (h : a.length ≠ b.length) : (((List.length a : Nat) : Int) != ((List.length b : Nat) : Int)) = true := by
 simp only [bne_iff_ne]
 omega
theorem Vl {T A : Type} {step : (T → Option Bool) → T → Option Bool} (mk : Int → T) (eq : A → A → Bool) (da : A) (a b : List A) (hl : a.length ≤ 1048576) (he : a.length = b.length)
  (h : ∀ again i, 0 ≤ i → i < ((List.length a : Nat) : Int) → i < ((List.length b : Nat) : Int) → a.getD i.toNat da ∈ a → b.getD i.toNat da ∈ b → step again (mk i) = bif (!eq (a.getD i.toNat da) (b.getD i.toNat da)) then some false else again (mk (i + 1)))
  (hd : ∀ again i, ¬ i < ((List.length a : Nat) : Int) → step again (mk i) = some true) : zI step Y0 (mk 0) = some (Jj eq da a b) := by
 refine (zP (step := step) mk (fun i x => !eq x (b.getD i.toNat da)) (some false) (some true) da a (by omega) (fun again i h0 h1 => ?_) hd).trans ?_
 ·rw [h again i h0 h1 (by omega) (yZ da a i h0 h1) (yZ da b i h0 (by omega)), Bool.cond_eq_ite]
 ·unfold Jj
  rw [decide_eq_true he]
  cases YA (fun i x => !eq x (b.getD i.toNat da)) a 0 <;> rfl
theorem Kj {A : Type} {eq : A → A → Bool} (da : A) (a : List A) (h : ∀ x, eq x x = true) : Jj eq da a a = true := by
 unfold Jj
 rw [decide_eq_true rfl, y1W da a 0 fun j hj => by
  rw [show (0 + (j : Int)).toNat = j by omega, h]
  rfl]
 rfl
def eqI (x y : Int) : Bool := x == y
def eqK (x y : y9) : Bool := (x.1 == y.1) && ((x.2.1 == y.2.1) && ((x.2.2.1 == y.2.2.1) && ((x.2.2.2.1 == y.2.2.2.1) && ((x.2.2.2.2 == y.2.2.2.2) && true))))
def eqA (x y : ya) : Bool := (x.1 == y.1) && ((x.2 == y.2) && true)
def eqC (x y : y7) : Bool := (x.1 == y.1) && ((x.2.1 == y.2.1) && ((x.2.2 == y.2.2) && true))
def eqV (x y : ye) : Bool := (ByteArray.toList x.1 == ByteArray.toList y.1) && ((x.2.1 == y.2.1) && ((x.2.2.1 == y.2.2.1) && ((x.2.2.2 == y.2.2.2) && true)))
def eqS (x y : yb) : Bool := Jj eqK zb x y
def eqN (x y : y0) : Bool := Jj eqS yV x y
theorem yhn (x : Int) : eqI x x = true := by simp [eqI]
theorem yho (x : y9) : eqK x x = true := by simp [eqK]
theorem yhp (x : ya) : eqA x x = true := by simp [eqA]
theorem yhq (x : y7) : eqC x x = true := by simp [eqC]
theorem yhr (x : ye) : eqV x x = true := by simp [eqV]
theorem yhs (x : yb) : eqS x x = true := Kj _ _ yho
theorem yht (x : y0) : eqN x x = true := Kj _ _ yhs
def y26 (q : List yd) (t : List y0) (l : List ya) (cs : List y7) (vs : List ye) (z : Int) (q' : List yd) (t' : List y0) (l' : List ya) (cs' : List y7) (vs' : List ye) (z' : Int) : Bool :=
 Jj eqI y4X q q' && (Jj eqN yz t t' && (Jj eqA YT l l' && (Jj eqC zW cs cs' && (Jj eqV zX vs vs' && (z == z')))))
theorem y5d (q : List yd) (t : List y0) (l : List ya) (cs : List y7) (vs : List ye) (z : Int) : y26 q t l cs vs z q t l cs vs z = true := by
 unfold y26
 rw [Kj _ _ yhn, Kj _ _ yht, Kj _ _ yhp, Kj _ _ yhq, Kj _ _ yhr]
 simp
theorem y39 (a b : List yd) (hl : a.length ≤ 1048576) : Jk (a, b) = some (Jj eqI y4X a b) := by
 unfold Jk qk
 by_cases he : a.length = b.length
 ·simp only [y4N he, cond_false]
  refine Vl (step := ZJ _ _) (fun i => (a, b, i)) eqI y4X a b hl he (fun again i h0 h1 h2 _ _ => ?_) fun again i hi => ?_
  ·have hw : Go.IntKind.wrap .i64 (i + 1) = i + 1 := w64 (by omega) (by omega)
   unfold ZJ
   simp only [decide_eq_true h1, cond_true, if_pos h0, if_pos h1, if_pos h2, hw]
   rfl
  ·unfold ZJ
   simp only [decide_eq_false hi, cond_false]
 ·simp only [y4O he, cond_true, Q4 _ _ he]
theorem y3a (a b : List y9) (hl : a.length ≤ 1048576) : Jl (a, b) = some (Jj eqK zb a b) := by
 unfold Jl qm
 by_cases he : a.length = b.length
 ·simp only [y4N he, cond_false]
  refine Vl (step := ZK _ _) (fun i => (a, b, i)) eqK zb a b hl he (fun again i h0 h1 h2 _ _ => ?_) fun again i hi => ?_
  ·have hw : Go.IntKind.wrap .i64 (i + 1) = i + 1 := w64 (by omega) (by omega)
   unfold ZK
   simp only [decide_eq_true h1, cond_true, if_pos h0, if_pos h1, if_pos h2, hw]
   rfl
  ·unfold ZK
   simp only [decide_eq_false hi, cond_false]
 ·simp only [y4O he, cond_true, Q4 _ _ he]
theorem y3b (a b : List ya) (hl : a.length ≤ 1048576) : Jo (a, b) = some (Jj eqA YT a b) := by
 unfold Jo qq
 by_cases he : a.length = b.length
 ·simp only [y4N he, cond_false]
  refine Vl (step := ZN _ _) (fun i => (a, b, i)) eqA YT a b hl he (fun again i h0 h1 h2 _ _ => ?_) fun again i hi => ?_
  ·have hw : Go.IntKind.wrap .i64 (i + 1) = i + 1 := w64 (by omega) (by omega)
   unfold ZN
   simp only [decide_eq_true h1, cond_true, if_pos h0, if_pos h1, if_pos h2, hw]
   rfl
  ·unfold ZN
   simp only [decide_eq_false hi, cond_false]
 ·simp only [y4O he, cond_true, Q4 _ _ he]
theorem y2y (a b : List y7) (hl : a.length ≤ 1048576) : jF (a, b) = some (Jj eqC zW a b) := by
 unfold jF Vw
 by_cases he : a.length = b.length
 ·simp only [y4N he, cond_false]
  refine Vl (step := Zf _ _) (fun i => (a, b, i)) eqC zW a b hl he (fun again i h0 h1 h2 _ _ => ?_) fun again i hi => ?_
  ·have hw : Go.IntKind.wrap .i64 (i + 1) = i + 1 := w64 (by omega) (by omega)
   unfold Zf
   simp only [decide_eq_true h1, cond_true, if_pos h0, if_pos h1, if_pos h2, hw]
   rfl
  ·unfold Zf
   simp only [decide_eq_false hi, cond_false]
 ·simp only [y4O he, cond_true, Q4 _ _ he]
theorem y3c (a b : List yb) (hl : a.length ≤ 1048576) (hs : ∀ s ∈ a, List.length s ≤ 1048576) : Jm (a, b) = some (Jj eqS yV a b) := by
 unfold Jm qn
 by_cases he : a.length = b.length
 ·simp only [y4N he, cond_false]
  refine Vl (step := ZL _ _) (fun i => (i, a, b)) eqS yV a b hl he (fun again i h0 h1 h2 hm _ => ?_) fun again i hi => ?_
  ·have hw : Go.IntKind.wrap .i64 (i + 1) = i + 1 := w64 (by omega) (by omega)
   unfold ZL
   simp only [decide_eq_true h1, cond_true, if_pos h0, if_pos h1, if_pos h2, hw]
   rw [y3a (yo a i) (yo b i) (hs _ hm)]
   rfl
  ·unfold ZL
   simp only [decide_eq_false hi, cond_false]
 ·simp only [y4O he, cond_true, Q4 _ _ he]
theorem y3d (q q' : List yd) (t t' : List y0) (hq : q.length ≤ 1048576) (ht : t.length ≤ 1048576) (hn : ∀ n ∈ t, List.length n ≤ 1048576 ∧ ∀ s ∈ (show List yb from n), List.length s ≤ 1048576) : Jn (q, t, q', t') = some (Jj eqI y4X q q' && Jj eqN yz t t') := by
 unfold Jn qp
 simp only [y39 q q' hq, Option.bind_some]
 cases Jj eqI y4X q q' with
 | false => rfl
 | true =>
  simp only [Bool.not_true, cond_false, Option.bind_some, Bool.true_and]
  by_cases he : t.length = t'.length
  ·simp only [y4N he, cond_false]
   refine Vl (step := ZM _ _) (fun i => (i, q, t, q', t')) eqN yz t t' ht he (fun again i h0 h1 h2 hm _ => ?_) fun again i hi => ?_
   ·have hw : Go.IntKind.wrap .i64 (i + 1) = i + 1 := w64 (by omega) (by omega)
    unfold ZM
    simp only [decide_eq_true h1, cond_true, if_pos h0, if_pos h1, if_pos h2, hw]
    rw [y3c (yf t i) (yf t' i) (hn _ hm).1 (hn _ hm).2]
    rfl
   ·unfold ZM
    simp only [decide_eq_false hi, cond_false]
  ·simp only [y4O he, cond_true, Q4 _ _ he]
section
variable {q : List yd} {t : List y0} {l : List ya} {cs : List y7} {vs : List ye} (z : Int) (hs : small q t l cs vs) (q' : List yd) (t' : List y0) (l' : List ya) (cs' : List y7) (vs' : List ye) (z' : Int)
include hs
theorem y3e : zv (q, t, l, cs, vs, z, q', t', l', cs', vs', z') = some (y26 q t l cs vs z q' t' l' cs' vs' z') := by
 have hv : vs.length ≤ 1048576 := hs.2.2.2.2.2
 have loop : vs.length = vs'.length → kY (fun x8 => some x8) (fun x9 => some true) ((0 : Int), q, t, l, cs, vs, z, q', t', l', cs', vs', z') = some (Jj eqV zX vs vs') := by
  intro he
  unfold kY
  refine Vl (step := ZO _ _) (fun i => (i, q, t, l, cs, vs, z, q', t', l', cs', vs', z')) eqV zX vs vs' hv he (fun again i h0 h1 h2 _ _ => ?_) fun again i hi => ?_
  ·have hw : Go.IntKind.wrap .i64 (i + 1) = i + 1 := w64 (by omega) (by omega)
   unfold ZO
   simp only [decide_eq_true h1, cond_true, if_pos h0, if_pos h1, if_pos h2, hw]
   rfl
  ·unfold ZO
   simp only [decide_eq_false hi, cond_false]
 unfold zv y26
 simp only [y3d q q' t t' hs.1 hs.2.1 (fun n hn => Wi hs.2.2.1 hn), y3b l l' hs.2.2.2.1, y2y cs cs' hs.2.2.2.2.1, Option.bind_some]
 cases Jj eqI y4X q q' <;> cases Jj eqN yz t t' <;> try rfl
 cases Jj eqA YT l l' <;> cases Jj eqC zW cs cs' <;> try rfl
 by_cases he : vs.length = vs'.length
 ·simp only [y4N he, loop he]
  cases hz : z == z'
  ·simp [bne, hz]
  ·simp [bne, hz]
 ·simp only [y4O he, Q4 _ _ he]
  rfl
end
end Go.Proofs.YthgdjjdigalckaaGreat.Pl
namespace Go.Proofs.YthgdjjdigalckaaGreat.Pl
open Go.Proofs.YthgdjjdigalckaaGreat.R Go.Proofs.YthgdjjdigalckaaGreat.XB
section
variable {q : List yd} {t : List y0} {l : List ya} {cs : List y7} {vs : List ye} (z : Int) (h : SP q t l cs vs)
noncomputable def y5e (q : List yd) (t : List y0) (l : List ya) (cs : List y7) (vs : List ye) (z i s : Int) : Nat → Int → List yd → List y0 → List y7 → Option P7a
 | 0, _, q', t', cs' => some (if yQ q' t' l cs' (List.set vs (Int.toNat i) ((y8 vs i).1, (y8 vs i).2.1, s, (y8 vs i).2.2.2)) z = true then (q', t', l, cs', List.set vs (Int.toNat i) ((y8 vs i).1, (y8 vs i).2.1, s, (y8 vs i).2.2.2), z, 0) else (q, t, l, cs, vs, z, 6))
 | m + 1, b, q', t', cs' => match zo (q', t', l, cs', vs, z, i, b) with
  | some r => if r.1 = true then y5e q t l cs vs z i s m (b - 1) r.2.1 r.2.2.1 r.2.2.2.2.1 else some (q, t, l, cs, vs, z, 6)
  | none => none
include h
theorem yiW (i s : Int) (h0 : 0 ≤ i) (h1 : i < (vs.length : Int)) {q' : List yd} {t' : List y0} {cs' : List y7} (hS : SP q' t' l cs' vs) : SP q' t' l cs' (List.set vs (Int.toNat i) ((y8 vs i).1, (y8 vs i).2.1, s, (y8 vs i).2.2.2)) := by
 refine ⟨⟨hS.S.1, hS.S.2.1, hS.S.2.2.1, hS.S.2.2.2.1, hS.S.2.2.2.2.1, by rw [List.length_set]; exact h.S.2.2.2.2.2⟩, fun v hv => ?_⟩
 rcases List.mem_or_eq_of_mem_set hv with hv | rfl
 ·exact h.N v hv
 ·exact h.N (y8 vs i) (yZ zX vs i h0 h1)
theorem yhu (k0 : Int × Int × Bool × List yd × List y0 × List ya × List y7 × List ye × Int × Int × Int × List yd × List y0 × List ya × List y7 × List ye → Option P7a) (k1 : Int × Int × Bool × List yd × List y0 × List ya × List y7 × List ye × Int × Int × List yd × List y0 × List ya × Int × List y7 × List ye → Option P7a) (s i b : Int) (y : Int) (h0 : 0 ≤ i) (h1 : i < (vs.length : Int)) (hb : b ≤ 1000) (hb0 : -1000 ≤ b) (hs : 0 ≤ s)
  (f0 : ∀ ok q' t' cs', SP q' t' l cs' vs → k0 (s, i, ok, q, t, l, cs, vs, z, y, z, q', t', l, cs', vs) = if ok = true then y5e q t l cs vs z i s 0 0 q' t' cs' else some (q, t, l, cs, vs, z, 6))
  (f1 : ∀ ok q' t' cs', SP q' t' l cs' vs → k1 (s, i, ok, q, t, l, cs, vs, z, y, q', t', l, z, cs', vs) = if ok = true then y5e q t l cs vs z i s 0 0 q' t' cs' else some (q, t, l, cs, vs, z, 6)) :
  Zb k0 k1 (Sum.inl (s, i, true, b, q, t, l, cs, vs, z, y, z, q, t, l, cs, vs)) = y5e q t l cs vs z i s (b - s + 1).toNat b q t cs := by
 have z0 : ∀ b q' t' cs', y5e q t l cs vs z i s 0 0 q' t' cs' = y5e q t l cs vs z i s 0 b q' t' cs' := fun _ _ _ _ => rfl
 unfold Zb
 refine YH (step := Y9 k0 k1) (fun u : jQ => match u with | .inl u => (u.2.2.2.1 + 1).toNat + 1 | .inr u => (u.2.2.2.1 + 1).toNat)
  (fun u => match u with
   | .inl u => ∃ b ok q' t' cs', b ≤ 1000 ∧ -1000 ≤ b ∧ SP q' t' l cs' vs ∧ u = (s, i, ok, b, q, t, l, cs, vs, z, y, z, q', t', l, cs', vs)
   | .inr u => ∃ b ok q' t' cs', b ≤ 1000 ∧ -1001 ≤ b ∧ SP q' t' l cs' vs ∧ u = (s, i, ok, b, q, t, l, cs, vs, z, y, q', t', l, z, cs', vs))
  (fun u => match u with
   | .inl u => if u.2.2.1 = true then y5e q t l cs vs z i s (u.2.2.2.1 - s + 1).toNat u.2.2.2.1 u.2.2.2.2.2.2.2.2.2.2.2.2.1 u.2.2.2.2.2.2.2.2.2.2.2.2.2.1 u.2.2.2.2.2.2.2.2.2.2.2.2.2.2.2.1 else some (q, t, l, cs, vs, z, 6)
   | .inr u => if u.2.2.1 = true then y5e q t l cs vs z i s (u.2.2.2.1 - s + 1).toNat u.2.2.2.1 u.2.2.2.2.2.2.2.2.2.2.2.1 u.2.2.2.2.2.2.2.2.2.2.2.2.1 u.2.2.2.2.2.2.2.2.2.2.2.2.2.2.2.1 else some (q, t, l, cs, vs, z, 6)) ?_ _ ⟨b, true, q, t, cs, hb, hb0, h, rfl⟩ (by simp only; omega)
 intro again u hu hag
 cases u with
 | inl u =>
  obtain ⟨b, ok, q', t', cs', k1', k2', hS, rfl⟩ := hu
  unfold Y9
  simp only at hag ⊢
  by_cases hbs : b ≥ s
  ·cases ok with
   | false =>
    simp only [decide_eq_true hbs, cond_true, Option.bind_some, cond_false]
    exact f0 _ _ _ _ hS
   | true =>
    obtain ⟨r, q2, t2, cs2, e1, h2⟩ := jh z hS i b h0 h1
    have hw : Go.IntKind.wrap .i64 (b - 1) = b - 1 := w64 (by omega) (by omega)
    simp only [decide_eq_true hbs, cond_true, Option.bind_some, e1, hw, if_true]
    rw [show (b - s + 1).toNat = (b - 1 - s + 1).toNat + 1 by omega, y5e, e1]
    exact hag (.inr (s, i, r, b - 1, q, t, l, cs, vs, z, y, q2, t2, l, z, cs2, vs)) ⟨b - 1, r, q2, t2, cs2, by omega, by omega, h2, rfl⟩ (by simp only; omega)
  ·simp only [decide_eq_false hbs, cond_false, Option.bind_some]
   rw [show (b - s + 1).toNat = 0 by omega]
   exact f0 _ _ _ _ hS
 | inr u =>
  obtain ⟨b, ok, q', t', cs', k1', k2', hS, rfl⟩ := hu
  unfold Y9
  simp only at hag ⊢
  by_cases hbs : b ≥ s
  ·cases ok with
   | false =>
    simp only [decide_eq_true hbs, cond_true, Option.bind_some, cond_false]
    exact f1 _ _ _ _ hS
   | true =>
    obtain ⟨r, q2, t2, cs2, e1, h2⟩ := jh z hS i b h0 h1
    have hw : Go.IntKind.wrap .i64 (b - 1) = b - 1 := w64 (by omega) (by omega)
    simp only [decide_eq_true hbs, cond_true, Option.bind_some, e1, hw, if_true]
    rw [show (b - s + 1).toNat = (b - 1 - s + 1).toNat + 1 by omega, y5e, e1]
    exact hag (.inr (s, i, r, b - 1, q, t, l, cs, vs, z, y, q2, t2, l, z, cs2, vs)) ⟨b - 1, r, q2, t2, cs2, by omega, by omega, h2, rfl⟩ (by simp only; omega)
  ·simp only [decide_eq_false hbs, cond_false, Option.bind_some]
   rw [show (b - s + 1).toNat = 0 by omega]
   exact f1 _ _ _ _ hS
theorem yhv (k0 : Int × Int × Int × List yd × List y0 × List ya × List y7 × List ye × Int × Int × List yd × List y0 × List ya × List y7 × Int × List yd × List y0 × List ya × List y7 × List ye × List ye → Option P7a) (k1 : Int × Int × List yd × List y0 × List ya × List y7 × List ye × Int × Int × Int × List yd × List y0 × List ya × List y7 × List ye → Option P7a) (k2 : Int × Int × List yd × List y0 × List ya × List y7 × List ye × Int × Int × List yd × List y0 × List ya × List y7 × Int × List ye → Option P7a) (s i b : Int) (y : Int) (h0 : 0 ≤ i) (h1 : i < (vs.length : Int)) (hb : b ≤ 1000) (hb0 : -1000 ≤ b) (hs : 0 ≤ s)
  (f0 : ∀ q' t' cs', k0 (s, 6, i, q, t, l, cs, vs, z, z, q', t', l, cs', z, q, t, l, cs, vs, vs) = some (q, t, l, cs, vs, z, 6))
  (f1 : ∀ q' t' cs', SP q' t' l cs' vs → k1 (s, i, q, t, l, cs, vs, z, y, z, q', t', l, cs', vs) = y5e q t l cs vs z i s 0 0 q' t' cs')
  (f2 : ∀ q' t' cs', SP q' t' l cs' vs → k2 (s, i, q, t, l, cs, vs, z, y, q', t', l, cs', z, vs) = y5e q t l cs vs z i s 0 0 q' t' cs') :
  kD k0 k1 k2 (Sum.inl (s, i, b, q, t, l, cs, vs, z, y, z, q, t, l, cs, vs)) = y5e q t l cs vs z i s (b - s + 1).toNat b q t cs := by
 unfold kD
 refine YH (step := JU k0 k1 k2) (fun u : kC => match u with | .inl u => (u.2.2.1 + 1).toNat + 1 | .inr u => (u.2.2.1 + 1).toNat)
  (fun u => match u with
   | .inl u => ∃ b q' t' cs', b ≤ 1000 ∧ -1000 ≤ b ∧ SP q' t' l cs' vs ∧ u = (s, i, b, q, t, l, cs, vs, z, y, z, q', t', l, cs', vs)
   | .inr u => ∃ b q' t' cs', b ≤ 1000 ∧ -1001 ≤ b ∧ SP q' t' l cs' vs ∧ u = (s, i, b, q, t, l, cs, vs, z, y, q', t', l, cs', z, vs))
  (fun u => match u with
   | .inl u => y5e q t l cs vs z i s (u.2.2.1 - s + 1).toNat u.2.2.1 u.2.2.2.2.2.2.2.2.2.2.2.1 u.2.2.2.2.2.2.2.2.2.2.2.2.1 u.2.2.2.2.2.2.2.2.2.2.2.2.2.2.1
   | .inr u => y5e q t l cs vs z i s (u.2.2.1 - s + 1).toNat u.2.2.1 u.2.2.2.2.2.2.2.2.2.2.1 u.2.2.2.2.2.2.2.2.2.2.2.1 u.2.2.2.2.2.2.2.2.2.2.2.2.2.1) ?_ _ ⟨b, q, t, cs, hb, hb0, h, rfl⟩ (by simp only; omega)
 intro again u hu hag
 cases u with
 | inl u =>
  obtain ⟨b, q', t', cs', k1', k2', hS, rfl⟩ := hu
  unfold JU
  simp only at hag ⊢
  by_cases hbs : b ≥ s
  ·obtain ⟨r, q2, t2, cs2, e1, h2⟩ := jh z hS i b h0 h1
   have hw : Go.IntKind.wrap .i64 (b - 1) = b - 1 := w64 (by omega) (by omega)
   simp only [decide_eq_true hbs, cond_true, Option.bind_some, y0s z hS, e1, hw, y9F z h]
   rw [show (b - s + 1).toNat = (b - 1 - s + 1).toNat + 1 by omega, y5e, e1]
   cases r with
   | false => exact f0 _ _ _
   | true => exact hag (.inr (s, i, b - 1, q, t, l, cs, vs, z, y, q2, t2, l, cs2, z, vs)) ⟨b - 1, q2, t2, cs2, by omega, by omega, h2, rfl⟩ (by simp only; omega)
  ·simp only [decide_eq_false hbs, cond_false]
   rw [show (b - s + 1).toNat = 0 by omega]
   exact f1 _ _ _ hS
 | inr u =>
  obtain ⟨b, q', t', cs', k1', k2', hS, rfl⟩ := hu
  unfold JU
  simp only at hag ⊢
  by_cases hbs : b ≥ s
  ·obtain ⟨r, q2, t2, cs2, e1, h2⟩ := jh z hS i b h0 h1
   have hw : Go.IntKind.wrap .i64 (b - 1) = b - 1 := w64 (by omega) (by omega)
   simp only [decide_eq_true hbs, cond_true, Option.bind_some, y0s z hS, e1, hw, y9F z h]
   rw [show (b - s + 1).toNat = (b - 1 - s + 1).toNat + 1 by omega, y5e, e1]
   cases r with
   | false => exact f0 _ _ _
   | true => exact hag (.inr (s, i, b - 1, q, t, l, cs, vs, z, y, q2, t2, l, cs2, z, vs)) ⟨b - 1, q2, t2, cs2, by omega, by omega, h2, rfl⟩ (by simp only; omega)
  ·simp only [decide_eq_false hbs, cond_false]
   rw [show (b - s + 1).toNat = 0 by omega]
   exact f2 _ _ _ hS
theorem yb0 (n : ByteArray) (s : Int) (hn : n.size ≤ 60) : kE (q, t, l, cs, vs, z, n, s) = YP (q, t, l, cs, vs, z, n, s) := by
 unfold kE YP
 simp only [wj z h n (Wj hn), wk z h n (Wj hn), if_true, ws z h, y9F z h, zk q t l cs vs z _ h.S.2.2.2.2.2, Yz, YJ, Option.bind_some, y9O]
 cases hb : ZG q t l cs vs z n 0 == 0 with
 | false =>
  have hne : (ZG q t l cs vs z n 0 != 0) = true := by
   rw [bne, hb]
   rfl
  simp only [cond_false, Option.bind_some, hne, cond_true]
 | true =>
  have h0 : ZG q t l cs vs z n 0 = 0 := by simpa using hb
  cases hs : inR s 1 12 with
  | false => rfl
  | true =>
   have hne : (ZG q t l cs vs z n 0 != 0) = false := by
    rw [bne, hb]
    rfl
   simp only [cond_true, Option.bind_some, Bool.not_true, cond_false, hne]
   obtain ⟨hi, hp⟩ := y89 z h0
   have hs' := Z6.1 hs
   have hr := y9G z h hp hi.1 hi.2
   have hw : Go.IntKind.wrap .i64 ((y8 vs (yB vs n)).2.2.1 - 1) = (y8 vs (yB vs n)).2.2.1 - 1 := w64 (by omega) (by omega)
   have fS : ∀ (ok : Bool) q' t' cs', SP q' t' l cs' vs → (if (0 : Int) ≤ yB vs n then if yB vs n < ((List.length vs : Nat) : Int) then yG (q, t, l, cs, vs, z, q', t', l, cs', List.set vs (Int.toNat (yB vs n)) ((y8 vs (yB vs n)).1, (y8 vs (yB vs n)).2.1, s, (y8 vs (yB vs n)).2.2.2), z, ok) else none else none) = if ok = true then y5e q t l cs vs z (yB vs n) s 0 0 q' t' cs' else some (q, t, l, cs, vs, z, 6) := fun ok q' t' cs' hS => by
    rw [if_pos hi.1, if_pos hi.2, y2S z h (yiW h _ s hi.1 hi.2 hS)]
    cases ok with
    | false => rfl
    | true =>
     rw [y5e]
     simp
   have fI : ∀ q' t' cs', SP q' t' l cs' vs → (if (0 : Int) ≤ yB vs n then if yB vs n < ((List.length vs : Nat) : Int) then yU (q, t, l, cs, vs, z, q', t', l, cs', List.set vs (Int.toNat (yB vs n)) ((y8 vs (yB vs n)).1, (y8 vs (yB vs n)).2.1, s, (y8 vs (yB vs n)).2.2.2), z, true) else none else none) = y5e q t l cs vs z (yB vs n) s 0 0 q' t' cs' := fun q' t' cs' hS => by
    rw [if_pos hi.1, if_pos hi.2, vm z h (yiW h _ s hi.1 hi.2 hS), y5e]
    simp
   rw [if_pos hi.1, if_pos hi.2, if_pos hi.1, if_pos hi.2, hw]
   refine (yhv z h _ _ _ s (yB vs n) _ 0 hi.1 hi.2 (by omega) (by omega) (by omega) (fun _ _ _ => rfl) (fun q' t' cs' hS => fI q' t' cs' hS) (fun q' t' cs' hS => fI q' t' cs' hS)).trans (yhu z h _ _ s (yB vs n) _ 0 hi.1 hi.2 (by omega) (by omega) (by omega) (fun ok q' t' cs' hS => fS ok q' t' cs' hS) (fun ok q' t' cs' hS => fS ok q' t' cs' hS)).symm
end
theorem yeU (x : List Int) (hx : x.length ≤ 1099511627776) : ∃ c p s q t l cs vs z, zY x = some (c, p, s, q, t, l, cs, vs, z) ∧ YC c p ∧ SP q t l cs vs := by
 obtain ⟨s0, e0⟩ := ytK x hx
 obtain ⟨m, e1, m0, m1⟩ := ymb x 14 hx (by omega)
 obtain ⟨q, t, l, cs, vs, z, p3, s3, e3, h3, hS⟩ := y9K x 0 s0 m (yEe x hx) (by omega) (by omega)
 unfold zY
 simp only [e0, e1, e3, Option.bind_some]
 exact ⟨_, _, _, _, _, _, _, _, _, rfl, h3, hS⟩
theorem yeV (c : List Int) (p s : Int) (h : YC c p) : jX (zO (c, p, s)) c (fun v => v.size ≤ 60) := by
 unfold zO
 rw [y9O]
 exact yc5 c p s _ (by simp) (by simp) (by decide) h
theorem ytR (c : List Int) (p s : Int) (h : YC c p) : jX (wg (c, p, s)) c (fun _ => True) := by
 unfold wg
 rw [y9O]
 obtain ⟨v, p1, s1, e1, h1, _⟩ := Jf c p s [0, 0, 1, 2, 3, 5, 11, 12, -1] (by simp) (by simp) h
 exact ⟨v, p1, s1, e1, h1, trivial⟩
theorem Res.SP {q : List yd} {t : List y0} {l : List ya} {cs : List y7} {vs : List ye} {z : Int} (h : SP q t l cs vs) {o : Option P7a} (hr : Res q t l cs vs z o) : ∃ q' t' l' cs' vs' z' c, o = some (q', t', l', cs', vs', z', c) ∧ Pl.SP q' t' l' cs' vs' := by
 obtain ⟨q', t', l', cs', vs', z', c, e, hc⟩ := hr
 refine ⟨q', t', l', cs', vs', z', c, e, ?_⟩
 rcases hc with hc | hc
 ·exact (VY hc).sp
 ·simp only [Prod.mk.injEq] at hc
  obtain ⟨rfl, rfl, rfl, rfl, rfl, rfl⟩ := hc
  exact h
theorem qF {q : List yd} {t : List y0} {l : List ya} {cs : List y7} {vs : List ye} (z : Int) (h : SP q t l cs vs) : zv (q, t, l, cs, vs, z, q, t, l, cs, vs, z) = some true := by
 rw [y3e z h.S, y5d]
theorem law_DoesBent (x : List Int) : Yg x = some true := by
 unfold Yg y0y
 simp only [Option.bind_some]
 cases hbig : decide (((List.length x : Nat) : Int) > (1048576 : Int)) with
 | true => rfl
 | false =>
  have hx : x.length ≤ 1099511627776 := by
   have := of_decide_eq_false hbig
   omega
  obtain ⟨c, p, s, q, t, l, cs, vs, z, e, h, hS⟩ := yeU x hx
  obtain ⟨n, p1, s1, e1, h1, hn⟩ := yeV c p s h
  obtain ⟨m, p2, s2, e2, h2, hm⟩ := yeV c p1 s1 h1
  obtain ⟨fx, p3, s3, e3, h3, _⟩ := yaY c p2 s2 2 h2
  obtain ⟨sz, p4, s4, e4, h4, _⟩ := Jf c p1 s1 [1, 4, 12, 0, 13] (by simp) (by simp) h1
  obtain ⟨b, p5, s5, e5, h5, _⟩ := ytR c p1 s1 h1
  obtain ⟨w, p6, s6, e6, h6, _⟩ := Jf c p5 s5 [0, 5, 65535, 65536] (by simp) (by simp) h5
  obtain ⟨rz, p7, s7, e7, h7, _⟩ := Jf c p1 s1 [1, 2, 4, 12, 0, 13] (by simp) (by simp) h1
  have d1 : ja x = some (q, t, l, cs, vs, z, n, sz) := by
   unfold ja
   simp only [e, e1, e4, Option.bind_some]
  have d2 : JR x = some (q, t, l, cs, vs, z, n, m, fx) := by
   unfold JR
   simp only [e, e1, e2, e3, Option.bind_some]
  have d3 : JS x = some (q, t, l, cs, vs, z, n) := by
   unfold JS
   simp only [e, e1, Option.bind_some]
  have d4 : jT x = some (q, t, l, cs, vs, z, n, b, w) := by
   unfold jT
   simp only [e, e1, e5, e6, Option.bind_some]
  have d5 : JT x = some (q, t, l, cs, vs, z, n, b) := by
   unfold JT
   simp only [e, e1, e5, Option.bind_some]
  have d6 : jb x = some (q, t, l, cs, vs, z, n, rz) := by
   unfold jb
   simp only [e, e1, e7, Option.bind_some]
  obtain ⟨a1, a2, a3, a4, a5, a6, a7, ae, ah⟩ := (y9z z hS n sz hn).SP hS
  obtain ⟨b1, b2, b3, b4, b5, b6, b7, be, bh⟩ := (yeI z hS n m fx hn hm).SP hS
  obtain ⟨c1, c2, c3, c4, c5, c6, c7, ce, ch⟩ := (yeJ z hS n hn).SP hS
  obtain ⟨f1, f2, f3, f4, f5, f6, f7, fe, fh⟩ := (yc1 z hS n b w hn).SP hS
  obtain ⟨g1, g2, g3, g4, g5, g6, g7, ge, gh⟩ := (y62 z hS n b hn).SP hS
  obtain ⟨k1, k2, k3, k4, k5, k6, k7, ke, kh⟩ := (y9A z hS n rz hn).SP hS
  obtain ⟨⟨r1, r2⟩, re1, re2⟩ := yeQ z hS n b hn
  simp only [d1, d2, d3, d4, d5, d6, yaT z hS n sz hn, yeO z hS n m fx hn hm, yeP z hS n hn, ycW z hS n b w hn, y9H z hS n b hn, yb0 z hS n rz hn, ae, be, ce, fe, ge, ke, re1, re2, Option.bind_some, beq_self_eq_true, cond_true,
   qF a6 ah, qF b6 bh, qF c6 ch, qF f6 fh, qF g6 gh, qF k6 kh]
  rfl
end Go.Proofs.YthgdjjdigalckaaGreat.Pl
