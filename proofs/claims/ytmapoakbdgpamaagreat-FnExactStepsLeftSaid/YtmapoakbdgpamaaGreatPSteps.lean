/- SetSrt, Join, CopyPool, NodePut, JoinT, TreePut, CutAge, Prune, Prune2, Steps. No condition. -/
import Derived.Test.YtmapoakbdgpamaaGreatPPutPool0
set_option linter.all false
namespace Go.Proofs.YtmapoakbdgpamaaGreat.Pl
open Go.Proofs.YtmapoakbdgpamaaGreat.R Go.Proofs.YtmapoakbdgpamaaGreat.XP
theorem y3P {a b : y8} : VP a b = true ↔ a.1 < b.1 ∨ a.1 = b.1 ∧ a.2.1 < b.2.1 := by
 unfold VP
 by_cases h1 : a.1 < b.1
 ·simp [h1]
 ·by_cases h2 : a.1 = b.1 <;> simp [h1, h2]
theorem y8z {a b : y8} : VQ a b = true ↔ a.1 = b.1 ∧ a.2.1 = b.2.1 := by simp [VQ]
def srt (l : List y8) : Prop := l.Pairwise fun a b => VP a b = true
def ye9 : List y8 → y8 → List y8
 | [], k => [k]
 | c :: r, k => if VP c k = true then c :: ye9 r k else k :: (c :: r).filter fun x => !VQ x k
theorem yba (k : y8) : ∀ (l o : List y8), l.foldl (ji k) (true, o) = (true, o ++ l.filter fun x => !VQ x k)
 | [], o => by simp
 | c :: l, o => by
  rw [List.foldl_cons, List.filter_cons]
  have e : ji k (true, o) c = (true, if VQ c k then o else o ++ [c]) := by simp [ji]
  rw [e, yba k l]
  cases VQ c k <;> simp
def ykx (k : y8) (r : Bool × List y8) : List y8 := if r.1 then r.2 else r.2 ++ [k]
theorem y8A (k : y8) : ∀ (l o : List y8), ykx k (l.foldl (ji k) (false, o)) = o ++ ye9 l k
 | [], o => by simp [ye9, ykx]
 | c :: l, o => by
  rw [List.foldl_cons, ye9]
  cases hl : VP c k with
  | true =>
   have hs : VQ c k = false := by
    cases hs : VQ c k with
    | false => rfl
    | true =>
     rw [y3P] at hl
     rw [y8z] at hs
     omega
   have e : ji k (false, o) c = (false, o ++ [c]) := by simp [ji, hl, hs]
   rw [e, y8A k l (o ++ [c])]
   simp
  | false =>
   have e : ji k (false, o) c = (true, if VQ c k then o ++ [k] else o ++ [k] ++ [c]) := by simp [ji, hl]
   rw [e, yba]
   simp only [ykx, if_true, List.filter_cons, Bool.false_eq_true, if_false]
   cases VQ c k <;> simp
theorem y4W (l : List y8) (k : y8) : Jg l k = ye9 l k := by
 exact (y8A k l []).trans (List.nil_append _)
theorem y79 {k : y8} : ∀ {l : List y8} {x : y8}, x ∈ ye9 l k → x = k ∨ x ∈ l
 | [], x, h => by simpa [ye9] using h
 | c :: r, x, h => by
  rw [ye9] at h
  split at h
  ·rcases List.mem_cons.1 h with rfl | h
   ·exact .inr (by simp)
   ·rcases y79 h with h | h
    ·exact .inl h
    ·exact .inr (by simp [h])
  ·rcases List.mem_cons.1 h with rfl | h
   ·exact .inl rfl
   ·exact .inr (List.mem_filter.1 h).1
theorem ybb (k : y8) : ∀ (l : List y8), srt l → srt (ye9 l k)
 | [], _ => by simp [srt, ye9]
 | c :: r, h => by
  obtain ⟨h1, h2⟩ := List.pairwise_cons.1 h
  rw [ye9]
  split
  ·rename_i hl
   refine List.pairwise_cons.2 ⟨fun y hy => ?_, ybb k r h2⟩
   rcases y79 hy with rfl | hy
   ·exact hl
   ·exact h1 y hy
  ·rename_i hl
   refine List.pairwise_cons.2 ⟨fun y hy => ?_, List.Pairwise.filter _ h⟩
   obtain ⟨hy, hs⟩ := List.mem_filter.1 hy
   have hs' : ¬ (y.1 = k.1 ∧ y.2.1 = k.2.1) := fun e => by
    rw [y8z.2 e] at hs
    cases hs
   rw [y3P] at hl ⊢
   rcases List.mem_cons.1 hy with rfl | hy
   ·omega
   ·have := y3P.1 (h1 y hy)
    omega
theorem y4X {l : List y8} (k : y8) (h : srt l) : srt (Jg l k) := by rw [y4W]; exact ybb k l h
theorem y4Y {l : List y8} {k x : y8} (h : x ∈ Jg l k) : x = k ∨ x ∈ l := by rw [y4W] at h; exact y79 h
theorem y4Z : ∀ (b a : List y8), srt a → srt (wi a b)
 | [], _, h => h
 | c :: b, a, h => y4Z b _ (y4X c h)
theorem y50 : ∀ (b a : List y8) {x : y8}, x ∈ wi a b → x ∈ a ∨ x ∈ b
 | [], _, _, h => .inl h
 | c :: b, a, x, h => by
  rcases y50 b (Jg a c) h with h | h
  ·rcases y4Y h with rfl | h
   ·exact .inr (by simp)
   ·exact .inl h
  ·exact .inr (by simp [h])
theorem ybc : ∀ (l s : List y8), l.foldl vq s = s ++ l.filter fun c => !decide (c.2.2.1 = 0)
 | [], s => by simp
 | c :: l, s => by
  rw [List.foldl_cons, ybc l, List.filter_cons]
  unfold vq
  by_cases h : c.2.2.1 = 0 <;> simp [h]
theorem ybd (l : List y8) : y3y l = l.filter fun c => !decide (c.2.2.1 = 0) := by
 have := ybc l []
 simpa [y3y] using this
theorem y8B {l : List y8} (h : srt l) : srt (y3y l) := by rw [ybd]; exact List.Pairwise.filter _ h
theorem y8C {l : List y8} {x : y8} (h : x ∈ y3y l) : x ∈ l := by rw [ybd] at h; exact (List.mem_filter.1 h).1
theorem y8D : ∀ (n : List y9) (s : List y8), srt s → srt (n.foldl wi s)
 | [], _, h => h
 | c :: n, s, h => y8D n _ (y4Z c s h)
theorem y8E : ∀ (n : List y9) (s : List y8) {x : y8}, x ∈ n.foldl wi s → x ∈ s ∨ ∃ c ∈ n, x ∈ (show List y8 from c)
 | [], _, _, h => .inl h
 | c :: n, s, x, h => by
  rcases y8E n (wi s c) h with h | ⟨d, hd, hx⟩
  ·rcases y50 c s h with h | h
   ·exact .inl h
   ·exact .inr ⟨c, by simp, h⟩
  ·exact .inr ⟨d, by simp [hd], hx⟩
theorem yeb (n : List y9) : srt (yV n) := y8B (y8D n [] List.Pairwise.nil)
theorem yec {n : List y9} {x : y8} (h : x ∈ yV n) : ∃ c ∈ n, x ∈ (show List y8 from c) := by
 rcases y8E n [] (y8C h) with h | h
 ·cases h
 ·exact h
theorem y3Q {A : Type} {p : Int → A → Bool} (da : A) : ∀ (l : List A) (i : Int), (∀ j : Nat, j < l.length → p (i + j) (l.getD j da) = false) → Yj p l i = false
 | [], _, _ => rfl
 | a :: l, i, h => by
  rw [Yj, Bool.or_eq_false_iff]
  refine ⟨by simpa using h 0 (by simp), y3Q da l (i + 1) fun j hj => ?_⟩
  have := h (j + 1) (by simpa using hj)
  rw [List.getD_cons_succ] at this
  rw [show i + 1 + (j : Int) = i + ((j + 1 : Nat) : Int) by omega]
  exact this
theorem Qx {A : Type} (da : A) (l : List A) (j : Nat) (h : j < l.length) : l.getD j da = l[j] := by simp [List.getD, h]
theorem yed {l : List y8} (h : srt l) : Yj (w4 l) l 0 = false := by
 refine y3Q z0 l 0 fun j hj => ?_
 unfold w4
 cases j with
 | zero => simp
 | succ j =>
  have h2 := List.pairwise_iff_getElem.1 h j (j + 1) (by omega) hj (by omega)
  rw [show ((0 : Int) + ((j + 1 : Nat) : Int) - 1).toNat = j by omega, Qx _ _ _ (by omega), Qx _ _ _ hj, h2]
  simp
theorem yrW {l : List y8} (h : srt l) (hk : ∀ k ∈ l, JK k = true) (hl : l.length ≤ 60) : qt l = true := by
 unfold qt
 rw [yed h, y3Q z0 l 0 fun j hj => by
  rw [Qx _ _ _ hj, hk _ (List.getElem_mem hj)]
  rfl]
 simp
 omega
def zr (l : List y8) : List y9 := if l.length = 0 then [] else [l]
theorem ycb {l : List y8} (h : srt l) (hk : ∀ k ∈ l, JK k = true) (hl : l.length ≤ 8) : Ye (zr l) = true := by
 unfold zr
 split
 ·rfl
 ·rename_i h0
  have h1 := yrW h hk (by omega)
  have h2 : y07 0 l = (List.length l : Int) := by
   unfold y07
   rw [w64 (by omega) (by omega)]
   omega
  unfold Ye
  simp only [Yj, y14, h1, Bool.not_true, Bool.false_or, Bool.or_false, List.foldl_cons, List.foldl_nil, h2, List.length_cons, List.length_nil]
  rw [show (((List.length l : Nat) : Int) == 0) = false from beq_eq_false_iff_ne.2 (by omega)]
  simp
  omega
end Go.Proofs.YtmapoakbdgpamaaGreat.Pl
namespace Go.Proofs.YtmapoakbdgpamaaGreat.Pl
open Go.Proofs.YtmapoakbdgpamaaGreat.R Go.Proofs.YtmapoakbdgpamaaGreat.XP
theorem y2N {T A R : Type} {step : (T → Option R) → T → Option R} (da : A) (l : List A) (St0 : Int → T) (St1 : Int → List A → T) (k0 : Option R) (k1 : List A → Option R) (hl : l.length ≤ 1099511627776)
  (h0 : ∀ again i, 0 ≤ i → i < ((List.length l : Nat) : Int) → step again (St0 i) = again (St1 (i + 1) [l.getD i.toNat da]))
  (h1 : ∀ again i o, 0 ≤ i → i < ((List.length l : Nat) : Int) → List.length o ≤ List.length l → step again (St1 i o) = again (St1 (i + 1) (o ++ [l.getD i.toNat da])))
  (hd0 : ∀ again i, ¬ i < ((List.length l : Nat) : Int) → step again (St0 i) = k0)
  (hd1 : ∀ again i o, ¬ i < ((List.length l : Nat) : Int) → step again (St1 i o) = k1 o) : zt step zJ (St0 0) = if l.length = 0 then k0 else k1 l := by
 have key : ∀ (m : Nat) (i : Int), 0 ≤ i → i ≤ l.length → l.length - i.toNat < m → zt step m (St1 i (l.take i.toNat)) = k1 l := by
  intro m
  induction m with
  | zero => intro i _ _ h; omega
  | succ m ih =>
   intro i i0 i1 hm
   rw [zt]
   by_cases hi : i < ((List.length l : Nat) : Int)
   ·have e1 : (i + 1).toNat = i.toNat + 1 := by omega
    have e2 : l.take i.toNat ++ [l.getD i.toNat da] = l.take (i + 1).toNat := by
     rw [e1, List.take_succ_eq_append_getElem (by omega), y6X da l i i0 hi]
    rw [h1 _ i _ i0 hi (by rw [List.length_take]; omega), e2]
    exact ih (i + 1) (by omega) (by omega) (by omega)
   ·rw [hd1 _ i _ hi, List.take_of_length_le (by omega)]
 have hF : zJ = (zJ - 1) + 1 := by
  have := y0n
  omega
 rw [hF, zt]
 by_cases h : l.length = 0
 ·rw [if_pos h, hd0 _ 0 (by omega)]
 ·rw [if_neg h, h0 _ 0 (Int.le_refl _) (by omega)]
  have e : [l.getD (0 : Int).toNat da] = l.take (0 + 1 : Int).toNat := by
   cases l with
   | nil => simp at h
   | cons a l => rfl
  rw [e]
  exact key _ _ (by omega) (by omega) (by
   have := y0n
   omega)
theorem ysl {A : Type} (a : A) (k : Nat) (h : k < 140737488355328) : List.length [a] * k < 140737488355328 := by
 simp only [List.length_cons, List.length_nil]
 omega
end Go.Proofs.YtmapoakbdgpamaaGreat.Pl
namespace Go.Proofs.YtmapoakbdgpamaaGreat.Pl
open Go.Proofs.YtmapoakbdgpamaaGreat.R Go.Proofs.YtmapoakbdgpamaaGreat.XP
def y2k (n : y7) : Prop := List.length n ≤ 1048576 ∧ ∀ b ∈ (show List y9 from n), List.length b ≤ 1048576
theorem Vf (n : List y9) (h : y2k n) : z4 n = some n := by
 have h1 : n.length ≤ 1048576 := h.1
 have e : z4 n = if n.length = 0 then some ([] : List y9) else some n := by
  unfold z4 qS
  refine y2N (step := Yt _ _) yM n (fun i => Sum.inl (i, n)) (fun i o => Sum.inr (i, n, o)) _ (fun o => some o) (by omega) ?_ ?_ ?_ ?_
  ·intro again i i0 i1
   have hw : Go.IntKind.wrap .i64 (i + 1) = i + 1 := w64 (by omega) (by omega)
   have hr : List.length (yj n i) ≤ 1048576 := h.2 _ (zj yM n i i0 i1)
   simp only [Yt, Bool.cond_eq_ite, decide_eq_true_eq, i0, i1, if_true, hw]
   rw [if_pos (by simp only [List.length_nil]; omega), if_pos (ysl _ _ (by decide))]
   rfl
  ·intro again i o i0 i1 i2
   have hw : Go.IntKind.wrap .i64 (i + 1) = i + 1 := w64 (by omega) (by omega)
   have hr : List.length (yj n i) ≤ 1048576 := h.2 _ (zj yM n i i0 i1)
   simp only [Yt, Bool.cond_eq_ite, decide_eq_true_eq, i0, i1, if_true, hw]
   rw [if_pos (by simp only [List.length_nil]; omega), if_pos (by simp only [List.length_cons, List.length_nil]; omega)]
   rfl
  ·intro again i hi
   simp only [Yt, Bool.cond_eq_ite, decide_eq_true_eq, if_neg hi]
  ·intro again i o hi
   simp only [Yt, Bool.cond_eq_ite, decide_eq_true_eq, if_neg hi]
 rw [e]
 split
 ·rename_i h0
  rw [List.length_eq_zero_iff.1 h0]
 ·rfl
theorem kV (l : List y8) (h : l.length ≤ 1048576) : zO l = some l := by
 unfold zO
 rw [if_pos (by simp only [List.length_nil]; omega)]
 rfl
theorem kW (n : List y9) (h : y2k n) : zl n = some n := by
 have h1 : n.length ≤ 1048576 := h.1
 have e : zl n = if n.length = 0 then some ([] : List y9) else some n := by
  unfold zl Vu
  refine y2N (step := zY _ _) yM n (fun i => Sum.inl (n, ((List.length n : Nat) : Int), i)) (fun i o => Sum.inr (n, ((List.length n : Nat) : Int), i, o)) _ (fun o => some o) (by omega) ?_ ?_ ?_ ?_
  ·intro again i i0 i1
   have hw : Go.IntKind.wrap .i64 (i + 1) = i + 1 := w64 (by omega) (by omega)
   have hr : List.length (yj n i) ≤ 1048576 := h.2 _ (zj yM n i i0 i1)
   simp only [zY, Bool.cond_eq_ite, decide_eq_true_eq, i0, i1, if_true, hw, kV _ hr, Option.bind_some]
   rw [if_pos (ysl _ _ (by decide))]
   rfl
  ·intro again i o i0 i1 i2
   have hw : Go.IntKind.wrap .i64 (i + 1) = i + 1 := w64 (by omega) (by omega)
   have hr : List.length (yj n i) ≤ 1048576 := h.2 _ (zj yM n i i0 i1)
   simp only [zY, Bool.cond_eq_ite, decide_eq_true_eq, i0, i1, if_true, hw, kV _ hr, Option.bind_some]
   rw [if_pos (by simp only [List.length_cons, List.length_nil]; omega)]
   rfl
  ·intro again i hi
   simp only [zY, Bool.cond_eq_ite, decide_eq_true_eq, if_neg hi]
  ·intro again i o hi
   simp only [zY, Bool.cond_eq_ite, decide_eq_true_eq, if_neg hi]
 rw [e]
 split
 ·rename_i h0
  rw [List.length_eq_zero_iff.1 h0]
 ·rfl
theorem y0f (q : List yh) (t : List y7) (hq : q.length ≤ 1048576) (ht : t.length ≤ 1048576) (hn : ∀ n ∈ t, y2k n) : ZA (q, t) = some (q, t) := by
 have e : ZA (q, t) = if t.length = 0 then some (q, ([] : List y7)) else some (q, t) := by
  unfold ZA qT
  simp only [List.length_nil, List.nil_append]
  rw [if_pos (by omega)]
  refine y2N (step := Yu _ _) yr t (fun i => Sum.inl (i, q, t, q)) (fun i o => Sum.inr (i, q, t, q, o)) _ (fun o => some (q, o)) (by omega) ?_ ?_ ?_ ?_
  ·intro again i i0 i1
   have hw : Go.IntKind.wrap .i64 (i + 1) = i + 1 := w64 (by omega) (by omega)
   have hr : y2k (ya t i) := hn _ (zj yr t i i0 i1)
   simp only [Yu, Bool.cond_eq_ite, decide_eq_true_eq, i0, i1, if_true, hw, Vf _ hr, Option.bind_some]
   rw [if_pos (ysl _ _ (by decide))]
   rfl
  ·intro again i o i0 i1 i2
   have hw : Go.IntKind.wrap .i64 (i + 1) = i + 1 := w64 (by omega) (by omega)
   have hr : y2k (ya t i) := hn _ (zj yr t i i0 i1)
   simp only [Yu, Bool.cond_eq_ite, decide_eq_true_eq, i0, i1, if_true, hw, Vf _ hr, Option.bind_some]
   rw [if_pos (by simp only [List.length_cons, List.length_nil]; omega)]
   rfl
  ·intro again i hi
   simp only [Yu, Bool.cond_eq_ite, decide_eq_true_eq, if_neg hi]
  ·intro again i o hi
   simp only [Yu, Bool.cond_eq_ite, decide_eq_true_eq, if_neg hi]
 rw [e]
 split
 ·rename_i h0
  rw [List.length_eq_zero_iff.1 h0]
 ·rfl
theorem qu (l : List yh) (h : l.length ≤ 1048576) : Ze l = some l := by
 unfold Ze
 rw [if_pos (by simp only [List.length_nil]; omega)]
 rfl
theorem qv (q : List yh) (t : List y7) (hq : q.length ≤ 1048576) (ht : t.length ≤ 1048576) (hn : ∀ n ∈ t, y2k n) : zm (q, t) = some (q, t) := by
 have e : zm (q, t) = if t.length = 0 then some (q, ([] : List y7)) else some (q, t) := by
  unfold zm Vv
  simp only [qu q hq, Option.bind_some]
  refine y2N (step := zZ _ _) yr t (fun i => Sum.inl (t, ((List.length t : Nat) : Int), i, q)) (fun i o => Sum.inr (t, ((List.length t : Nat) : Int), i, q, o)) _ (fun o => some (q, o)) (by omega) ?_ ?_ ?_ ?_
  ·intro again i i0 i1
   have hw : Go.IntKind.wrap .i64 (i + 1) = i + 1 := w64 (by omega) (by omega)
   have hr : y2k (ya t i) := hn _ (zj yr t i i0 i1)
   simp only [zZ, Bool.cond_eq_ite, decide_eq_true_eq, i0, i1, if_true, hw, kW _ hr, Option.bind_some]
   rw [if_pos (ysl _ _ (by decide))]
   rfl
  ·intro again i o i0 i1 i2
   have hw : Go.IntKind.wrap .i64 (i + 1) = i + 1 := w64 (by omega) (by omega)
   have hr : y2k (ya t i) := hn _ (zj yr t i i0 i1)
   simp only [zZ, Bool.cond_eq_ite, decide_eq_true_eq, i0, i1, if_true, hw, kW _ hr, Option.bind_some]
   rw [if_pos (by simp only [List.length_cons, List.length_nil]; omega)]
   rfl
  ·intro again i hi
   simp only [zZ, Bool.cond_eq_ite, decide_eq_true_eq, if_neg hi]
  ·intro again i o hi
   simp only [zZ, Bool.cond_eq_ite, decide_eq_true_eq, if_neg hi]
 rw [e]
 split
 ·rename_i h0
  rw [List.length_eq_zero_iff.1 h0]
 ·rfl
theorem Qy (q : List yh) (t : List y7) (l : List yf) (cs : List yg) (vs : List yF) (z : Int) (h : small q t l cs vs) : z8 (q, t, l, cs, vs, z) = some (q, t, l, cs, vs, z) := by
 obtain ⟨h1, h2, h3, h4, h5, h6⟩ := h
 unfold z8 ZB
 simp only [y0f q t h1 h2 (fun n hn => kb h3 hn), Option.bind_some, List.length_nil, List.nil_append]
 rw [if_pos (by omega), if_pos (by omega)]
 simp only [Option.bind_some]
 rw [if_pos (by omega)]
theorem qw (q : List yh) (t : List y7) (l : List yf) (cs : List yg) (vs : List yF) (z : Int) (h : small q t l cs vs) : Yx (q, t, l, cs, vs, z) = some (q, t, l, cs, vs, z) := by
 obtain ⟨h1, h2, h3, h4, h5, h6⟩ := h
 unfold Yx Yw Yd
 simp only [qv q t h1 h2 (fun n hn => kb h3 hn), Option.bind_some, List.length_nil, List.nil_append]
 rw [if_pos (by omega)]
 simp only [Option.bind_some]
 rw [if_pos (by omega)]
 simp only [Option.bind_some]
 rw [if_pos (by omega)]
end Go.Proofs.YtmapoakbdgpamaaGreat.Pl
namespace Go.Proofs.YtmapoakbdgpamaaGreat.Pl
open Go.Proofs.YtmapoakbdgpamaaGreat.R Go.Proofs.YtmapoakbdgpamaaGreat.XP
structure NS (n : List y9) : Prop where
 len : n.length ≤ 1000
 sum : JJ VB n ≤ 1000
theorem NS.mem {n : List y9} (h : NS n) {s : y9} (hs : s ∈ n) : List.length s ≤ 1000 := by
 have h1 := (QE ka hs).1
 have h2 := h.sum
 have h3 : VB s = (List.length s : Int) := rfl
 omega
theorem NS.q {n : List y9} (h : NS n) : y2k n := ⟨Nat.le_trans h.len (by decide), fun b hb => Nat.le_trans (h.mem hb) (by decide)⟩
theorem NS.keys {n : List y9} (h : NS n) : (yV n).length ≤ 1000 := by
 have h1 := vr n
 have h2 := h.sum
 omega
def Wu (n : List y9) : y9 := n.getD (n.length - 1) yM
theorem y8F {n : List y9} (h : 0 < n.length) : Wu n ∈ n := by
 unfold Wu
 rw [Qx _ _ _ (by omega)]
 exact List.getElem_mem _
def Wv (n : List y9) (k : y8) : List y9 :=
 if 0 < n.length ∧ (List.length (Wu n) < 4 ∨ (vY (Wu n) k.1 k.2.1).2.2.2.2.2 = true) then n.set (n.length - 1) (Jg (Wu n) k) else n ++ [[k]]
def jj (n : List y9) (k : y8) : List y8 := y3y (Jg (yV n) k)
def zs (n : List y9) (k : y8) : List y9 × Bool :=
 if Ye (Wv n k) = true then (Wv n k, true) else if (jj n k).length > 8 then (n, false) else if Ye (zr (jj n k)) = true then (zr (jj n k), true) else (n, false)
theorem yee (l : List y8) : (y3y l).length ≤ l.length := by
 have := y3z l []
 simpa [y3y] using this
theorem y17 (n : List y9) (k : y8) : (jj n k).length ≤ (yV n).length + 1 := by
 have h1 := yee (Jg (yV n) k)
 have h2 := wh (yV n) k
 unfold jj
 omega
theorem Ww (l : List y8) (h : l.length ≤ 1048576) : yN l = some (zr l) := by
 unfold yN zr
 by_cases h0 : l.length = 0
 ·rw [if_pos h0, show (((List.length l : Nat) : Int) == 0) = true from beq_iff_eq.2 (by omega)]
  rfl
 ·rw [if_neg h0, show (((List.length l : Nat) : Int) == 0) = false from beq_eq_false_iff_ne.2 (by omega), cond_false, if_pos (by simp only [List.length_nil]; omega)]
  rfl
theorem Wx (l : List y8) (h : l.length ≤ 1048576) : zk l = some (zr l) := by
 unfold zk zr
 by_cases h0 : l.length = 0
 ·rw [if_pos h0, show (((List.length l : Nat) : Int) == 0) = true from beq_iff_eq.2 (by omega)]
  rfl
 ·rw [if_neg h0, show (((List.length l : Nat) : Int) == 0) = false from beq_eq_false_iff_ne.2 (by omega), cond_false, kV l h]
  rfl
theorem QL {l : List y8} (h : l.length ≤ 1000) : NS (zr l) := by
 unfold zr
 split
 ·exact ⟨by simp, by simp [JJ]⟩
 ·exact ⟨by simp, by simp [JJ, VB]; omega⟩
theorem y3R (l : List y8) : (zr l).length ≤ 1 ∧ JJ VB (zr l) ≤ l.length := by
 unfold zr
 split
 ·exact ⟨by simp, by simp [JJ]⟩
 ·exact ⟨by simp, by simp [JJ, VB]⟩
theorem yky {n : List y9} (i : Nat) (s : y9) (hi : i < n.length) : JJ VB (n.set i s) = JJ VB n - VB (n.getD i yM) + VB s := by
 induction n generalizing i with
 | nil => simp at hi
 | cons a n ih =>
  cases i with
  | zero =>
   rw [List.set_cons_zero, zR, zR]
   simp
   omega
  | succ i =>
   rw [List.set_cons_succ, zR, zR, ih i (by simpa using hi), List.getD_cons_succ]
   omega
theorem yef {A : Type} (w : A → Int) (l : List A) (a : A) : JJ w (l ++ [a]) = JJ w l + w a := by
 induction l with
 | nil => simp [JJ]
 | cons b l ih =>
  rw [List.cons_append, zR, zR, ih]
  omega
theorem y1z (n : List y9) (k : y8) : (Wv n k).length ≤ n.length + 1 ∧ JJ VB (Wv n k) ≤ JJ VB n + 1 := by
 unfold Wv
 split
 ·rename_i h
  have h1 := wh (Wu n) k
  have h2 : VB (Jg (Wu n) k) ≤ VB (Wu n) + 1 := by
   unfold VB
   have : List.length (Jg (Wu n) k) ≤ List.length (Wu n) + 1 := h1
   omega
  rw [List.length_set, yky _ _ (by omega)]
  have e : n.getD (n.length - 1) yM = Wu n := rfl
  rw [e]
  constructor <;> omega
 ·rw [yef, List.length_append]
  have e : VB [k] = 1 := rfl
  rw [e]
  exact ⟨Nat.le_refl _, Int.le_refl _⟩
theorem NS.small {n : List y9} (h1 : n.length ≤ 1001) (h2 : JJ VB n ≤ 1001) : n.length ≤ 1073741824 ∧ ∀ s ∈ n, List.length s ≤ 1073741824 := by
 refine ⟨by omega, fun s hs => ?_⟩
 have h3 := (QE ka hs).1
 have h4 : VB s = (List.length s : Int) := rfl
 omega
section
variable (n : List y9) (a b c d e : Int) (h : NS n)
include h
theorem y3S : JC (n, a, b, c, d, e) = some (zs n (a, b, c, d, e)) := by
 have hk := h.keys
 have hl := h.len
 have hs := h.sum
 have hW := y17 n (a, b, c, d, e)
 have hN := y3R (jj n (a, b, c, d, e))
 have hN2 := NS.small (n := zr (jj n (a, b, c, d, e))) (by omega) (by omega)
 have hO := y1z n (a, b, c, d, e)
 have hO2 := NS.small (n := Wv n (a, b, c, d, e)) (by omega) (by omega)
 have hw : Go.IntKind.wrap .i64 ((n.length : Int) - 1) = (n.length : Int) - 1 := w64 (by omega) (by omega)
 have hT : ∀ out, out = Wv n (a, b, c, d, e) → (Option.bind (zb out) fun r6 => bif r6 then some (out, true) else Option.bind (yx n) fun r7 => Option.bind (zo (r7, a, b, c, d, e)) fun r8 => Option.bind (zN r8) fun r9 => bif (decide (((List.length r9 : Nat) : Int) > (8 : Int))) then some (n, false) else Option.bind (yN r9) fun r11 => Option.bind (zb r11) fun r12 => bif (!r12) then some (n, false) else Option.bind (yN r9) fun r14 => some (r14, true)) = some (zs n (a, b, c, d, e)) := by
  rintro out rfl
  have e1 : zN (Jg (yV n) (a, b, c, d, e)) = some (jj n (a, b, c, d, e)) := Qo _ (by have := wh (yV n) (a, b, c, d, e); omega)
  simp only [Va _ hO2.1 hO2.2, YF n (by omega) (by omega), kj (yV n) a b c d e (by omega), e1, Ww (jj n (a, b, c, d, e)) (by omega), Va _ hN2.1 hN2.2, Option.bind_some]
  unfold zs
  cases Ye (Wv n (a, b, c, d, e)) with
  | true => rfl
  | false =>
   by_cases h8 : (jj n (a, b, c, d, e)).length > 8
   ·rw [decide_eq_true (show ((List.length (jj n (a, b, c, d, e)) : Nat) : Int) > 8 by omega), if_pos h8]
    rfl
   ·rw [decide_eq_false (show ¬ ((List.length (jj n (a, b, c, d, e)) : Nat) : Int) > 8 by omega), if_neg h8]
    cases Ye (zr (jj n (a, b, c, d, e))) <;> rfl
 unfold JC
 simp only [Vf n h.q, Option.bind_some, hw]
 by_cases h0 : n.length = 0
 ·have e1 : ¬ (0 < n.length ∧ (List.length (Wu n) < 4 ∨ (vY (Wu n) a b).2.2.2.2.2 = true)) := fun hh => by omega
  simp only [decide_eq_false (show ¬ ((n.length : Int) - 1 ≥ 0) by omega), cond_false, Option.bind_some]
  rw [if_pos (by simp only [List.length_cons, List.length_nil]; omega)]
  exact hT _ (by unfold Wv; rw [if_neg e1])
 ·have i0 : 0 ≤ (n.length : Int) - 1 := by omega
  have i1 : (n.length : Int) - 1 < ((List.length n : Nat) : Int) := by omega
  have hlm := h.mem (y8F (n := n) (by omega))
  have erd : yj n ((n.length : Int) - 1) = Wu n := by
   show n.getD ((n.length : Int) - 1).toNat yM = n.getD (n.length - 1) yM
   congr 1
   omega
  have etn : ((n.length : Int) - 1).toNat = n.length - 1 := by omega
  rw [decide_eq_true (show (n.length : Int) - 1 ≥ 0 from i0)]
  simp only [cond_true, i0, i1, if_true, erd, etn, y15 (Wu n) a b (by omega), kj (Wu n) a b c d e (by omega), Option.bind_some]
  by_cases h4 : List.length (Wu n) < 4
  ·rw [decide_eq_true (show ((List.length (Wu n) : Nat) : Int) < 4 by omega)]
   exact hT _ (by unfold Wv; rw [if_pos ⟨by omega, .inl h4⟩])
  ·rw [decide_eq_false (show ¬ ((List.length (Wu n) : Nat) : Int) < 4 by omega)]
   cases hA : (vY (Wu n) a b).2.2.2.2.2 with
   | true => exact hT _ (by unfold Wv; rw [if_pos ⟨by omega, .inr hA⟩])
   | false =>
    simp only [cond_false, Option.bind_some]
    rw [if_pos (by simp only [List.length_cons, List.length_nil]; omega)]
    exact hT _ (by
     unfold Wv
     rw [if_neg fun hh => ?_]
     rcases hh.2 with hh | hh
     ·exact h4 hh
     ·rw [hA] at hh
      cases hh)
theorem qx : zz (n, a, b, c, d, e) = some (jj n (a, b, c, d, e)) := by
 have hk := h.keys
 have hl := h.len
 have hs := h.sum
 have e1 : jJ (Jg (yV n) (a, b, c, d, e)) = some (jj n (a, b, c, d, e)) := y20 _ (by have := wh (yV n) (a, b, c, d, e); omega)
 unfold zz
 simp only [ZZ n (by omega) (by omega), V9 (yV n) a b c d e (by omega), e1, Option.bind_some]
theorem y3T : JI (n, a, b, c, d, e) = some (zs n (a, b, c, d, e)) := by
 have hk := h.keys
 have hl := h.len
 have hs := h.sum
 have hW := y17 n (a, b, c, d, e)
 have hN := y3R (jj n (a, b, c, d, e))
 have hN2 := NS.small (n := zr (jj n (a, b, c, d, e))) (by omega) (by omega)
 have hO := y1z n (a, b, c, d, e)
 have hO2 := NS.small (n := Wv n (a, b, c, d, e)) (by omega) (by omega)
 have hw : Go.IntKind.wrap .i64 ((n.length : Int) - 1) = (n.length : Int) - 1 := w64 (by omega) (by omega)
 have hT : ∀ out, out = Wv n (a, b, c, d, e) → (Option.bind (zp out) fun r5 => bif r5 then some (out, true) else Option.bind (zz (n, a, b, c, d, e)) fun r6 => Option.bind (zk r6) fun r7 => Option.bind (bif (decide (((List.length r6 : Nat) : Int) > (8 : Int))) then some true else Option.bind (zp r7) fun r9 => some (!r9)) fun u8 => bif u8 then some (n, false) else some (r7, true)) = some (zs n (a, b, c, d, e)) := by
  rintro out rfl
  simp only [Vb _ hO2.1 hO2.2, qx n a b c d e h, Wx (jj n (a, b, c, d, e)) (by omega), Vb _ hN2.1 hN2.2, Option.bind_some]
  unfold zs
  cases Ye (Wv n (a, b, c, d, e)) with
  | true => rfl
  | false =>
   by_cases h8 : (jj n (a, b, c, d, e)).length > 8
   ·rw [decide_eq_true (show ((List.length (jj n (a, b, c, d, e)) : Nat) : Int) > 8 by omega), if_pos h8]
    rfl
   ·rw [decide_eq_false (show ¬ ((List.length (jj n (a, b, c, d, e)) : Nat) : Int) > 8 by omega), if_neg h8]
    cases Ye (zr (jj n (a, b, c, d, e))) <;> rfl
 unfold JI
 simp only [kW n h.q, Option.bind_some, hw]
 by_cases h0 : n.length = 0
 ·have e1 : ¬ (0 < n.length ∧ (List.length (Wu n) < 4 ∨ (vY (Wu n) a b).2.2.2.2.2 = true)) := fun hh => by omega
  simp only [decide_eq_false (show ¬ ((n.length : Int) - 1 ≥ 0) by omega), cond_false, Option.bind_some]
  rw [if_pos (by simp only [List.length_cons, List.length_nil]; omega)]
  exact hT _ (by unfold Wv; rw [if_neg e1])
 ·have i0 : 0 ≤ (n.length : Int) - 1 := by omega
  have i1 : (n.length : Int) - 1 < ((List.length n : Nat) : Int) := by omega
  have hlm := h.mem (y8F (n := n) (by omega))
  have erd : yj n ((n.length : Int) - 1) = Wu n := by
   show n.getD ((n.length : Int) - 1).toNat yM = n.getD (n.length - 1) yM
   congr 1
   omega
  have etn : ((n.length : Int) - 1).toNat = n.length - 1 := by omega
  rw [decide_eq_true (show (n.length : Int) - 1 ≥ 0 from i0)]
  simp only [cond_true, i0, i1, if_true, erd, etn, y16 (Wu n) a b (by omega), V9 (Wu n) a b c d e (by omega), Option.bind_some]
  cases hA : (vY (Wu n) a b).2.2.2.2.2 with
  | true => exact hT _ (by unfold Wv; rw [if_pos ⟨by omega, .inr hA⟩])
  | false =>
   by_cases h4 : List.length (Wu n) < 4
   ·rw [decide_eq_true (show ((List.length (Wu n) : Nat) : Int) < 4 by omega)]
    exact hT _ (by unfold Wv; rw [if_pos ⟨by omega, .inl h4⟩])
   ·rw [decide_eq_false (show ¬ ((List.length (Wu n) : Nat) : Int) < 4 by omega)]
    simp only [cond_false, Option.bind_some]
    rw [if_pos (by simp only [List.length_cons, List.length_nil]; omega)]
    exact hT _ (by
     unfold Wv
     rw [if_neg fun hh => ?_]
     rcases hh.2 with hh | hh
     ·exact h4 hh
     ·rw [hA] at hh
      cases hh)
end
end Go.Proofs.YtmapoakbdgpamaaGreat.Pl
namespace Go.Proofs.YtmapoakbdgpamaaGreat.Pl
open Go.Proofs.YtmapoakbdgpamaaGreat.R Go.Proofs.YtmapoakbdgpamaaGreat.XP
structure TS (t : List y7) : Prop where
 len : t.length ≤ 100
 node : ∀ n ∈ t, NS n
theorem TS.ok {t : List y7} (h : TS t) : TOk t := by
 have hl := h.len
 refine ⟨by omega, fun n hn => Nat.le_trans (h.node n hn).len (by decide), ?_⟩
 have hb : ∀ (t : List y7), (∀ n ∈ t, NS n) → JJ vx t ≤ 2000 * t.length := by
  intro t
  induction t with
  | nil => intro _; simp [JJ]
  | cons a t ih =>
   intro hn
   have h1 := ih fun n h => hn n (by simp [h])
   have h2 := hn a (by simp)
   have h3 : vx a = (List.length a : Int) + JJ VB a := rfl
   have h4 : List.length a ≤ 1000 := h2.len
   have h5 : JJ VB a ≤ 1000 := h2.sum
   rw [zR, List.length_cons]
   omega
 have := hb t h.node
 omega
def zn {A : Type} (l : List A) (i c : Nat) (m : List A) : List A := l.take i ++ m ++ l.drop (i + c)
theorem Jf {A : Type} (l : List A) (i c : Nat) (m : List A) (h : i + c ≤ l.length) : (zn l i c m).length = l.length + m.length - c := by
 unfold zn
 simp only [List.length_append, List.length_take, List.length_drop]
 omega
theorem ycc {A : Type} {l : List A} {i c : Nat} {m : List A} {x : A} (h : x ∈ zn l i c m) : x ∈ l ∨ x ∈ m := by
 unfold zn at h
 rcases List.mem_append.1 h with h | h
 ·rcases List.mem_append.1 h with h | h
  ·exact .inl (List.mem_of_mem_take h)
  ·exact .inr h
 ·exact .inl (List.mem_of_mem_drop h)
theorem y51 {A : Type} (l : List A) (i : Nat) (x : A) (h : i < l.length) : zn l i 1 [x] = l.set i x := by
 unfold zn
 rw [List.set_eq_take_append_cons_drop, if_pos h]
 simp
theorem ycd {A : Type} (d : A) (l : List A) (i : Nat) (h : i + 2 ≤ l.length) : zn l i 2 [l.getD i d] = l.take (i + 1) ++ l.drop (i + 2) := by
 unfold zn
 rw [Qx _ _ _ (by omega), List.take_succ_eq_append_getElem (by omega)]
theorem TS.splice {t : List y7} (h : TS t) {i c : Nat} {m : List y7} (hl : (zn t i c m).length ≤ 100) (hm : ∀ n ∈ m, NS n) : TS (zn t i c m) :=
 ⟨hl, fun n hn => (ycc hn).elim (h.node n) (hm n)⟩
theorem VU (q : List Int) (t : List y7) (i : Int) (ql : List Int) (tl : List y7) (h0 : 0 ≤ i) (h1 : i < (q.length : Int)) (h2 : i < (t.length : Int)) (hq : q.length ≤ 1000) (ht : t.length ≤ 1000) (hql : ql.length ≤ 1000) (htl : tl.length ≤ 1000) :
  jF (q, t, i, ql, tl) = some (zn q i.toNat 1 ql, zn t i.toNat 1 tl) := by
 have hw : Go.IntKind.wrap .i64 (i + 1) = i + 1 := w64 (by omega) (by omega)
 have e1 : (i + 1).toNat = i.toNat + 1 := by omega
 unfold jF
 simp only [hw]
 iterate 18 rw [if_pos (by first | omega | (simp only [List.length_append, List.length_drop, List.length_take, List.length_nil]; omega))]
 simp [zn, e1]
theorem kX (q : List Int) (t : List y7) (i c : Int) (ql : List Int) (tl : List y7) (h0 : 0 ≤ i) (hc : 0 ≤ c) (h1 : i + c ≤ (q.length : Int)) (h2 : i + c ≤ (t.length : Int)) (hq : q.length ≤ 1000) (ht : t.length ≤ 1000) (hql : ql.length ≤ 1000) (htl : tl.length ≤ 1000) :
  zP (q, t, i, c, ql, tl) = some (zn q i.toNat c.toNat ql, zn t i.toNat c.toNat tl) := by
 have hw : Go.IntKind.wrap .i64 (i + c) = i + c := w64 (by omega) (by omega)
 have e1 : (i + c).toNat = i.toNat + c.toNat := by omega
 have e2 : List.drop (Int.toNat 0) (List.take (Int.toNat i) q) = q.take i.toNat := rfl
 unfold zP
 simp only [hw]
 iterate 3 rw [if_pos (by omega)]
 rw [e2, qu _ (by rw [List.length_take]; omega)]
 simp only [Option.bind_some]
 iterate 14 rw [if_pos (by first | omega | (simp only [List.length_append, List.length_drop, List.length_take, List.length_nil]; omega))]
 simp [zn, e1]
def yW : List y7 → Int → Int
 | a :: b :: r, i => if (yV a).length + (yV b).length ≤ 6 then i else yW (b :: r) (i + 1)
 | _, _ => -1
theorem y3U (l : List y7) (i : Int) (h : l.length ≤ 1) : yW l i = -1 := by
 match l, h with
 | [], _ => rfl
 | [_], _ => rfl
theorem y52 : ∀ (l : List y7) (i : Int), yW l i = -1 ∨ i ≤ yW l i ∧ yW l i + 2 ≤ i + l.length ∧ (yV (l.getD (yW l i - i).toNat yr)).length + (yV (l.getD (yW l i - i + 1).toNat yr)).length ≤ 6
 | [], _ => .inl rfl
 | [_], _ => .inl rfl
 | a :: b :: r, i => by
  rw [yW]
  by_cases h : (yV a).length + (yV b).length ≤ 6
  ·rw [if_pos h]
   refine .inr ⟨Int.le_refl _, by simp only [List.length_cons]; omega, ?_⟩
   rw [show (i - i).toNat = 0 by omega, show (i - i + 1).toNat = 1 by omega]
   exact h
  ·rw [if_neg h]
   rcases y52 (b :: r) (i + 1) with h1 | ⟨h1, h2, h3⟩
   ·exact .inl h1
   ·refine .inr ⟨by omega, by simp only [List.length_cons] at h2 ⊢; omega, ?_⟩
    rw [show (yW (b :: r) (i + 1) - i).toNat = (yW (b :: r) (i + 1) - (i + 1)).toNat + 1 by omega, show (yW (b :: r) (i + 1) - i + 1).toNat = (yW (b :: r) (i + 1) - (i + 1) + 1).toNat + 1 by omega, List.getD_cons_succ, List.getD_cons_succ]
    exact h3
theorem ybe (t : List y7) (i : Int) (h0 : 0 ≤ i) (h1 : i + 1 < (t.length : Int)) : yW (t.drop i.toNat) i = if (yV (ya t i)).length + (yV (ya t (i + 1))).length ≤ 6 then i else yW (t.drop (i + 1).toNat) (i + 1) := by
 rw [Zm yr t i h0 (by omega), Zm yr t (i + 1) (by omega) h1, yW]
 rfl
theorem nk {t : List y7} (h : TS t) {i : Int} (h0 : 0 ≤ i) (h1 : i < (t.length : Int)) : NS (ya t i) := h.node _ (zj yr t i h0 h1)
theorem VV {t : List y7} (h : TS t) {i : Int} (h0 : 0 ≤ i) (h1 : i < (t.length : Int)) : yx (ya t i) = some (yV (ya t i)) := by
 have hn := nk h h0 h1
 exact YF _ (Nat.le_trans hn.len (by decide)) (Int.le_trans hn.sum (by decide))
theorem y3V {t : List y7} (h : TS t) {i : Int} (h0 : 0 ≤ i) (h1 : i < (t.length : Int)) : yG (ya t i) = some (yV (ya t i)) := by
 have hn := nk h h0 h1
 exact ZZ _ (Nat.le_trans hn.len (by decide)) (Int.le_trans hn.sum (by decide))
theorem y23 (q : List Int) (t : List y7) (h : TS t) : J9 (q, t) = some (yW t 0) := by
 have hl := h.len
 unfold J9 Q5
 refine Yi (step := W3 _ _) (fun x : Int × List Int × List y7 => t.length - x.1.toNat) (fun x => x.2.2 = t ∧ 0 ≤ x.1 ∧ x.1 ≤ (t.length : Int)) (fun x => some (yW (t.drop x.1.toNat) x.1)) ?_ (0, q, t) ⟨rfl, Int.le_refl _, by simp⟩ (by simp; omega)
 rintro again ⟨i, q', t'⟩ ⟨rfl, i0, i1⟩ hag
 simp only at i0 i1 hl h ⊢
 unfold W3
 by_cases hi : i + 1 < (t'.length : Int)
 ·have hw : Go.IntKind.wrap .i64 (i + 1) = i + 1 := w64 (by omega) (by omega)
  have k1 := nk h i0 (show i < (t'.length : Int) by omega)
  have k2 := nk h (show 0 ≤ i + 1 by omega) hi
  have hw2 : Go.IntKind.wrap .i64 (((List.length (yV (ya t' i)) : Nat) : Int) + ((List.length (yV (ya t' (i + 1))) : Nat) : Int)) = ((List.length (yV (ya t' i)) : Nat) : Int) + ((List.length (yV (ya t' (i + 1))) : Nat) : Int) := w64 (by omega) (by have := k1.keys; have := k2.keys; omega)
  simp only [hw, VV h i0 (show i < (t'.length : Int) by omega), VV h (show 0 ≤ i + 1 by omega) hi, Option.bind_some, hw2]
  rw [decide_eq_true hi, cond_true, if_pos i0, if_pos (by omega), if_pos (by omega), if_pos hi, ybe t' i i0 hi]
  by_cases h6 : (yV (ya t' i)).length + (yV (ya t' (i + 1))).length ≤ 6
  ·rw [decide_eq_true (show ((List.length (yV (ya t' i)) : Nat) : Int) + ((List.length (yV (ya t' (i + 1))) : Nat) : Int) ≤ 6 by omega), if_pos h6]
   rfl
  ·rw [decide_eq_false (show ¬ ((List.length (yV (ya t' i)) : Nat) : Int) + ((List.length (yV (ya t' (i + 1))) : Nat) : Int) ≤ 6 by omega), if_neg h6]
   exact hag _ ⟨rfl, by simp only; omega, by simp only; omega⟩ (by simp only; omega)
 ·have hw : ¬ Go.IntKind.wrap .i64 (i + 1) < (t'.length : Int) := by
   rw [w64 (by omega) (by omega)]
   exact hi
  rw [decide_eq_false hw, y3U _ _ (by rw [List.length_drop]; omega)]
  rfl
def w5 : Nat → List Int → List y7 → List Int × List y7
 | 0, q, t => (q, t)
 | m + 1, q, t => if yW t 0 < 0 then (q, t) else w5 m (zn q (yW t 0).toNat 2 [q.getD (yW t 0).toNat 0]) (zn t (yW t 0).toNat 2 [zr (yV (t.getD (yW t 0).toNat yr) ++ yV (t.getD (yW t 0 + 1).toNat yr))])
section
variable {q : List Int} {t : List y7} (h : TS t) (hq : q.length = t.length) (hp : ¬ yW t 0 < 0)
include h hp
omit h in
theorem y7a : 0 ≤ yW t 0 ∧ yW t 0 + 2 ≤ (t.length : Int) ∧ (yV (ya t (yW t 0))).length + (yV (ya t (yW t 0 + 1))).length ≤ 6 := by
 rcases y52 t 0 with h1 | ⟨h1, h2, h3⟩
 ·omega
 ·refine ⟨h1, by omega, ?_⟩
  rw [Int.sub_zero] at h3
  exact h3
theorem yaf : TS (zn t (yW t 0).toNat 2 [zr (yV (ya t (yW t 0)) ++ yV (ya t (yW t 0 + 1)))]) := by
 obtain ⟨h1, h2, h3⟩ := y7a hp
 have hl := h.len
 refine h.splice (by rw [Jf _ _ _ _ (by omega)]; simp only [List.length_cons, List.length_nil]; omega) fun n hn => ?_
 obtain rfl := List.mem_singleton.1 hn
 exact QL (by rw [List.length_append]; omega)
include hq
theorem ybf : (zn t (yW t 0).toNat 2 [zr (yV (ya t (yW t 0)) ++ yV (ya t (yW t 0 + 1)))]).length = t.length - 1 ∧ (zn q (yW t 0).toNat 2 [q.getD (yW t 0).toNat 0]).length = t.length - 1 := by
 obtain ⟨h1, h2, h3⟩ := y7a hp
 rw [Jf _ _ _ _ (by omega), Jf _ _ _ _ (by omega)]
 simp only [List.length_cons, List.length_nil]
 omega
theorem y53 : w5 t.length q t = w5 (t.length - 1) (zn q (yW t 0).toNat 2 [q.getD (yW t 0).toNat 0]) (zn t (yW t 0).toNat 2 [zr (yV (ya t (yW t 0)) ++ yV (ya t (yW t 0 + 1)))]) := by
 obtain ⟨h1, h2, h3⟩ := y7a hp
 rw [show t.length = (t.length - 1) + 1 by omega, w5, if_neg hp]
 rfl
end
theorem y8G {q : List Int} {t : List y7} (m : Nat) (hp : yW t 0 < 0) : w5 m q t = (q, t) := by
 cases m with
 | zero => rfl
 | succ m => rw [w5, if_pos hp]
theorem y8H (q : List Int) (t : List y7) (h : TS t) (hq : q.length = t.length) : YP (q, t) = some (w5 t.length q t) := by
 have hl := h.len
 unfold YP Q6
 simp only [y23 q t h, Option.bind_some]
 refine Yi (step := W4 _) (fun x : Int × List Int × List y7 => x.2.2.length) (fun x => TS x.2.2 ∧ x.2.1.length = x.2.2.length ∧ x.1 = yW x.2.2 0) (fun x => some (w5 x.2.2.length x.2.1 x.2.2)) ?_ (yW t 0, q, t) ⟨h, hq, rfl⟩ (by simp only; omega)
 rintro again ⟨i, q, t⟩ ⟨h, hq, hi⟩ hag
 simp only at h hq hi ⊢
 subst hi
 have hl := h.len
 unfold W4
 by_cases hp : yW t 0 < 0
 ·rw [decide_eq_false (show ¬ yW t 0 ≥ 0 by omega), y8G _ hp]
  rfl
 ·obtain ⟨h1, h2, h3⟩ := y7a hp
  have hw : Go.IntKind.wrap .i64 (yW t 0 + 1) = yW t 0 + 1 := w64 (by omega) (by omega)
  have hw2 : Go.IntKind.wrap .i64 (yW t 0 + 2) = yW t 0 + 2 := w64 (by omega) (by omega)
  have hT := yaf h hp
  have hL := ybf h hq hp
  have eq1 : ([] ++ List.drop (Int.toNat 0) (List.take (Int.toNat (yW t 0 + 1)) q)) ++ List.drop (Int.toNat (yW t 0 + 2)) (List.take (Int.toNat (q.length : Int)) q) = zn q (yW t 0).toNat 2 [q.getD (yW t 0).toNat 0] := by
   rw [ycd 0 q _ (by omega), show (yW t 0 + 1).toNat = (yW t 0).toNat + 1 by omega, show (yW t 0 + 2).toNat = (yW t 0).toNat + 2 by omega]
   simp
  have eq2 : ∀ n : y7, (([] ++ List.drop (Int.toNat 0) (List.take (Int.toNat (yW t 0)) t)) ++ [n]) ++ List.drop (Int.toNat (yW t 0 + 2)) (List.take (Int.toNat (t.length : Int)) t) = zn t (yW t 0).toNat 2 [n] := fun n => by
   rw [show (yW t 0 + 2).toNat = (yW t 0).toNat + 2 by omega]
   simp [zn]
  simp only [hw, hw2, VV h h1 (show yW t 0 < (t.length : Int) by omega), VV h (show 0 ≤ yW t 0 + 1 by omega) (show yW t 0 + 1 < (t.length : Int) by omega), Ww (yV (ya t (yW t 0)) ++ yV (ya t (yW t 0 + 1))) (by rw [List.length_append]; omega), Option.bind_some, eq1, eq2, y23 _ _ hT]
  rw [decide_eq_true (show yW t 0 ≥ 0 from h1), cond_true]
  iterate 22 rw [if_pos (by first | omega | (simp only [List.length_append, List.length_drop, List.length_take, List.length_nil, List.length_cons]; omega))]
  rw [y53 h hq hp, ← hL.1]
  exact hag (yW (zn t (yW t 0).toNat 2 [zr (yV (ya t (yW t 0)) ++ yV (ya t (yW t 0 + 1)))]) 0, zn q (yW t 0).toNat 2 [q.getD (yW t 0).toNat 0], zn t (yW t 0).toNat 2 [zr (yV (ya t (yW t 0)) ++ yV (ya t (yW t 0 + 1)))]) ⟨hT, hL.2.trans hL.1.symm, rfl⟩ (by simp only; omega)
theorem y4d (q : List Int) (t : List y7) (h : TS t) (hq : q.length = t.length) : YX (q, t) = some (w5 t.length q t) := by
 have hl := h.len
 unfold YX Ql
 have key : ∀ (i : Int) (q : List Int) (t : List y7) (k1 k2 : Int × List Int × List y7 → Option (List Int × List y7)), TS t → q.length = t.length → 0 ≤ i → i ≤ (t.length : Int) → yW t 0 = yW (t.drop i.toNat) i →
   (∀ i' q' t', TS t' → q'.length = t'.length → 0 ≤ i' → i' ≤ (t'.length : Int) → yW t' 0 = yW (t'.drop i'.toNat) i' → t'.length * 1000 + (t'.length - i'.toNat) < t.length * 1000 + (t.length - i.toNat) → k1 (i', q', t') = some (w5 t'.length q' t') ∧ k2 (i', q', t') = some (w5 t'.length q' t')) →
   (bif (decide ((Go.IntKind.wrap .i64 (i + (1 : Int))) < ((List.length t : Nat) : Int))) then if (0 : Int) ≤ i then if i < ((List.length t : Nat) : Int) then Option.bind (yG (ya t i)) fun r5 => if (0 : Int) ≤ (Go.IntKind.wrap .i64 (i + (1 : Int))) then if (Go.IntKind.wrap .i64 (i + (1 : Int))) < ((List.length t : Nat) : Int) then Option.bind (yG (ya t (Go.IntKind.wrap .i64 (i + (1 : Int))))) fun r6 => if (List.length r5 + List.length r6) * 40 < 140737488355328 then bif (decide (((List.length (r5 ++ r6) : Nat) : Int) ≤ (6 : Int))) then if (0 : Int) ≤ i then if i < ((List.length q : Nat) : Int) then Option.bind (zk (r5 ++ r6)) fun r7 => Option.bind (zP (q, t, i, (2 : Int), ([(z9 q i)] : List yh), ([r7] : List y7))) fun r8 => k1 ((Go.IntKind.wrap .i64 ((-1 : Int) + (1 : Int))), r8.1, r8.2) else none else none else k2 ((Go.IntKind.wrap .i64 (i + (1 : Int))), q, t) else none else none else none else none else none else some (q, t)) = some (w5 t.length q t) := by
  intro i q t k1 k2 h hq i0 i1 hpi hk
  have hl := h.len
  have hw : Go.IntKind.wrap .i64 (i + 1) = i + 1 := w64 (by omega) (by omega)
  have hw0 : Go.IntKind.wrap .i64 (-1 + 1) = 0 := rfl
  simp only [hw, hw0]
  by_cases hi : i + 1 < (t.length : Int)
  ·have g1 := (nk h i0 (show i < (t.length : Int) by omega)).keys
   have g2 := (nk h (show 0 ≤ i + 1 by omega) hi).keys
   rw [ybe t i i0 hi] at hpi
   simp only [y3V h i0 (show i < (t.length : Int) by omega), y3V h (show 0 ≤ i + 1 by omega) hi, Option.bind_some]
   rw [decide_eq_true hi, cond_true, if_pos i0, if_pos (by omega), if_pos (by omega), if_pos hi, if_pos (by omega)]
   by_cases h6 : (yV (ya t i)).length + (yV (ya t (i + 1))).length ≤ 6
   ·rw [if_pos h6] at hpi
    subst hpi
    have hp : ¬ yW t 0 < 0 := by omega
    have hT := yaf h hp
    have hL := ybf h hq hp
    rw [decide_eq_true (show ((List.length (yV (ya t (yW t 0)) ++ yV (ya t (yW t 0 + 1))) : Nat) : Int) ≤ 6 by rw [List.length_append]; omega), cond_true, if_pos i0, if_pos (by omega), Wx _ (by rw [List.length_append]; omega)]
    simp only [Option.bind_some]
    rw [kX q t _ 2 _ _ i0 (by decide) (by omega) (by omega) (by omega) (by omega) (by simp) (by simp)]
    simp only [Option.bind_some]
    rw [y53 h hq hp, ← hL.1]
    exact (hk 0 (zn q (yW t 0).toNat 2 [q.getD (yW t 0).toNat 0]) (zn t (yW t 0).toNat 2 [zr (yV (ya t (yW t 0)) ++ yV (ya t (yW t 0 + 1)))]) hT (hL.2.trans hL.1.symm) (Int.le_refl _) (by omega) rfl (by omega)).1
   ·rw [if_neg h6] at hpi
    rw [decide_eq_false (show ¬ ((List.length (yV (ya t i) ++ yV (ya t (i + 1))) : Nat) : Int) ≤ 6 by rw [List.length_append]; omega), cond_false]
    exact (hk (i + 1) q t h hq (by omega) (by omega) hpi (by omega)).2
  ·rw [y3U (t.drop i.toNat) i (by rw [List.length_drop]; omega)] at hpi
   rw [decide_eq_false hi, y8G _ (by omega)]
   rfl
 refine Yi (step := vo _ _) (fun x : (Int × List Int × List y7) ⊕ (Int × List Int × List y7) => (Sum.elim id id x).2.2.length * 1000 + ((Sum.elim id id x).2.2.length - (Sum.elim id id x).1.toNat)) (fun x => TS (Sum.elim id id x).2.2 ∧ (Sum.elim id id x).2.1.length = (Sum.elim id id x).2.2.length ∧ 0 ≤ (Sum.elim id id x).1 ∧ (Sum.elim id id x).1 ≤ ((Sum.elim id id x).2.2.length : Int) ∧ yW (Sum.elim id id x).2.2 0 = yW ((Sum.elim id id x).2.2.drop (Sum.elim id id x).1.toNat) (Sum.elim id id x).1)
  (fun x => some (w5 (Sum.elim id id x).2.2.length (Sum.elim id id x).2.1 (Sum.elim id id x).2.2)) ?_ (Sum.inl (0, q, t)) ⟨h, hq, Int.le_refl _, by simp, rfl⟩ (by simp; omega)
 rintro again (⟨i, q, t⟩ | ⟨i, q, t⟩) ⟨h, hq, i0, i1, hpi⟩ hag
 ·exact key i q t (fun x => again (Sum.inr x)) (fun x => again (Sum.inl x)) h hq i0 i1 hpi fun i' q' t' a1 a2 a3 a4 a5 a6 => ⟨hag (Sum.inr (i', q', t')) ⟨a1, a2, a3, a4, a5⟩ a6, hag (Sum.inl (i', q', t')) ⟨a1, a2, a3, a4, a5⟩ a6⟩
 ·exact key i q t (fun x => again (Sum.inr x)) (fun x => again (Sum.inr x)) h hq i0 i1 hpi fun i' q' t' a1 a2 a3 a4 a5 a6 => ⟨hag (Sum.inr (i', q', t')) ⟨a1, a2, a3, a4, a5⟩ a6, hag (Sum.inr (i', q', t')) ⟨a1, a2, a3, a4, a5⟩ a6⟩
end Go.Proofs.YtmapoakbdgpamaaGreat.Pl
namespace Go.Proofs.YtmapoakbdgpamaaGreat.Pl
open Go.Proofs.YtmapoakbdgpamaaGreat.R Go.Proofs.YtmapoakbdgpamaaGreat.XP
theorem ybg : ∀ (n : List y9) (s : Int), 0 ≤ s → s + 60 * n.length ≤ 1000 → (∀ a ∈ n, List.length a ≤ 60) → n.foldl y07 s = s + JJ VB n
 | [], s, _, _, _ => by simp [JJ]
 | a :: n, s, h0, hb, ha => by
  have h1 := ha a (by simp)
  rw [List.length_cons] at hb
  have hw : y07 s a = s + (List.length a : Int) := w64 (by omega) (by omega)
  have e : VB a = (List.length a : Int) := rfl
  rw [List.foldl_cons, hw, ybg n _ (by omega) (by omega) fun b hm => ha b (by simp [hm]), zR, e]
  omega
theorem ke {n : List y9} (h : Ye n = true) : n.length ≤ 3 ∧ JJ VB n ≤ 8 ∧ ∀ s ∈ n, ∀ k ∈ (show List y8 from s), JK k = true := by
 obtain ⟨h1, h2⟩ := ye7 h
 have h3 := ybg n 0 (Int.le_refl _) (by omega) fun a ha => (yb9 (h2 a ha)).1
 unfold Ye at h
 simp only [Bool.and_eq_true, decide_eq_true_eq] at h
 exact ⟨h1, by omega, fun s hs => (yb9 (h2 s hs)).2⟩
theorem y18 {n : List y9} (h : Ye n = true) : NS n := ⟨by have := (ke h).1; omega, by have := (ke h).2.1; omega⟩
theorem y8I {q : List Int} {t : List y7} (h : YA q t = true) : TS t := by
 obtain ⟨h1, h2, h3, h4⟩ := vt h
 exact ⟨by omega, fun n hn => y18 (h4 n hn)⟩
theorem yag {q : List Int} {t : List y7} (h : YA q t = true) : q.getD 0 0 = 0 := by
 unfold YA at h
 simp only [Bool.and_eq_true, beq_iff_eq] at h
 exact h.2.2.1
theorem y24 (q : List Int) (sp : Int) (h : q.getD 0 0 ≤ sp) : ∀ n, 0 ≤ kx q sp (n + 1)
 | 0 => by
  rw [kx, if_pos h]
  simp
 | n + 1 => by
  rw [kx]
  split
  ·omega
  ·exact y24 q sp h n
theorem yfP {k : y8} (h : JK k = true) : 0 ≤ JL k.1 k.2.1 := by
 unfold JK at h
 simp only [Bool.and_eq_true, k8] at h
 obtain ⟨h1, h2, _⟩ := h
 unfold JL
 rw [w64 (n := (64 : Int) * k.1) (by omega) (by omega), w64 (by omega) (by omega)]
 omega
theorem yfQ {n : List y9} {k : y8} (hn : Ye n = true) (hk : JK k = true) (h : (zs n k).2 = false) : 8 < (jj n k).length := by
 unfold zs at h
 split at h
 ·cases h
 ·split at h
  ·assumption
  ·rename_i h8
   have hok : Ye (zr (jj n k)) = true := ycb (y8B (y4X k (yeb n))) (fun x hx => by
    rcases y4Y (y8C hx) with rfl | hx
    ·exact hk
    ·obtain ⟨c, hc, hx⟩ := yec hx
     exact (ke hn).2.2 c hc x hx) (by omega)
   rw [if_pos hok] at h
   cases h
theorem y1A {n : List y9} (k : y8) (h : NS n) (h2 : n.length ≤ 900 ∧ JJ VB n ≤ 900) : NS (zs n k).1 := by
 have h1 := y1z n k
 have h3 := y17 n k
 have h4 := vr n
 unfold zs
 split
 ·exact ⟨by simp only; omega, by simp only; omega⟩
 ·split
  ·exact h
  ·split
   ·exact QL (by omega)
   ·exact h
def zi (q : List Int) (k : y8) : Nat := (kx q (JL k.1 k.2.1) q.length).toNat
def Kh (l : List y8) : Nat := (l.length + 1) / 2
def yu (q : List Int) (t : List y7) (k : y8) : List Int × List y7 :=
 if (zs (t.getD (zi q k) yr) k).2 = false then
  (zn q (zi q k) 1 [q.getD (zi q k) 0, ya9 ((jj (t.getD (zi q k) yr) k).getD (Kh (jj (t.getD (zi q k) yr) k)) z0)],
   zn t (zi q k) 1 [zr ((jj (t.getD (zi q k) yr) k).take (Kh (jj (t.getD (zi q k) yr) k))), zr ((jj (t.getD (zi q k) yr) k).drop (Kh (jj (t.getD (zi q k) yr) k)))])
 else if 0 < zi q k ∧ (yV (zs (t.getD (zi q k) yr) k).1).length = 0 then (zn q (zi q k) 1 [], zn t (zi q k) 1 [])
 else (q, t.set (zi q k) (zs (t.getD (zi q k) yr) k).1)
def yQ (q : List Int) (t : List y7) (k : y8) : List Int × List y7 × Bool :=
 if (YA q t && JK k) = true then
  (if YA (w5 (yu q t k).2.length (yu q t k).1 (yu q t k).2).1 (w5 (yu q t k).2.length (yu q t k).1 (yu q t k).2).2 = true then
   ((w5 (yu q t k).2.length (yu q t k).1 (yu q t k).2).1, (w5 (yu q t k).2.length (yu q t k).1 (yu q t k).2).2, true) else (q, t, false))
 else (q, t, false)
theorem y7b : ∀ (m : Nat) (q : List Int) (t : List y7), TS t → TS (w5 m q t).2
 | 0, _, _, h => h
 | m + 1, q, t, h => by
  rw [w5]
  split
  ·exact h
  ·rename_i hp
   exact y7b m _ _ (yaf h hp)
section
variable {q : List Int} {t : List y7} {k : y8} (h : YA q t = true) (hk : JK k = true)
include h hk
theorem y2O : (kx q (JL k.1 k.2.1) q.length) = (zi q k : Int) ∧ zi q k < t.length ∧ zi q k < q.length := by
 obtain ⟨h1, h2, h3, h4⟩ := vt h
 have h5 := y24 q (JL k.1 k.2.1) (by rw [yag h]; exact yfP hk) (q.length - 1)
 rw [show q.length - 1 + 1 = q.length by omega] at h5
 have h6 := y4U q (JL k.1 k.2.1) q.length
 unfold zi
 omega
theorem Qz : Ye (t.getD (zi q k) yr) = true := by
 have h1 := (y2O h hk).2.1
 rw [Qx _ _ _ h1]
 exact (vt h).2.2.2 _ (List.getElem_mem _)
theorem yah (hm : (zs (t.getD (zi q k) yr) k).2 = false) : Kh (jj (t.getD (zi q k) yr) k) < (jj (t.getD (zi q k) yr) k).length ∧ (jj (t.getD (zi q k) yr) k).length ≤ 9 := by
 have h1 := yfQ (Qz h hk) hk hm
 have h2 := y17 (t.getD (zi q k) yr) k
 have h3 := vr (t.getD (zi q k) yr)
 have h4 := (ke (Qz h hk)).2.1
 unfold Kh
 omega
theorem y54 : TS (yu q t k).2 ∧ (yu q t k).1.length = (yu q t k).2.length := by
 obtain ⟨h1, h2, h3, h4⟩ := vt h
 obtain ⟨g0, g1, g2⟩ := y2O h hk
 have hT := y8I h
 have hn := ke (Qz h hk)
 unfold yu
 split
 ·rename_i hm
  have hh := yah h hk hm
  refine ⟨hT.splice (by rw [Jf _ _ _ _ (by omega)]; simp only [List.length_cons, List.length_nil]; omega) fun n hn => ?_, by rw [Jf _ _ _ _ (by omega), Jf _ _ _ _ (by omega)]; simp only [List.length_cons, List.length_nil]; omega⟩
  simp only [List.mem_cons, List.mem_nil_iff, or_false] at hn
  rcases hn with rfl | rfl
  ·exact QL (by rw [List.length_take]; omega)
  ·exact QL (by rw [List.length_drop]; omega)
 ·split
  ·refine ⟨hT.splice (by rw [Jf _ _ _ _ (by omega)]; simp only [List.length_nil]; omega) (fun n hn => by cases hn), by rw [Jf _ _ _ _ (by omega), Jf _ _ _ _ (by omega)]; simp only [List.length_nil]; omega⟩
  ·refine ⟨⟨by simp only [List.length_set]; omega, fun n hn2 => (List.mem_or_eq_of_mem_set hn2).elim (hT.node n) fun e => e ▸ y1A k (y18 (Qz h hk)) (by omega)⟩, by simp only [List.length_set]; omega⟩
end
theorem vu (q : List Int) (t : List y7) (a b c d e : Int) (hT : TOk t) (hQ : ∀ n ∈ t, y2k n) (hq : q.length ≤ 1048576) : Y3 (q, t, a, b, c, d, e) = some (yQ q t (a, b, c, d, e)) := by
 unfold Y3 yQ
 simp only [y0f q t hq hT.len hQ, Vc q t hT, y12, Option.bind_some]
 cases h : YA q t with
 | false => rfl
 | true =>
  cases hk : JK (a, b, c, d, e) with
  | false => rfl
  | true =>
   obtain ⟨h1, h2, h3, h4⟩ := vt h
   obtain ⟨g0, g1, g2⟩ := y2O h hk
   have hNS := y18 (Qz h hk)
   have hnf := ke (Qz h hk)
   have hP := y54 h hk
   have hJ := y7b (yu q t (a, b, c, d, e)).2.length (yu q t (a, b, c, d, e)).1 (yu q t (a, b, c, d, e)).2 hP.1
   have ern : ya t (zi q (a, b, c, d, e) : Int) = t.getD (zi q (a, b, c, d, e)) yr := by
    show t.getD ((zi q (a, b, c, d, e) : Int)).toNat yr = _
    rw [Int.toNat_natCast]
   have erq : z9 q (zi q (a, b, c, d, e) : Int) = q.getD (zi q (a, b, c, d, e)) 0 := by
    show q.getD ((zi q (a, b, c, d, e) : Int)).toNat 0 = _
    rw [Int.toNat_natCast]
   have hfin : ∀ p : List Int × List y7, p = yu q t (a, b, c, d, e) → (Option.bind (YP (p.1, p.2)) fun r15 => Option.bind (Y2 (r15.1, r15.2)) fun r16 => bif (!r16) then some (q, t, false) else some (r15.1, r15.2, true)) = some (if YA (w5 (yu q t (a, b, c, d, e)).2.length (yu q t (a, b, c, d, e)).1 (yu q t (a, b, c, d, e)).2).1 (w5 (yu q t (a, b, c, d, e)).2.length (yu q t (a, b, c, d, e)).1 (yu q t (a, b, c, d, e)).2).2 = true then ((w5 (yu q t (a, b, c, d, e)).2.length (yu q t (a, b, c, d, e)).1 (yu q t (a, b, c, d, e)).2).1, (w5 (yu q t (a, b, c, d, e)).2.length (yu q t (a, b, c, d, e)).1 (yu q t (a, b, c, d, e)).2).2, true) else (q, t, false)) := by
    rintro p rfl
    simp only [y8H _ _ hP.1 hP.2, Option.bind_some, Vc _ _ hJ.ok]
    cases YA (w5 (yu q t (a, b, c, d, e)).2.length (yu q t (a, b, c, d, e)).1 (yu q t (a, b, c, d, e)).2).1 (w5 (yu q t (a, b, c, d, e)).2.length (yu q t (a, b, c, d, e)).1 (yu q t (a, b, c, d, e)).2).2 <;> rfl
   simp only [Bool.not_true, cond_false, Option.bind_some, Qv q t a b hq, show kx q (JL a b) q.length = (zi q (a, b, c, d, e) : Int) from g0, ern, erq, Bool.and_self, if_true]
   rw [if_pos (by omega), if_pos (by omega), y3S _ a b c d e hNS]
   simp only [Option.bind_some]
   rw [if_pos (by omega), if_pos (by omega), VU q t _ _ _ (by omega) (by omega) (by omega) (by omega) (by omega) (by simp) (by simp)]
   simp only [Option.bind_some, Int.toNat_natCast]
   cases hm : (zs (t.getD (zi q (a, b, c, d, e)) yr) (a, b, c, d, e)).2 with
   | false =>
    have hh := yah h hk hm
    have hkn := (hNS.keys)
    have hsl := wh (yV (t.getD (zi q (a, b, c, d, e)) yr)) (a, b, c, d, e)
    have e1 : zN (Jg (yV (t.getD (zi q (a, b, c, d, e)) yr)) (a, b, c, d, e)) = some (jj (t.getD (zi q (a, b, c, d, e)) yr) (a, b, c, d, e)) := Qo _ (by omega)
    have hput := yu.eq_1 q t (a, b, c, d, e)
    rw [if_pos hm] at hput
    generalize hW : jj (t.getD (zi q (a, b, c, d, e)) yr) (a, b, c, d, e) = W at hh e1 hput
    have hwr : Go.IntKind.wrap .i64 (Int.tdiv (Go.IntKind.wrap .i64 (((List.length W : Nat) : Int) + (1 : Int))) (2 : Int)) = (Kh W : Int) := by
     rw [w64 (n := ((List.length W : Nat) : Int) + 1) (by omega) (by omega), Int.tdiv_eq_ediv_of_nonneg (by omega)]
     unfold Kh
     rw [w64 (by omega) (by omega)]
     omega
    simp only [Bool.not_false, cond_true, YF _ (Nat.le_trans hNS.len (by decide)) (Int.le_trans hNS.sum (by decide)), kj _ a b c d e (show (yV (t.getD (zi q (a, b, c, d, e)) yr)).length ≤ 1073741824 by omega), e1, Option.bind_some, hwr, Int.toNat_natCast]
    rw [if_pos (by omega), if_pos (by omega), if_pos (by omega), if_pos (by omega), if_pos (by omega), if_pos (by omega)]
    have e2 : J3 ((y0 W (Kh W : Int)).1, (y0 W (Kh W : Int)).2.1, (y0 W (Kh W : Int)).2.2.1, (y0 W (Kh W : Int)).2.2.2.1, (y0 W (Kh W : Int)).2.2.2.2) = some (ya9 (W.getD (Kh W) z0)) := by
     have e3 : y0 W (Kh W : Int) = W.getD (Kh W) z0 := by
      show W.getD ((Kh W : Int)).toNat z0 = _
      rw [Int.toNat_natCast]
     rw [e3]
     rfl
    rw [e2]
    simp only [Option.bind_some]
    rw [if_pos (by omega), if_pos (by omega), if_pos (by omega), Ww _ (by simp only [List.length_drop, List.length_take]; omega)]
    simp only [Option.bind_some]
    rw [if_pos (by omega), if_pos (by omega), if_pos (by omega), Ww _ (by simp only [List.length_drop, List.length_take]; omega)]
    simp only [Option.bind_some]
    rw [VU q t _ _ _ (by omega) (by omega) (by omega) (by omega) (by omega) (by simp) (by simp)]
    simp only [Option.bind_some, Int.toNat_natCast, List.take_length]
    exact hfin _ hput.symm
   | true =>
    have hP2 := y1A (a, b, c, d, e) hNS (by omega)
    have hnm : ¬ (zs (t.getD (zi q (a, b, c, d, e)) yr) (a, b, c, d, e)).2 = false := by rw [hm]; simp
    simp only [Bool.not_true, cond_false, YF _ (Nat.le_trans hP2.len (by decide)) (Int.le_trans hP2.sum (by decide)), Option.bind_some]
    have hput := yu.eq_1 q t (a, b, c, d, e)
    rw [if_neg hnm] at hput
    have h3 : (bif decide ((zi q (a, b, c, d, e) : Int) > 0) then some (((List.length (yV (zs (t.getD (zi q (a, b, c, d, e)) yr) (a, b, c, d, e)).1) : Nat) : Int) == 0) else some false) = some (decide (0 < zi q (a, b, c, d, e) ∧ (yV (zs (t.getD (zi q (a, b, c, d, e)) yr) (a, b, c, d, e)).1).length = 0)) := by
     by_cases i0 : 0 < zi q (a, b, c, d, e)
     ·rw [decide_eq_true (show (zi q (a, b, c, d, e) : Int) > 0 by omega), cond_true]
      congr 1
      by_cases i1 : (yV (zs (t.getD (zi q (a, b, c, d, e)) yr) (a, b, c, d, e)).1).length = 0
      ·rw [decide_eq_true ⟨i0, i1⟩]
       exact beq_iff_eq.2 (by omega)
      ·rw [decide_eq_false (fun hh => i1 hh.2)]
       exact beq_eq_false_iff_ne.2 (by omega)
     ·rw [decide_eq_false (show ¬ (zi q (a, b, c, d, e) : Int) > 0 by omega), decide_eq_false (fun hh => i0 hh.1)]
      rfl
    rw [h3]
    simp only [Option.bind_some]
    by_cases hz : 0 < zi q (a, b, c, d, e) ∧ (yV (zs (t.getD (zi q (a, b, c, d, e)) yr) (a, b, c, d, e)).1).length = 0
    ·rw [if_pos hz] at hput
     rw [decide_eq_true hz, cond_true, VU q t _ _ _ (by omega) (by omega) (by omega) (by omega) (by omega) (by simp) (by simp)]
     simp only [Option.bind_some, Int.toNat_natCast]
     exact hfin _ hput.symm
    ·rw [if_neg hz] at hput
     rw [decide_eq_false hz, cond_false]
     rw [y51 q _ _ (by omega), y51 t _ _ (by omega)]
     refine hfin (q.set (zi q (a, b, c, d, e)) (q.getD (zi q (a, b, c, d, e)) 0), t.set (zi q (a, b, c, d, e)) (zs (t.getD (zi q (a, b, c, d, e)) yr) (a, b, c, d, e)).1) ?_
     rw [hput, Qx _ _ _ (by omega), List.set_getElem_self]
theorem vv (q : List Int) (t : List y7) (a b c d e : Int) (hT : TOk t) (hQ : ∀ n ∈ t, y2k n) (hq : q.length ≤ 1048576) : Z4 (q, t, a, b, c, d, e) = some (yQ q t (a, b, c, d, e)) := by
 unfold Z4 yQ
 simp only [qv q t hq hT.len hQ, Vd q t hT, y13, Option.bind_some]
 cases h : YA q t with
 | false => rfl
 | true =>
  cases hk : JK (a, b, c, d, e) with
  | false => rfl
  | true =>
   obtain ⟨h1, h2, h3, h4⟩ := vt h
   obtain ⟨g0, g1, g2⟩ := y2O h hk
   have hNS := y18 (Qz h hk)
   have hnf := ke (Qz h hk)
   have hP := y54 h hk
   have hJ := y7b (yu q t (a, b, c, d, e)).2.length (yu q t (a, b, c, d, e)).1 (yu q t (a, b, c, d, e)).2 hP.1
   have ern : ya t (zi q (a, b, c, d, e) : Int) = t.getD (zi q (a, b, c, d, e)) yr := by
    show t.getD ((zi q (a, b, c, d, e) : Int)).toNat yr = _
    rw [Int.toNat_natCast]
   have erq : z9 q (zi q (a, b, c, d, e) : Int) = q.getD (zi q (a, b, c, d, e)) 0 := by
    show q.getD ((zi q (a, b, c, d, e) : Int)).toNat 0 = _
    rw [Int.toNat_natCast]
   have hfin : ∀ p : List Int × List y7, p = yu q t (a, b, c, d, e) → (Option.bind (YX (p.1, p.2)) fun r15 => Option.bind (Y4 (r15.1, r15.2)) fun r16 => bif (!r16) then some (q, t, false) else some (r15.1, r15.2, true)) = some (if YA (w5 (yu q t (a, b, c, d, e)).2.length (yu q t (a, b, c, d, e)).1 (yu q t (a, b, c, d, e)).2).1 (w5 (yu q t (a, b, c, d, e)).2.length (yu q t (a, b, c, d, e)).1 (yu q t (a, b, c, d, e)).2).2 = true then ((w5 (yu q t (a, b, c, d, e)).2.length (yu q t (a, b, c, d, e)).1 (yu q t (a, b, c, d, e)).2).1, (w5 (yu q t (a, b, c, d, e)).2.length (yu q t (a, b, c, d, e)).1 (yu q t (a, b, c, d, e)).2).2, true) else (q, t, false)) := by
    rintro p rfl
    simp only [y4d _ _ hP.1 hP.2, Option.bind_some, Vd _ _ hJ.ok]
    cases YA (w5 (yu q t (a, b, c, d, e)).2.length (yu q t (a, b, c, d, e)).1 (yu q t (a, b, c, d, e)).2).1 (w5 (yu q t (a, b, c, d, e)).2.length (yu q t (a, b, c, d, e)).1 (yu q t (a, b, c, d, e)).2).2 <;> rfl
   simp only [Bool.not_true, cond_false, Option.bind_some, Qw q t a b hq, show kx q (JL a b) q.length = (zi q (a, b, c, d, e) : Int) from g0, ern, erq, Bool.and_self, if_true]
   rw [if_pos (by omega), if_pos (by omega), y3T _ a b c d e hNS]
   simp only [Option.bind_some, Int.toNat_natCast]
   cases hm : (zs (t.getD (zi q (a, b, c, d, e)) yr) (a, b, c, d, e)).2 with
   | false =>
    have hh := yah h hk hm
    have e1 : zz (t.getD (zi q (a, b, c, d, e)) yr, a, b, c, d, e) = some (jj (t.getD (zi q (a, b, c, d, e)) yr) (a, b, c, d, e)) := qx _ a b c d e hNS
    have hput := yu.eq_1 q t (a, b, c, d, e)
    rw [if_pos hm] at hput
    generalize hW : jj (t.getD (zi q (a, b, c, d, e)) yr) (a, b, c, d, e) = W at hh e1 hput
    have hwr : Go.IntKind.wrap .i64 (Int.tdiv (Go.IntKind.wrap .i64 (((List.length W : Nat) : Int) + (1 : Int))) (2 : Int)) = (Kh W : Int) := by
     rw [w64 (n := ((List.length W : Nat) : Int) + 1) (by omega) (by omega), Int.tdiv_eq_ediv_of_nonneg (by omega)]
     unfold Kh
     rw [w64 (by omega) (by omega)]
     omega
    simp only [Bool.not_false, cond_true, e1, Option.bind_some, hwr, Int.toNat_natCast]
    rw [if_pos (by omega), if_pos (by omega), if_pos (by omega), if_pos (by omega), if_pos (by omega), if_pos (by omega)]
    have e2 : YQ ((y0 W (Kh W : Int)).1, (y0 W (Kh W : Int)).2.1) = some (ya9 (W.getD (Kh W) z0)) := by
     have e3 : y0 W (Kh W : Int) = W.getD (Kh W) z0 := by
      show W.getD ((Kh W : Int)).toNat z0 = _
      rw [Int.toNat_natCast]
     rw [e3]
     rfl
    rw [e2]
    simp only [Option.bind_some]
    rw [if_pos (by omega), if_pos (by omega), if_pos (by omega), Wx _ (by simp only [List.length_drop, List.length_take]; omega)]
    simp only [Option.bind_some]
    rw [if_pos (by omega), if_pos (by omega), if_pos (by omega), Wx _ (by simp only [List.length_drop, List.length_take]; omega)]
    simp only [Option.bind_some]
    rw [kX q t _ 1 _ _ (by omega) (by decide) (by omega) (by omega) (by omega) (by omega) (by simp) (by simp)]
    simp only [Option.bind_some, Int.toNat_natCast, List.take_length]
    exact hfin _ hput.symm
   | true =>
    have hP2 := y1A (a, b, c, d, e) hNS (by omega)
    have hnm : ¬ (zs (t.getD (zi q (a, b, c, d, e)) yr) (a, b, c, d, e)).2 = false := by rw [hm]; simp
    simp only [Bool.not_true, cond_false, ZZ _ (Nat.le_trans hP2.len (by decide)) (Int.le_trans hP2.sum (by decide)), Option.bind_some]
    have hput := yu.eq_1 q t (a, b, c, d, e)
    rw [if_neg hnm] at hput
    have h3 : (bif decide ((zi q (a, b, c, d, e) : Int) > 0) then some (((List.length (yV (zs (t.getD (zi q (a, b, c, d, e)) yr) (a, b, c, d, e)).1) : Nat) : Int) == 0) else some false) = some (decide (0 < zi q (a, b, c, d, e) ∧ (yV (zs (t.getD (zi q (a, b, c, d, e)) yr) (a, b, c, d, e)).1).length = 0)) := by
     by_cases i0 : 0 < zi q (a, b, c, d, e)
     ·rw [decide_eq_true (show (zi q (a, b, c, d, e) : Int) > 0 by omega), cond_true]
      congr 1
      by_cases i1 : (yV (zs (t.getD (zi q (a, b, c, d, e)) yr) (a, b, c, d, e)).1).length = 0
      ·rw [decide_eq_true ⟨i0, i1⟩]
       exact beq_iff_eq.2 (by omega)
      ·rw [decide_eq_false (fun hh => i1 hh.2)]
       exact beq_eq_false_iff_ne.2 (by omega)
     ·rw [decide_eq_false (show ¬ (zi q (a, b, c, d, e) : Int) > 0 by omega), decide_eq_false (fun hh => i0 hh.1)]
      rfl
    rw [h3]
    simp only [Option.bind_some]
    by_cases hz : 0 < zi q (a, b, c, d, e) ∧ (yV (zs (t.getD (zi q (a, b, c, d, e)) yr) (a, b, c, d, e)).1).length = 0
    ·rw [if_pos hz] at hput
     rw [decide_eq_true hz, cond_true, kX q t _ 1 _ _ (by omega) (by decide) (by omega) (by omega) (by omega) (by omega) (by simp) (by simp)]
     simp only [Option.bind_some, Int.toNat_natCast]
     exact hfin _ hput.symm
    ·rw [if_neg hz] at hput
     rw [decide_eq_false hz, cond_false, if_pos (by omega), if_pos (by omega)]
     exact hfin _ hput.symm
end Go.Proofs.YtmapoakbdgpamaaGreat.Pl
namespace Go.Proofs.YtmapoakbdgpamaaGreat.Pl
open Go.Proofs.YtmapoakbdgpamaaGreat.R Go.Proofs.YtmapoakbdgpamaaGreat.XP
def vw (fr id : Int) (x : yf) : yf := if (x.2 == id) = true then (x.1, fr) else x
def yyx (l : List yf) (i : Nat) (id : Int) : List yf := (l.map (vw (l.getD i Y1).2 id)).eraseIdx i
def y0w (l : List yf) (id : Int) : List yf × Bool := if Y5 l id < 0 then (l, false) else if Ws l = true then (yyx l (Y5 l id).toNat id, true) else (l, false)
theorem y1B (l : List yf) (h : l.length ≤ 1048576) : Yw l = some l := by
 unfold Yw
 rw [if_pos (by simp only [List.length_nil]; omega)]
 rfl
theorem y2P {A : Type} (p : A → Bool) : ∀ (l : List A) (i : Int), Z5 p l i = -1 ∨ i ≤ Z5 p l i ∧ Z5 p l i < i + l.length
 | [], _ => .inl rfl
 | a :: l, i => by
  rw [Z5]
  split
  ·refine .inr ⟨Int.le_refl _, by simp only [List.length_cons]; omega⟩
  ·rcases y2P p l (i + 1) with h | ⟨h1, h2⟩
   ·exact .inl h
   ·exact .inr ⟨by omega, by simp only [List.length_cons]; omega⟩
theorem y4e (l : List yf) (id : Int) (hl : l.length ≤ 1048576) : Ja (l, id) = some (y0w l id) := by
 unfold Ja y0w
 simp only [Je l id (by omega), y08 l hl, Option.bind_some]
 by_cases h0 : Y5 l id < 0
 ·rw [decide_eq_true h0, if_pos h0]
  simp only [cond_true, Option.bind_some]
  rw [if_pos (by simp only [List.length_nil]; omega)]
  rfl
 ·rw [decide_eq_false h0, if_neg h0]
  cases hA : Ws l with
  | false =>
   simp only [cond_false, Bool.not_false, Option.bind_some, cond_true]
   rw [if_pos (by simp only [List.length_nil]; omega)]
   rfl
  | true =>
   simp only [cond_false, Bool.not_true, Option.bind_some, if_true]
   have hi1 : Y5 l id < (l.length : Int) := by
    rcases y2P (fun a : yf => a.1 == id) l 0 with h | ⟨h1, h2⟩
    ·have : Y5 l id = -1 := h
     omega
    ·have : Y5 l id = Z5 (fun a : yf => a.1 == id) l 0 := rfl
     omega
   generalize Y5 l id = i at h0 hi1
   unfold Q7
   have key := Yi (step := W5 (fun x4 => some (x4, true))) (fun x : List yf × Int × Int × Int × List yf => l.length - x.2.2.2.1.toNat) (fun x => x.1 = l ∧ x.2.1 = id ∧ x.2.2.1 = i ∧ 0 ≤ x.2.2.2.1 ∧ x.2.2.2.1 ≤ (l.length : Int) ∧ x.2.2.2.2.length ≤ x.2.2.2.1.toNat)
    (fun x => some (x.2.2.2.2 ++ (if x.2.2.2.1 ≤ i then ((l.drop x.2.2.2.1.toNat).map (vw (l.getD i.toNat Y1).2 id)).eraseIdx (i - x.2.2.2.1).toNat else (l.drop x.2.2.2.1.toNat).map (vw (l.getD i.toNat Y1).2 id)), true)) ?_ (l, id, i, 0, []) ⟨rfl, rfl, rfl, Int.le_refl _, by simp, by simp⟩ (by simp; omega)
   ·rw [key]
    simp only [List.nil_append]
    rw [if_pos (by omega), Int.sub_zero]
    rfl
   ·rintro again ⟨l', id', i', j, o⟩ ⟨rfl, rfl, rfl, j0, j1, ho⟩ hag
    simp only at j0 j1 ho hl hi1 h0 ⊢
    unfold W5
    by_cases hj : j < (l'.length : Int)
    ·have hw : Go.IntKind.wrap .i64 (j + 1) = j + 1 := w64 (by omega) (by omega)
     have hd := Zm Y1 l' j j0 hj
     have e1 : (j + 1).toNat = j.toNat + 1 := by omega
     have hlen : ∀ y : yf, (List.length o + List.length ([y] : List yf)) * 16 < 140737488355328 := fun y => by simp only [List.length_cons, List.length_nil]; omega
     have hstep : ∀ y, y = vw (l'.getD i'.toNat Y1).2 id' (l'.getD j.toNat Y1) → (bif (j != i') then if (List.length o + List.length ([y] : List yf)) * 16 < 140737488355328 then again (l', id', i', j + 1, o ++ [y]) else none else again (l', id', i', j + 1, o)) = some (o ++ (if j ≤ i' then ((l'.drop j.toNat).map (vw (l'.getD i'.toNat Y1).2 id')).eraseIdx (i' - j).toNat else (l'.drop j.toNat).map (vw (l'.getD i'.toNat Y1).2 id')), true) := by
      rintro y rfl
      rw [hd, List.map_cons]
      by_cases hji : j = i'
      ·rw [show (j != i') = false by simp [hji], cond_false, if_pos (by omega), show (i' - j).toNat = 0 by omega, List.eraseIdx_zero, List.tail_cons]
       have := hag (l', id', i', j + 1, o) ⟨rfl, rfl, rfl, by simp only; omega, by simp only; omega, by simp only; omega⟩ (by simp only; omega)
       rw [this]
       simp only
       rw [if_neg (by omega)]
      ·rw [show (j != i') = true by simpa using hji, cond_true, if_pos (hlen _)]
       have := hag (l', id', i', j + 1, o ++ [vw (l'.getD i'.toNat Y1).2 id' (l'.getD j.toNat Y1)]) ⟨rfl, rfl, rfl, by simp only; omega, by simp only; omega, by simp only [List.length_append, List.length_cons, List.length_nil]; omega⟩ (by simp only; omega)
       rw [this]
       simp only
       by_cases hlt : j ≤ i'
       ·rw [if_pos hlt, if_pos (by omega), show (i' - j).toNat = (i' - (j + 1)).toNat + 1 by omega, List.eraseIdx_cons_succ, List.append_assoc]
        rfl
       ·rw [if_neg hlt, if_neg (by omega), List.append_assoc]
        rfl
     have hrd : yD l' j = l'.getD j.toNat Y1 := rfl
     simp only [hw]
     rw [decide_eq_true hj, cond_true, if_pos j0, if_pos hj]
     by_cases hid : (l'.getD j.toNat Y1).2 = id'
     ·have hb : ((yD l' j).2 == id') = true := beq_iff_eq.2 hid
      rw [hb, cond_true, if_pos (by omega), if_pos hi1]
      exact hstep _ (by unfold vw; rw [if_pos (beq_iff_eq.2 hid)]; rfl)
     ·have hb : ((yD l' j).2 == id') = false := beq_eq_false_iff_ne.2 hid
      rw [hb, cond_false]
      exact hstep _ (by unfold vw; rw [if_neg (by simpa using hid)]; rfl)
    ·rw [decide_eq_false hj, cond_false, List.drop_of_length_le (by omega)]
     simp
theorem y4f (l : List yf) (id : Int) (hl : l.length ≤ 1048576) : Wq (l, id) = some (y0w l id) := by
 unfold Wq y0w
 simp only [Wr l id (by omega), y09 l hl, y1B l hl, Option.bind_some]
 by_cases h0 : Y5 l id < 0
 ·rw [decide_eq_true h0, if_pos h0]
  rfl
 ·rw [decide_eq_false h0, if_neg h0]
  cases hA : Ws l with
  | false => rfl
  | true =>
   simp only [cond_false, Bool.not_true, Option.bind_some, if_true]
   have hi1 : Y5 l id < (l.length : Int) := by
    rcases y2P (fun a : yf => a.1 == id) l 0 with h | ⟨h1, h2⟩
    ·have : Y5 l id = -1 := h
     omega
    ·have : Y5 l id = Z5 (fun a : yf => a.1 == id) l 0 := rfl
     omega
   generalize Y5 l id = i at h0 hi1
   unfold Qk
   have key := Yi (step := Wp (fun x5 => Option.bind (zC (x5.2, x5.1, (Go.IntKind.wrap .i64 (x5.1 + (1 : Int))))) fun r6 => some (r6, true))) (fun x : List yf × Int × Int × Int × Int × List yf => l.length - x.2.2.2.2.1.toNat) (fun x => x.1 = l ∧ x.2.1 = id ∧ x.2.2.1 = i ∧ x.2.2.2.1 = ((List.length l : Nat) : Int) ∧ 0 ≤ x.2.2.2.2.1 ∧ x.2.2.2.2.1 ≤ (l.length : Int) ∧ x.2.2.2.2.2.length = l.length)
    (fun x => some ((x.2.2.2.2.2.take x.2.2.2.2.1.toNat ++ (x.2.2.2.2.2.drop x.2.2.2.2.1.toNat).map (vw (l.getD i.toNat Y1).2 id)).eraseIdx i.toNat, true)) ?_ (l, id, i, ((List.length l : Nat) : Int), 0, l) ⟨rfl, rfl, rfl, rfl, Int.le_refl _, by simp, rfl⟩ (by simp; omega)
   ·rw [key]
    rfl
   ·rintro again ⟨l', id', i', n, j, o⟩ ⟨rfl, rfl, rfl, hn, j0, j1, ho⟩ hag
    simp only at hn j0 j1 ho hl hi1 h0 hag ⊢
    subst hn
    unfold Wp
    by_cases hj : j < (l'.length : Int)
    ·have hw : Go.IntKind.wrap .i64 (j + 1) = j + 1 := w64 (by omega) (by omega)
     have hd := Zm Y1 o j j0 (by omega)
     have e1 : (j + 1).toNat = j.toNat + 1 := by omega
     have hjo : j < ((List.length o : Nat) : Int) := by omega
     have hnext : ∀ o', o' = o.set j.toNat (vw (l'.getD i'.toNat Y1).2 id' (o.getD j.toNat Y1)) → again (l', id', i', ((List.length l' : Nat) : Int), j + 1, o') = some ((o.take j.toNat ++ (o.drop j.toNat).map (vw (l'.getD i'.toNat Y1).2 id')).eraseIdx i'.toNat, true) := by
      rintro o' rfl
      rw [hag (l', id', i', ((List.length l' : Nat) : Int), j + 1, o.set j.toNat (vw (l'.getD i'.toNat Y1).2 id' (o.getD j.toNat Y1))) ⟨rfl, rfl, rfl, rfl, by simp only; omega, by simp only; omega, by simpa using ho⟩ (by simp only; omega)]
      simp only
      rw [hd, List.map_cons, e1, List.take_succ_eq_append_getElem (by simp; omega), List.take_set_of_le (Nat.le_refl _), List.drop_set_of_lt (by omega)]
      simp
     simp only [hw]
     rw [decide_eq_true hj, cond_true, if_pos j0, if_pos hjo]
     by_cases hid : (o.getD j.toNat Y1).2 = id'
     ·have hb : ((yD o j).2 == id') = true := beq_iff_eq.2 hid
      rw [hb, cond_true, if_pos (by omega), if_pos hi1, if_pos j0, if_pos hjo]
      exact hnext _ (by unfold vw; rw [if_pos (beq_iff_eq.2 hid)]; rfl)
     ·have hb : ((yD o j).2 == id') = false := beq_eq_false_iff_ne.2 hid
      rw [hb, cond_false]
      refine hnext _ ?_
      unfold vw
      rw [if_neg (by simpa using hid), Qx _ _ _ (by omega), List.set_getElem_self]
    ·have hjl : j.toNat = o.length := by omega
     have hwi : Go.IntKind.wrap .i64 (i' + 1) = i' + 1 := w64 (by omega) (by omega)
     rw [decide_eq_false hj, cond_false, hjl, List.drop_length, List.take_length, List.map_nil, List.append_nil]
     simp only [hwi]
     unfold zC
     simp only
     rw [if_pos (by omega), if_pos (by omega), if_pos (by omega)]
     simp only [Option.bind_some]
     rw [show (i' + 1).toNat = i'.toNat + 1 by omega, List.eraseIdx_eq_take_drop_succ]
def yai (cs : List yg) (i : Int) : List yg := if Z0 cs = true ∧ 0 ≤ i ∧ i ≤ 23 ∧ (cs.getD i.toNat jq).2.1 = true then cs.set i.toNat (Int.tmod (Go.IntKind.wrap .i64 ((cs.getD i.toNat jq).1 + 1)) 1000, false, 0) else cs
theorem yeg (cs : List yg) (i : Int) : (yai cs i).length = cs.length := by
 unfold yai
 split
 ·simp
 ·rfl
theorem yeh {cs : List yg} (h : Z0 cs = true) : cs.length = 24 := by
 unfold Z0 at h
 simp only [Bool.and_eq_true, beq_iff_eq] at h
 omega
theorem QM {cs : List yg} {i : Int} (h : ¬ (Z0 cs = true ∧ 0 ≤ i ∧ i ≤ 23 ∧ (cs.getD i.toNat jq).2.1 = true)) : yai cs i = cs := if_neg h
theorem y8J {cs : List yg} {i : Int} (h : Z0 cs = true ∧ 0 ≤ i ∧ i ≤ 23 ∧ (cs.getD i.toNat jq).2.1 = true) : yai cs i = cs.set i.toNat (Int.tmod (Go.IntKind.wrap .i64 ((cs.getD i.toNat jq).1 + 1)) 1000, false, 0) := if_pos h
theorem y2l (cs : List yg) (i : Int) (hc : cs.length ≤ 1048576) : jG (cs, i) = some (yai cs i) := by
 have e1 : ZB cs = some cs := by
  unfold ZB
  rw [if_pos (by simp only [List.length_nil]; omega)]
  rfl
 unfold jG
 simp only [e1, Qs cs hc, k9, Option.bind_some]
 cases hk : Z0 cs with
 | false =>
  rw [QM fun h => by rw [hk] at h; cases h.1]
  rfl
 | true =>
  have h24 := yeh hk
  have hw : Go.IntKind.wrap .i64 ((cs.length : Int) - 1) = 23 := by rw [w64 (by omega) (by omega)]; omega
  simp only [hw, cond_true, Option.bind_some]
  cases hi : inR i 0 23 with
  | false =>
   have : ¬ (0 ≤ i ∧ i ≤ 23) := fun h => by rw [k8.2 h] at hi; cases hi
   rw [QM fun h => this ⟨h.2.1, h.2.2.1⟩]
   rfl
  | true =>
   obtain ⟨i0, i1⟩ := k8.1 hi
   rw [cond_true, if_pos i0, if_pos (by omega)]
   have hrd : zw cs i = cs.getD i.toNat jq := rfl
   rw [hrd]
   cases hu : (cs.getD i.toNat jq).2.1 with
   | false =>
    rw [QM fun h => by have := h.2.2.2; rw [hu] at this; cases this]
    rfl
   | true =>
    simp only [Option.bind_some, cond_true]
    rw [if_pos i0, if_pos (by omega), if_pos i0, if_pos (by omega), y8J ⟨hk, i0, i1, hu⟩]
theorem y2m (cs : List yg) (i : Int) (hc : cs.length ≤ 1048576) : jS (cs, i) = some (yai cs i) := by
 have e1 : Yd cs = some cs := by
  unfold Yd
  rw [if_pos (by simp only [List.length_nil]; omega)]
  rfl
 unfold jS
 simp only [e1, Qt cs hc, ZY, Option.bind_some]
 cases hk : Z0 cs with
 | false =>
  rw [QM fun h => by rw [hk] at h; cases h.1]
  rfl
 | true =>
  have h24 := yeh hk
  simp only [Bool.not_true, cond_false, Option.bind_some]
  cases hi : inR i 0 23 with
  | false =>
   have : ¬ (0 ≤ i ∧ i ≤ 23) := fun h => by rw [k8.2 h] at hi; cases hi
   rw [QM fun h => this ⟨h.2.1, h.2.2.1⟩]
   rfl
  | true =>
   obtain ⟨i0, i1⟩ := k8.1 hi
   rw [Bool.not_true, cond_false, if_pos i0, if_pos (by omega)]
   have hrd : zw cs i = cs.getD i.toNat jq := rfl
   rw [hrd]
   cases hu : (cs.getD i.toNat jq).2.1 with
   | false =>
    rw [QM fun h => by have := h.2.2.2; rw [hu] at this; cases this]
    rfl
   | true =>
    simp only [Option.bind_some, Bool.not_true, cond_false]
    rw [if_pos i0, if_pos (by omega), if_pos i0, if_pos (by omega), y8J ⟨hk, i0, i1, hu⟩]
end Go.Proofs.YtmapoakbdgpamaaGreat.Pl
namespace Go.Proofs.YtmapoakbdgpamaaGreat.Pl
open Go.Proofs.YtmapoakbdgpamaaGreat.R Go.Proofs.YtmapoakbdgpamaaGreat.XP
structure SP (q : List yh) (t : List y7) (l : List yf) (cs : List yg) (vs : List yF) : Prop where
 S : small q t l cs vs
 N : ∀ v ∈ vs, ByteArray.size v.1 ≤ maxLen
structure TQ (q : List yh) (t : List y7) : Prop where
 T : TOk t
 Q : ∀ n ∈ t, y2k n
 q : q.length ≤ 1048576
theorem SP.tq {q : List yh} {t : List y7} {l : List yf} {cs : List yg} {vs : List yF} (h : SP q t l cs vs) : TQ q t :=
 ⟨⟨h.S.2.1, fun n hn => by have := (kb h.S.2.2.1 hn).1; omega, h.S.2.2.1⟩, fun n hn => kb h.S.2.2.1 hn, h.S.1⟩
theorem TQ.sp {q q' : List yh} {t t' : List y7} {l l' : List yf} {cs cs' : List yg} {vs : List yF} (h : TQ q' t') (h2 : SP q t l cs vs) (hl : l'.length ≤ 1048576) (hc : cs'.length ≤ 1048576) : SP q' t' l' cs' vs :=
 ⟨⟨h.q, h.T.len, h.T.sum, hl, hc, h2.S.2.2.2.2.2⟩, h2.N⟩
theorem TS.tq {q : List yh} {t : List y7} (h : TS t) (hq : q.length ≤ 1048576) : TQ q t := ⟨h.ok, fun n hn => (h.node n hn).q, hq⟩
theorem VC {q : List yh} {t : List y7} (k : y8) (h : TQ q t) : TQ (yQ q t k).1 (yQ q t k).2.1 := by
 unfold yQ
 split
 ·rename_i hh
  rw [Bool.and_eq_true] at hh
  split
  ·rename_i hj
   have hT := y8I hj
   have := (vt hj)
   exact hT.tq (by simp only; omega)
  ·exact h
 ·exact h
def VW (k : y8) : y8 := (k.1, k.2.1, 0, 0, 0)
def QA (q : List yh) (t : List y7) (cs : List yg) (k : y8) : List yg := if (kU q t k.1 k.2.1).2.2.2.2.2 = true ∧ (kU q t k.1 k.2.1).2.2.1 = 1 then yai cs (kU q t k.1 k.2.1).2.2.2.1 else cs
theorem yaj (q : List yh) (t : List y7) (cs : List yg) (k : y8) : (QA q t cs k).length = cs.length := by
 unfold QA
 split
 ·exact yeg _ _
 ·rfl
abbrev PO : Type := List yh × List y7 × List yf × List yg × List yF × Int
section
variable (q : List yh) (t : List y7) (l : List yf) (cs : List yg) (vs : List yF) (z : Int)
def YC (t : List y7) (i : Int) : y8 := (zh t).getD i.toNat z0
def Z1 (step i : Int) : PO × Bool :=
 if step = 1 ∨ step = 2 then (((yQ q t (VW (YC t i))).1, (yQ q t (VW (YC t i))).2.1, l, QA q t cs (YC t i), vs, z), (yQ q t (VW (YC t i))).2.2)
 else if step = 3 then
  (((yQ (yQ q t (VW (YC t i))).1 (yQ q t (VW (YC t i))).2.1 ((YC t i).1, (zv l (YC t i).2.1).getD 0 0, (YC t i).2.2)).1,
   (yQ (yQ q t (VW (YC t i))).1 (yQ q t (VW (YC t i))).2.1 ((YC t i).1, (zv l (YC t i).2.1).getD 0 0, (YC t i).2.2)).2.1, l, cs, vs, z),
   (yQ q t (VW (YC t i))).2.2 && (yQ (yQ q t (VW (YC t i))).1 (yQ q t (VW (YC t i))).2.1 ((YC t i).1, (zv l (YC t i).2.1).getD 0 0, (YC t i).2.2)).2.2)
 else ((q, t, (y0w l (l.getD i.toNat Y1).1).1, cs, vs, z), (y0w l (l.getD i.toNat Y1).1).2)
noncomputable def ykz (p : PO) : Bool := kc p.1 p.2.1 p.2.2.1 p.2.2.2.1 p.2.2.2.2.1 p.2.2.2.2.2
noncomputable def yek (p : PO) (r : PO × Bool) : PO × Bool := if (r.2 && ykz r.1) = true then (r.1, true) else (p, false)
noncomputable def VD : PO × Bool := match y77 q t l cs vs z with
 | some (step, i) => if step = 0 then ((q, t, l, cs, vs, z), false) else yek (q, t, l, cs, vs, z) (Z1 q t l cs vs z step i)
 | none => ((q, t, l, cs, vs, z), false)
def y2n (r : PO × Bool) : List yh × List y7 × List yf × List yg × List yF × Int × Bool := (r.1.1, r.1.2.1, r.1.2.2.1, r.1.2.2.2.1, r.1.2.2.2.2.1, r.1.2.2.2.2.2, r.2)
theorem y55 {step i : Int} (h : y77 q t l cs vs z = some (step, i)) : step = 0 ∨ ((step = 1 ∨ step = 2 ∨ step = 3) ∧ 0 ≤ i ∧ i < ((zh t).length : Int) ∧ YB q t l vs step (YC t i) = true) ∨ (step = 4 ∧ 0 ≤ i ∧ i < (l.length : Int)) := by
 have hfind : ∀ s, (s = 1 ∨ s = 2 ∨ s = 3) → ¬ Z5 (YB q t l vs s) (zh t) 0 < 0 → (step, i) = (s, Z5 (YB q t l vs s) (zh t) 0) → step = 0 ∨ ((step = 1 ∨ step = 2 ∨ step = 3) ∧ 0 ≤ i ∧ i < ((zh t).length : Int) ∧ YB q t l vs step (YC t i) = true) ∨ (step = 4 ∧ 0 ≤ i ∧ i < (l.length : Int)) := by
  intro s hs h0 he
  injection he with h1 h2
  subst h1 h2
  rcases Kn (YB q t l vs step) z0 (zh t) 0 (Int.le_refl _) with h | ⟨h1, h2, h3⟩
  ·omega
  ·rw [Int.sub_zero] at h3
   exact .inr (.inl ⟨hs, h1, by omega, h3⟩)
 unfold y77 at h
 split at h
 ·simp only [y8a, y3O] at h
  by_cases h1 : Z5 (YB q t l vs 1) (zh t) 0 < 0
  ·simp only [if_pos h1] at h
   by_cases h2 : Z5 (YB q t l vs 2) (zh t) 0 < 0
   ·simp only [if_pos h2] at h
    by_cases h3 : Z5 (YB q t l vs 3) (zh t) 0 < 0
    ·simp only [if_pos h3] at h
     injection h with h
     unfold QK at h
     split at h
     ·injection h with h4 h5
      exact .inl h4.symm
     ·rename_i h4
      injection h with h5 h6
      rcases y2P (yhs (zh t) l vs) l 0 with h | ⟨h7, h8⟩
      ·omega
      ·exact .inr (.inr ⟨h5.symm, by omega, by omega⟩)
    ·simp only [if_neg h3] at h
     injection h with h
     exact hfind 3 (by simp) h3 h.symm
   ·simp only [if_neg h2] at h
    injection h with h
    exact hfind 2 (by simp) h2 h.symm
  ·simp only [if_neg h1] at h
   injection h with h
   exact hfind 1 (by simp) h1 h.symm
 ·injection h with h
  injection h with h1 h2
  exact .inl h1.symm
variable {q t l cs vs} (h : SP q t l cs vs)
include h
theorem y3W (step i : Int) : SP (Z1 q t l cs vs z step i).1.1 (Z1 q t l cs vs z step i).1.2.1 (Z1 q t l cs vs z step i).1.2.2.1 (Z1 q t l cs vs z step i).1.2.2.2.1 (Z1 q t l cs vs z step i).1.2.2.2.2.1 := by
 have hl := h.S.2.2.2.1
 have hc := h.S.2.2.2.2.1
 unfold Z1
 split
 ·exact (VC _ h.tq).sp h hl (by rw [yaj]; exact hc)
 ·split
  ·exact (VC _ (VC _ h.tq)).sp h hl hc
  ·refine h.tq.sp h ?_ hc
   unfold y0w
   split
   ·exact hl
   ·split
    ·unfold yyx
     exact Nat.le_trans (List.length_eraseIdx_le _ _) (by simpa using hl)
    ·exact hl
theorem yfR : SP (VD q t l cs vs z).1.1 (VD q t l cs vs z).1.2.1 (VD q t l cs vs z).1.2.2.1 (VD q t l cs vs z).1.2.2.2.1 (VD q t l cs vs z).1.2.2.2.2.1 := by
 unfold VD
 split
 ·split
  ·exact h
  ·unfold yek
   split
   ·exact y3W z h _ _
   ·exact h
 ·exact h
theorem y8K (a b c d e : Int) : Z3 (q, t, l, cs, vs, z, a, b, c, d, e) = some (if (yQ q t (a, b, 0, 0, 0)).2.2 = true then (true, (yQ q t (a, b, 0, 0, 0)).1, (yQ q t (a, b, 0, 0, 0)).2.1, l, QA q t cs (a, b, c, d, e), vs, z) else (false, q, t, l, cs, vs, z)) := by
 have hq := h.tq
 unfold Z3 Kf
 simp only [y0d q t a b hq.T hq.q, vu q t a b 0 0 0 hq.T hq.Q hq.q, Option.bind_some]
 cases hr : (yQ q t (a, b, 0, 0, 0)).2.2 with
 | false => rfl
 | true =>
  unfold kh QA
  simp only [Bool.not_true, cond_false, if_true, y2l cs _ h.S.2.2.2.2.1, Option.bind_some]
  cases (kU q t a b).2.2.2.2.2 with
  | false => rfl
  | true =>
   by_cases h1 : (kU q t a b).2.2.1 = 1
   ·rw [if_pos ⟨rfl, h1⟩]
    simp only [h1, cond_true, Option.bind_some, beq_self_eq_true]
   ·rw [if_neg fun hh => h1 hh.2]
    simp only [cond_true, Option.bind_some, beq_eq_false_iff_ne.2 h1, cond_false]
theorem y4g (a b c d e : Int) : zQ (q, t, l, cs, vs, z, a, b, 0, 0, 0) = some ((yQ q t (a, b, 0, 0, 0)).2.2, (yQ q t (a, b, 0, 0, 0)).1, (yQ q t (a, b, 0, 0, 0)).2.1, l, if (yQ q t (a, b, 0, 0, 0)).2.2 = true then QA q t cs (a, b, c, d, e) else cs, vs, z) := by
 have hq := h.tq
 unfold zQ
 simp only [y0e q t a b hq.T hq.q, vv q t a b 0 0 0 hq.T hq.Q hq.q, Option.bind_some]
 cases hr : (yQ q t (a, b, 0, 0, 0)).2.2 with
 | false => rfl
 | true =>
  unfold QA
  simp only [cond_true, if_true, Option.bind_some, y2m cs _ h.S.2.2.2.2.1]
  cases (kU q t a b).2.2.2.2.2 with
  | false => rfl
  | true =>
   by_cases h1 : (kU q t a b).2.2.1 = 1
   ·rw [if_pos ⟨rfl, h1⟩]
    simp only [h1, cond_true, Option.bind_some, beq_self_eq_true]
   ·rw [if_neg fun hh => h1 hh.2]
    simp only [cond_true, Option.bind_some, beq_eq_false_iff_ne.2 h1, cond_false]
theorem y4h : z5 (q, t, l, cs, vs, z) = some (kc q t l cs vs z) := y0b q t l cs vs z h.tq.T h.S.2.2.2.1 h.S.2.2.2.2.1 h.S.2.2.2.2.2 h.N
theorem y4i : Ym (q, t, l, cs, vs, z) = some (kc q t l cs vs z) := y0c q t l cs vs z h.tq.T h.S.2.2.2.1 h.S.2.2.2.2.1 h.S.2.2.2.2.2 h.N
end
end Go.Proofs.YtmapoakbdgpamaaGreat.Pl
namespace Go.Proofs.YtmapoakbdgpamaaGreat.Pl
open Go.Proofs.YtmapoakbdgpamaaGreat.R Go.Proofs.YtmapoakbdgpamaaGreat.XP
theorem y8L : (((0 : Int)) == 0) = true := rfl
theorem y8M : (((0 : Int)) == 1) = false := rfl
theorem y8N : (((0 : Int)) == 2) = false := rfl
theorem y8O : (((0 : Int)) == 3) = false := rfl
theorem y8P : (((0 : Int)) == 4) = false := rfl
theorem y8Q : (((1 : Int)) == 0) = false := rfl
theorem y8R : (((1 : Int)) == 1) = true := rfl
theorem y8S : (((1 : Int)) == 2) = false := rfl
theorem y8T : (((1 : Int)) == 3) = false := rfl
theorem y8U : (((1 : Int)) == 4) = false := rfl
theorem y8V : (((2 : Int)) == 0) = false := rfl
theorem y8W : (((2 : Int)) == 1) = false := rfl
theorem y8X : (((2 : Int)) == 2) = true := rfl
theorem y8Y : (((2 : Int)) == 3) = false := rfl
theorem y8Z : (((2 : Int)) == 4) = false := rfl
theorem y90 : (((3 : Int)) == 0) = false := rfl
theorem y91 : (((3 : Int)) == 1) = false := rfl
theorem y92 : (((3 : Int)) == 2) = false := rfl
theorem y93 : (((3 : Int)) == 3) = true := rfl
theorem y94 : (((3 : Int)) == 4) = false := rfl
theorem y95 : (((4 : Int)) == 0) = false := rfl
theorem y96 : (((4 : Int)) == 1) = false := rfl
theorem y97 : (((4 : Int)) == 2) = false := rfl
theorem y98 : (((4 : Int)) == 3) = false := rfl
theorem y99 : (((4 : Int)) == 4) = true := rfl
theorem yht : (((0 : Int)) != 0) = false := rfl
theorem y25 : (((0 : Int)) != 3) = true := rfl
theorem yhu : (((1 : Int)) != 0) = true := rfl
theorem y26 : (((1 : Int)) != 3) = true := rfl
theorem yhv : (((2 : Int)) != 0) = true := rfl
theorem y27 : (((2 : Int)) != 3) = true := rfl
theorem yhw : (((3 : Int)) != 0) = true := rfl
theorem y28 : (((3 : Int)) != 3) = false := rfl
theorem yhx : (((4 : Int)) != 0) = true := rfl
theorem y29 : (((4 : Int)) != 3) = true := rfl
section
variable {q : List yh} {t : List y7} {l : List yf} {cs : List yg} {vs : List yF} (z : Int) (h : SP q t l cs vs)
theorem y7c {q' : List yh} {t' : List y7} {l' : List yf} {cs' : List yg} (ok : Bool) (h' : SP q' t' l' cs' vs) : (Option.bind (bif (!ok) then some true else Option.bind (z5 (q', t', l', cs', vs, z)) fun r6 => some (!r6)) fun u5 => bif u5 then some (q, t, l, cs, vs, z, false) else some (q', t', l', cs', vs, z, true)) = some (y2n (yek (q, t, l, cs, vs, z) ((q', t', l', cs', vs, z), ok))) := by
 rw [y4h z h']
 unfold yek ykz y2n
 cases ok with
 | false => rfl
 | true =>
  simp only [Option.bind_some, Bool.not_true, cond_false, Bool.true_and]
  cases kc q' t' l' cs' vs z <;> rfl
theorem y7d {q' : List yh} {t' : List y7} {l' : List yf} {cs' : List yg} (ok : Bool) (h' : SP q' t' l' cs' vs) : (Option.bind (bif (!ok) then some true else Option.bind (Ym (q', t', l', cs', vs, z)) fun r6 => some (!r6)) fun u5 => bif u5 then some (q, t, l, cs, vs, z, false) else some (q', t', l', cs', vs, z, true)) = some (y2n (yek (q, t, l, cs, vs, z) ((q', t', l', cs', vs, z), ok))) := by
 rw [y4i z h']
 unfold yek ykz y2n
 cases ok with
 | false => rfl
 | true =>
  simp only [Option.bind_some, Bool.not_true, cond_false, Bool.true_and]
  cases kc q' t' l' cs' vs z <;> rfl
include h
theorem y1C : zT (q, t, l, cs, vs, z) = some (y2n (VD q t l cs vs z)) := by
 have hq := h.tq
 have hl := h.S.2.2.2.1
 have hc := h.S.2.2.2.2.1
 have hv := h.S.2.2.2.2.2
 obtain ⟨⟨step, i⟩, hn⟩ := y4V q t l cs vs z
 have eK : yJ (q, t) = some (zh t) := YG q t (by have := hq.T.len; omega) hq.T.nodes hq.T.sum
 unfold zT
 simp only [Qy q t l cs vs z h.S, y8w q t l cs vs z hq.T hq.q hl hc hv h.N, hn, eK, Option.bind_some]
 have hp : VD q t l cs vs z = if step = 0 then ((q, t, l, cs, vs, z), false) else yek (q, t, l, cs, vs, z) (Z1 q t l cs vs z step i) := by
  unfold VD
  rw [hn]
 have erd : y0 (zh t) i = YC t i := rfl
 have h12 : ∀ s : Int, s = 1 ∨ s = 2 → (Option.bind (Z3 (q, t, l, cs, vs, z, (YC t i).1, (YC t i).2.1, (YC t i).2.2.1, (YC t i).2.2.2.1, (YC t i).2.2.2.2)) fun r4 => Option.bind (bif (!r4.1) then some true else Option.bind (z5 (r4.2.1, r4.2.2.1, r4.2.2.2.1, r4.2.2.2.2.1, r4.2.2.2.2.2.1, r4.2.2.2.2.2.2)) fun r6 => some (!r6)) fun u5 => bif u5 then some (q, t, l, cs, vs, z, false) else some (r4.2.1, r4.2.2.1, r4.2.2.2.1, r4.2.2.2.2.1, r4.2.2.2.2.2.1, r4.2.2.2.2.2.2, true)) = some (y2n (yek (q, t, l, cs, vs, z) (Z1 q t l cs vs z s i))) := by
  intro s hs
  have hT := y3W z h s i
  unfold Z1 at hT ⊢
  rw [if_pos hs] at hT ⊢
  rw [y8K z h]
  change Option.bind (some (if (yQ q t (VW (YC t i))).2.2 = true then _ else _)) _ = _
  cases hr : (yQ q t (VW (YC t i))).2.2 with
  | false => rfl
  | true => exact y7c z true hT
 rcases y55 q t l cs vs z hn with rfl | ⟨hs, i0, i1, hk⟩ | ⟨rfl, i0, i1⟩
 ·rw [hp, if_pos rfl]
  rfl
 ·rcases hs with rfl | rfl | rfl
  ·rw [hp, if_neg (show ¬ ((1 : Int) = 0) by decide)]
   simp only [y8L, y8M, y8N, y8O, y8P, y8Q, y8R, y8S, y8T, y8U, y8V, y8W, y8X, y8Y, y8Z, y90, y91, y92, y93, y94, y95, y96, y97, y98, y99, yht, y25, yhu, y26, yhv, y27, yhw, y28, yhx, y29, cond_true, cond_false, erd]
   rw [if_pos i0, if_pos i1]
   exact h12 1 (.inl rfl)
  ·rw [hp, if_neg (show ¬ ((2 : Int) = 0) by decide)]
   simp only [y8L, y8M, y8N, y8O, y8P, y8Q, y8R, y8S, y8T, y8U, y8V, y8W, y8X, y8Y, y8Z, y90, y91, y92, y93, y94, y95, y96, y97, y98, y99, yht, y25, yhu, y26, yhv, y27, yhw, y28, yhx, y29, cond_true, cond_false, erd]
   rw [if_pos i0, if_pos i1]
   exact h12 2 (.inr rfl)
  ·rw [hp, if_neg (show ¬ ((3 : Int) = 0) by decide)]
   have hT := y3W z h 3 i
   unfold Z1 at hT ⊢
   rw [if_neg (show ¬ ((3 : Int) = 1 ∨ (3 : Int) = 2) by decide), if_pos (show (3 : Int) = 3 from rfl)] at hT ⊢
   simp only [y8L, y8M, y8N, y8O, y8P, y8Q, y8R, y8S, y8T, y8U, y8V, y8W, y8X, y8Y, y8Z, y90, y91, y92, y93, y94, y95, y96, y97, y98, y99, yht, y25, yhu, y26, yhv, y27, yhw, y28, yhx, y29, cond_true, cond_false, erd]
   rw [if_pos i0, if_pos i1]
   obtain ⟨⟨a, b, c, d, e⟩, hx⟩ : ∃ x, YC t i = x := ⟨_, rfl⟩
   rw [hx] at hk hT ⊢
   have h1 := VC (a, b, 0, 0, 0) hq
   have hone : y1y vs b = true ∧ ((zv l b).length : Int) = 1 := by
    unfold YB y8v at hk
    rw [if_neg (show ¬ (3 : Int) = 1 by decide), if_neg (show ¬ (3 : Int) = 2 by decide)] at hk
    simp only [Bool.and_eq_true, beq_iff_eq] at hk
    exact hk.1
   have eKid : YN (q, t, l, cs, vs, z, b) = some ((zv l b).getD 0 0) := by
    unfold YN
    simp only [kl l b hl, Qu q t l cs vs z b hv, hone.1, Bool.not_true, cond_false, Option.bind_some]
    rw [show (((List.length (zv l b) : Nat) : Int) != 1) = false by rw [hone.2]; rfl, cond_false, if_pos (by omega), if_pos (by omega)]
    rfl
   simp only [VW] at hT ⊢
   simp only [vu q t a b 0 0 0 hq.T hq.Q hq.q, eKid, Option.bind_some]
   rw [vu _ _ a ((zv l b).getD 0 0) c d e h1.T h1.Q h1.q]
   simp only [Option.bind_some]
   cases (yQ q t (a, b, 0, 0, 0)).2.2 with
   | false => rfl
   | true =>
    simp only [cond_true, Option.bind_some, Bool.true_and]
    exact y7c z _ hT
 ·rw [hp, if_neg (show ¬ ((4 : Int) = 0) by decide)]
  have hT := y3W z h 4 i
  unfold Z1 at hT ⊢
  rw [if_neg (show ¬ ((4 : Int) = 1 ∨ (4 : Int) = 2) by decide), if_neg (show ¬ (4 : Int) = 3 by decide)] at hT ⊢
  simp only [y8L, y8M, y8N, y8O, y8P, y8Q, y8R, y8S, y8T, y8U, y8V, y8W, y8X, y8Y, y8Z, y90, y91, y92, y93, y94, y95, y96, y97, y98, y99, yht, y25, yhu, y26, yhv, y27, yhw, y28, yhx, y29, cond_true, cond_false]
  rw [if_pos i0, if_pos i1, y4e l _ hl]
  simp only [Option.bind_some]
  exact y7c z _ hT
theorem y1D : zU (q, t, l, cs, vs, z) = some (y2n (VD q t l cs vs z)) := by
 have hq := h.tq
 have hl := h.S.2.2.2.1
 have hc := h.S.2.2.2.2.1
 have hv := h.S.2.2.2.2.2
 obtain ⟨⟨step, i⟩, hn⟩ := y4V q t l cs vs z
 have eK : zg (q, t) = some (zh t) := JW q t (by have := hq.T.len; omega) hq.T.nodes hq.T.sum
 unfold zU
 simp only [qw q t l cs vs z h.S, y8x q t l cs vs z hq.T hq.q hl hc hv h.N, hn, Option.bind_some]
 have hp : VD q t l cs vs z = if step = 0 then ((q, t, l, cs, vs, z), false) else yek (q, t, l, cs, vs, z) (Z1 q t l cs vs z step i) := by
  unfold VD
  rw [hn]
 have erd : y0 (zh t) i = YC t i := rfl
 have h12 : ∀ s : Int, s = 1 ∨ s = 2 → (Option.bind (Option.bind (zQ (q, t, l, cs, vs, z, (YC t i).1, (YC t i).2.1, (0 : Int), (0 : Int), (0 : Int))) fun r3 => some (r3.1, r3.2.1, r3.2.2.1, r3.2.2.2.1, r3.2.2.2.2.1, r3.2.2.2.2.2.1, r3.2.2.2.2.2.2)) fun r3 => Option.bind (bif (!r3.1) then some true else Option.bind (Ym (r3.2.1, r3.2.2.1, r3.2.2.2.1, r3.2.2.2.2.1, r3.2.2.2.2.2.1, r3.2.2.2.2.2.2)) fun r5 => some (!r5)) fun u4 => bif u4 then some (q, t, l, cs, vs, z, false) else some (r3.2.1, r3.2.2.1, r3.2.2.2.1, r3.2.2.2.2.1, r3.2.2.2.2.2.1, r3.2.2.2.2.2.2, true)) = some (y2n (yek (q, t, l, cs, vs, z) (Z1 q t l cs vs z s i))) := by
  intro s hs
  have hT := y3W z h s i
  unfold Z1 at hT ⊢
  rw [if_pos hs] at hT ⊢
  have e : zQ (q, t, l, cs, vs, z, (YC t i).1, (YC t i).2.1, (0 : Int), (0 : Int), (0 : Int)) = some ((yQ q t (VW (YC t i))).2.2, (yQ q t (VW (YC t i))).1, (yQ q t (VW (YC t i))).2.1, l, if (yQ q t (VW (YC t i))).2.2 = true then QA q t cs (YC t i) else cs, vs, z) := y4g z h _ _ (YC t i).2.2.1 (YC t i).2.2.2.1 (YC t i).2.2.2.2
  rw [e]
  cases hr : (yQ q t (VW (YC t i))).2.2 with
  | false => rfl
  | true => exact y7d z true hT
 rcases y55 q t l cs vs z hn with rfl | ⟨hs, i0, i1, hk⟩ | ⟨rfl, i0, i1⟩
 ·rw [hp, if_pos rfl]
  rfl
 ·unfold YY
  simp only [eK, Option.bind_some]
  rcases hs with rfl | rfl | rfl
  ·rw [hp, if_neg (show ¬ ((1 : Int) = 0) by decide)]
   simp only [y8L, y8M, y8N, y8O, y8P, y8Q, y8R, y8S, y8T, y8U, y8V, y8W, y8X, y8Y, y8Z, y90, y91, y92, y93, y94, y95, y96, y97, y98, y99, yht, y25, yhu, y26, yhv, y27, yhw, y28, yhx, y29, cond_true, cond_false, erd]
   rw [if_pos i0, if_pos i1]
   exact h12 1 (.inl rfl)
  ·rw [hp, if_neg (show ¬ ((2 : Int) = 0) by decide)]
   simp only [y8L, y8M, y8N, y8O, y8P, y8Q, y8R, y8S, y8T, y8U, y8V, y8W, y8X, y8Y, y8Z, y90, y91, y92, y93, y94, y95, y96, y97, y98, y99, yht, y25, yhu, y26, yhv, y27, yhw, y28, yhx, y29, cond_true, cond_false, erd]
   rw [if_pos i0, if_pos i1]
   exact h12 2 (.inr rfl)
  ·rw [hp, if_neg (show ¬ ((3 : Int) = 0) by decide)]
   have hT := y3W z h 3 i
   unfold Z1 at hT ⊢
   rw [if_neg (show ¬ ((3 : Int) = 1 ∨ (3 : Int) = 2) by decide), if_pos (show (3 : Int) = 3 from rfl)] at hT ⊢
   simp only [y8L, y8M, y8N, y8O, y8P, y8Q, y8R, y8S, y8T, y8U, y8V, y8W, y8X, y8Y, y8Z, y90, y91, y92, y93, y94, y95, y96, y97, y98, y99, yht, y25, yhu, y26, yhv, y27, yhw, y28, yhx, y29, cond_true, cond_false, erd]
   rw [if_pos i0, if_pos i1]
   obtain ⟨⟨a, b, c, d, e⟩, hx⟩ : ∃ x, YC t i = x := ⟨_, rfl⟩
   rw [hx] at hk hT ⊢
   have h1 := VC (a, b, 0, 0, 0) hq
   have hone : y1y vs b = true ∧ ((zv l b).length : Int) = 1 := by
    unfold YB y8v at hk
    rw [if_neg (show ¬ (3 : Int) = 1 by decide), if_neg (show ¬ (3 : Int) = 2 by decide)] at hk
    simp only [Bool.and_eq_true, beq_iff_eq] at hk
    exact hk.1
   simp only [VW] at hT ⊢
   simp only [km l b hl, vv q t a b 0 0 0 hq.T hq.Q hq.q, Option.bind_some]
   rw [if_pos (by omega), if_pos (by omega)]
   cases (yQ q t (a, b, 0, 0, 0)).2.2 with
   | false => rfl
   | true =>
    simp only [Bool.not_true, cond_false, Bool.true_and]
    rw [vv _ _ a (z9 (zv l b) 0) c d e h1.T h1.Q h1.q]
    simp only [Option.bind_some]
    exact y7d z _ hT
 ·unfold YY
  rw [hp, if_neg (show ¬ ((4 : Int) = 0) by decide)]
  have hT := y3W z h 4 i
  unfold Z1 at hT ⊢
  rw [if_neg (show ¬ ((4 : Int) = 1 ∨ (4 : Int) = 2) by decide), if_neg (show ¬ (4 : Int) = 3 by decide)] at hT ⊢
  simp only [y8L, y8M, y8N, y8O, y8P, y8Q, y8R, y8S, y8T, y8U, y8V, y8W, y8X, y8Y, y8Z, y90, y91, y92, y93, y94, y95, y96, y97, y98, y99, yht, y25, yhu, y26, yhv, y27, yhw, y28, yhx, y29, cond_true, cond_false]
  rw [if_pos i0, if_pos i1, y4f l _ hl]
  simp only [Option.bind_some]
  exact y7d z _ hT
end
end Go.Proofs.YtmapoakbdgpamaaGreat.Pl
namespace Go.Proofs.YtmapoakbdgpamaaGreat.Pl
open Go.Proofs.YtmapoakbdgpamaaGreat.R Go.Proofs.YtmapoakbdgpamaaGreat.XP
noncomputable def prP (p : PO) : PO × Bool := VD p.1 p.2.1 p.2.2.1 p.2.2.2.1 p.2.2.2.2.1 p.2.2.2.2.2
noncomputable def ycj : Nat → Int → PO → Int
 | 0, _, _ => 1000
 | m + 1, i, p => if (prP p).2 = true then ycj m (i + 1) (prP p).1 else i
def SPp (p : PO) : Prop := SP p.1 p.2.1 p.2.2.1 p.2.2.2.1 p.2.2.2.2.1
theorem yhy {p : PO} (h : SPp p) : SPp (prP p).1 := yfR p.2.2.2.2.2 h
theorem yfS {p : PO} (h : SPp p) : zT p = some (y2n (prP p)) := y1C p.2.2.2.2.2 h
theorem yfT {p : PO} (h : SPp p) : zU p = some (y2n (prP p)) := y1D p.2.2.2.2.2 h
abbrev S1 : Type := Int × Int × List yh × List y7 × List yf × List yg × List yF
def sI : S1 ⊕ (Int × PO) → Int
 | .inl x => x.1
 | .inr x => x.1
def sP : S1 ⊕ (Int × PO) → PO
 | .inl x => (x.2.2.1, x.2.2.2.1, x.2.2.2.2.1, x.2.2.2.2.2.1, x.2.2.2.2.2.2, x.2.1)
 | .inr x => x.2
abbrev S2 : Type := Int × Int × Int × List yh × List y7 × List yf × List yg × List yF
def tI : S2 ⊕ (Int × Int × PO) → Int
 | .inl x => x.1
 | .inr x => x.1
def tP : S2 ⊕ (Int × Int × PO) → PO
 | .inl x => (x.2.2.2.1, x.2.2.2.2.1, x.2.2.2.2.2.1, x.2.2.2.2.2.2.1, x.2.2.2.2.2.2.2, x.2.2.1)
 | .inr x => x.2.2
theorem y1E (p : PO) (h : SPp p) : ZQ p = some (ycj 1000 0 p) := by
 obtain ⟨q, t, l, cs, vs, z⟩ := p
 unfold ZQ vQ
 simp only [Qy q t l cs vs z h.S, Option.bind_some]
 refine Yi (step := W7 _ _) (fun x : S1 ⊕ (Int × PO) => 1000 - (sI x).toNat) (fun x => 0 ≤ (sI x) ∧ (sI x) ≤ 1000 ∧ SPp (sP x))
  (fun x => some (ycj (1000 - (sI x).toNat) (sI x) (sP x))) ?_ (Sum.inl (0, z, q, t, l, cs, vs)) ⟨Int.le_refl _, show (0 : Int) ≤ 1000 by decide, h⟩ (show 1000 - (0 : Int).toNat < 18446744073709551616 by decide)
 have key : ∀ (i : Int) (p : PO) (again : Int × PO → Option Int), 0 ≤ i → i ≤ 1000 → SPp p → (∀ p', SPp p' → i < 1000 → again (i + 1, p') = some (ycj (1000 - (i + 1).toNat) (i + 1) p')) →
   (bif (decide (i < (1000 : Int))) then Option.bind (zT p) fun r2 => bif (!r2.2.2.2.2.2.2) then some i else again ((Go.IntKind.wrap .i64 (i + (1 : Int))), r2.1, r2.2.1, r2.2.2.1, r2.2.2.2.1, r2.2.2.2.2.1, r2.2.2.2.2.2.1) else some (1000 : Int)) = some (ycj (1000 - i.toNat) i p) := by
  intro i p again i0 i1 hp ha
  by_cases hi : i < 1000
  ·have hw : Go.IntKind.wrap .i64 (i + 1) = i + 1 := w64 (by omega) (by omega)
   rw [decide_eq_true hi, cond_true, yfS hp, show 1000 - i.toNat = (1000 - (i + 1).toNat) + 1 by omega, ycj]
   simp only [Option.bind_some, y2n, hw]
   cases hb : (prP p).2 with
   | false => rfl
   | true => exact ha _ (yhy hp) hi
  ·rw [decide_eq_false hi, show 1000 - i.toNat = 0 by omega]
   rfl
 rintro again (⟨i, z, q, t, l, cs, vs⟩ | ⟨i, p⟩) ⟨i0, i1, hp⟩ hag
 ·exact key i (q, t, l, cs, vs, z) (fun x => again (Sum.inr x)) i0 i1 hp fun p' hp' hi => hag (Sum.inr (i + 1, p')) ⟨by simp only [sI] at i0 ⊢; omega, by simp only [sI]; omega, hp'⟩ (by simp only [sI] at i0 ⊢; omega)
 ·exact key i p (fun x => again (Sum.inr x)) i0 i1 hp fun p' hp' hi => hag (Sum.inr (i + 1, p')) ⟨by simp only [sI] at i0 ⊢; omega, by simp only [sI]; omega, hp'⟩ (by simp only [sI] at i0 ⊢; omega)
theorem y1F (p : PO) (h : SPp p) : ZX p = some (ycj 1000 0 p) := by
 obtain ⟨q, t, l, cs, vs, z⟩ := p
 unfold ZX vW
 simp only [qw q t l cs vs z h.S, Option.bind_some]
 have hL : ∃ p' : PO, V8 (fun x4 => some (x4.2.1, x4.2.2.1, x4.2.2.2.1, x4.2.2.2.2.1, x4.2.2.2.2.2.1, x4.2.2.2.2.2.2.1, x4.1)) (fun x5 => some (x5.2.2.1, x5.2.2.2.1, x5.2.2.2.2.1, x5.2.2.2.2.2.1, x5.2.2.2.2.2.2, x5.2.1, (1000 : Int))) (fun x6 => some (x6.2.1, x6.2.2.1, x6.2.2.2.1, x6.2.2.2.2.1, x6.2.2.2.2.2.1, x6.2.2.2.2.2.2, (1000 : Int))) (Sum.inl ((0 : Int), (0 : Int), z, q, t, l, cs, vs)) = some (p'.1, p'.2.1, p'.2.2.1, p'.2.2.2.1, p'.2.2.2.2.1, p'.2.2.2.2.2, ycj 1000 0 (q, t, l, cs, vs, z)) := by
  unfold V8
  refine y86 (step := V7 _ _ _) (fun x : S2 ⊕ (Int × Int × PO) => 1000 - (tI x).toNat) (fun x => 0 ≤ (tI x) ∧ (tI x) ≤ 1000 ∧ SPp (tP x))
   (fun x r => ∃ p' : PO, r = some (p'.1, p'.2.1, p'.2.2.1, p'.2.2.2.1, p'.2.2.2.2.1, p'.2.2.2.2.2, ycj (1000 - (tI x).toNat) (tI x) (tP x))) ?_ (Sum.inl (0, 0, z, q, t, l, cs, vs)) ⟨Int.le_refl _, show (0 : Int) ≤ 1000 by decide, h⟩ (show 1000 - (0 : Int).toNat < 18446744073709551616 by decide)
  have key : ∀ (i b : Int) (p : PO) (again : Int × Int × PO → Option (List yh × List y7 × List yf × List yg × List yF × Int × Int)), 0 ≤ i → i ≤ 1000 → SPp p → (∀ p', SPp p' → i < 1000 → ∃ p'' : PO, again (i + 1, b, p') = some (p''.1, p''.2.1, p''.2.2.1, p''.2.2.2.1, p''.2.2.2.2.1, p''.2.2.2.2.2, ycj (1000 - (i + 1).toNat) (i + 1) p')) →
    ∃ p' : PO, (bif (decide (i < (1000 : Int))) then Option.bind (zU p) fun r2 => bif (!r2.2.2.2.2.2.2) then some (p.1, p.2.1, p.2.2.1, p.2.2.2.1, p.2.2.2.2.1, p.2.2.2.2.2, i) else again ((Go.IntKind.wrap .i64 (i + (1 : Int))), b, r2.1, r2.2.1, r2.2.2.1, r2.2.2.2.1, r2.2.2.2.2.1, r2.2.2.2.2.2.1) else some (p.1, p.2.1, p.2.2.1, p.2.2.2.1, p.2.2.2.2.1, p.2.2.2.2.2, (1000 : Int))) = some (p'.1, p'.2.1, p'.2.2.1, p'.2.2.2.1, p'.2.2.2.2.1, p'.2.2.2.2.2, ycj (1000 - i.toNat) i p) := by
   intro i b p again i0 i1 hp ha
   by_cases hi : i < 1000
   ·have hw : Go.IntKind.wrap .i64 (i + 1) = i + 1 := w64 (by omega) (by omega)
    rw [decide_eq_true hi, cond_true, yfT hp, show 1000 - i.toNat = (1000 - (i + 1).toNat) + 1 by omega, ycj]
    simp only [Option.bind_some, y2n, hw]
    cases hb : (prP p).2 with
    | false => exact ⟨p, rfl⟩
    | true => exact ha _ (yhy hp) hi
   ·rw [decide_eq_false hi, show 1000 - i.toNat = 0 by omega]
    exact ⟨p, rfl⟩
  rintro again (⟨i, b, z, q, t, l, cs, vs⟩ | ⟨i, b, p⟩) ⟨i0, i1, hp⟩ hag
  ·exact key i b (q, t, l, cs, vs, z) (fun x => again (Sum.inr x)) i0 i1 hp fun p' hp' hi => hag (Sum.inr (i + 1, b, p')) ⟨by simp only [tI] at i0 ⊢; omega, by simp only [tI]; omega, hp'⟩ (by simp only [tI] at i0 ⊢; omega)
  ·exact key i b p (fun x => again (Sum.inr x)) i0 i1 hp fun p' hp' hi => hag (Sum.inr (i + 1, b, p')) ⟨by simp only [tI] at i0 ⊢; omega, by simp only [tI]; omega, hp'⟩ (by simp only [tI] at i0 ⊢; omega)
 obtain ⟨p', hp'⟩ := hL
 rw [hp']
 rfl
theorem law_StepsLeft (is : List yh) (ns : List Ya) (ags : List kZ) (cs : List Jh) (vs : List Jn) (z : Int) (hi : is.length ≤ maxLen) (hn : ns.length ≤ maxLen) (hnn : ∀ a ∈ ns, List.length a ≤ maxLen ∧ ∀ b ∈ (show List za from a), List.length b ≤ maxLen)
  (ha : ags.length ≤ maxLen) (hc : cs.length ≤ maxLen) (hv : vs.length ≤ maxLen) (hvv : ∀ a ∈ vs, ByteArray.size a.1 ≤ maxLen) : zc (is, ns, ags, cs, vs, z) = some true := by
 obtain ⟨r, hr, hcase⟩ := ydY is ns ags cs vs z hi hn hnn ha hc hv hvv
 unfold zc
 simp only [hr, Option.bind_some]
 rw [Bool.cond_eq_ite]
 by_cases h : r < 0
 ·rw [if_pos (by simpa using h)]
 ·rw [if_neg (by simpa using h)]
  have hs := hcase.resolve_left h
  have hSP : SPp (is, ns, ags, cs, vs, z) := ⟨hs, hvv⟩
  simp only [ydZ is ns ags cs vs z hs, ya7 is ns ags cs vs z hs, Option.bind_some]
  rw [y1E (is, ns, ags, cs, vs, z) hSP, y1F (is, ns, ags, cs, vs, z) hSP]
  simp
end Go.Proofs.YtmapoakbdgpamaaGreat.Pl
