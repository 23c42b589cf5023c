/- Into an element of a row of one's own. Conditions: the types lie as the context says. -/
import Derived.Test.YtmapoakbdgpamaaGreatRDeep
set_option linter.all false
namespace Go.Proofs.YtmapoakbdgpamaaGreat.R
open Go.RowKit
variable {P : Program} {C : Ctx} {w0 : World} {lent : Nat → Prop} {H0 : Base} {s : St} {a : Act} {w : World} {G : Gh} {o : Oper} {K : Act → World → Prop} {Q : Exit → Act → World → Prop} {R : Type} {k : Eff → Option R} {r : R} {lk : Lk} {call : C.Sem} {ct wn : Bool}
def RdS (H : Hp) : List (Sigma El) → List Value → Prop
 | [], [] => True
 | y :: ys, v :: vs => RdT H y.1 y.2 v ∧ RdS H ys vs
 | _, _ => False
theorem y9s : ∀ (ts : List Ty) (c : Nat) (l : List A) (ys : List (Sigma El)) (is : List Nat), y2a lk ts c l = some (ys, is) → Zr lk G is → ∀ (vs : List Value), RL G l vs → RdS G.H ys vs := by
 intro ts
 induction ts with
 | nil =>
  intro c l ys is h hs vs hr
  cases l with
  | nil =>
   have : some (([] : List (Sigma El)), ([] : List Nat)) = some (ys, is) := by
    cases c <;> exact h
   injection this with this
   injection this with h1 h2
   subst h1
   cases vs with
   | nil => trivial
   | cons _ _ => exact hr.elim
  | cons x l =>
   cases c <;> exact absurd h (by simp [y2a])
 | cons t ts ih =>
  intro c l ys is h hs vs hr
  cases l with
  | nil =>
   have : some (([] : List (Sigma El)), ([] : List Nat)) = some (ys, is) := by
    cases c <;> exact h
   injection this with this
   injection this with h1 h2
   subst h1
   cases vs with
   | nil => trivial
   | cons _ _ => exact hr.elim
  | cons x l =>
   cases c with
   | succ c => exact ih c (x :: l) ys is h hs vs hr
   | zero =>
    have h' : (match toT lk t x with
     | some (x, is) => match y2a lk ts 0 l with
      | some (r, js) => some ((⟨t, x⟩ : Sigma El) :: r, is ++ js)
      | none => none
     | none => none) = some (ys, is) := h
    cases hx : toT lk t x with
    | none =>
     rw [hx] at h'
     cases h'
    | some p =>
     obtain ⟨x', js⟩ := p
     rw [hx] at h'
     cases hl : y2a lk ts 0 l with
     | none =>
      rw [hl] at h'
      cases h'
     | some q =>
      obtain ⟨r', js'⟩ := q
      rw [hl] at h'
      injection h' with h'
      injection h' with h1 h2
      subst h1 h2
      cases vs with
      | nil => exact hr.elim
      | cons v vs => exact ⟨y0I hx hs.left hr.1, ih 0 l r' js' hl hs.right vs hr.2⟩
theorem y9t {t : Ty} {x : A} {p : El t × List Nat} (h : toT lk t x = some p) : x.one = true := by
 cases x <;> first | rfl | (simp [toT] at h)
theorem yhK : ∀ (ts : List Ty) (c : Nat) (l : List A) (ys : List (Sigma El)) (is : List Nat), y2a lk ts c l = some (ys, is) → Jk l = true := by
 intro ts
 induction ts with
 | nil =>
  intro c l ys is h
  cases l with
  | nil => rfl
  | cons x l => cases c <;> exact absurd h (by simp [y2a])
 | cons t ts ih =>
  intro c l ys is h
  cases l with
  | nil => rfl
  | cons x l =>
   cases c with
   | succ c => exact ih c (x :: l) ys is h
   | zero =>
    have h' : (match toT lk t x with
     | some (x, is) => match y2a lk ts 0 l with
      | some (r, js) => some ((⟨t, x⟩ : Sigma El) :: r, is ++ js)
      | none => none
     | none => none) = some (ys, is) := h
    cases hx : toT lk t x with
    | none =>
     rw [hx] at h'
     cases h'
    | some p =>
     rw [hx] at h'
     cases hl : y2a lk ts 0 l with
     | none =>
      rw [hl] at h'
      cases h'
     | some q => simp [Jk, y9t hx, ih 0 l q.1 q.2 hl]
theorem ybv {H : Hp} : ∀ (ts : List Ty) (x : yB ts) (c : Nat) (ys : List (Sigma El)) (x' : yB ts), qy ts x c ys = some x' → ∀ (vs : List Value) (f : Nat → Option Value), RdS H ys vs → RdE H ts x f →
  RdE H ts x' (fun i => if c ≤ i ∧ i < c + vs.length then vs[i - c]? else f i) ∧ (vs = [] ∨ c + vs.length ≤ ts.length) := by
 intro ts
 induction ts with
 | nil =>
  intro x c ys x' h vs f hy hr
  cases ys with
  | nil =>
   cases vs with
   | nil => exact ⟨trivial, .inl rfl⟩
   | cons _ _ => exact hy.elim
  | cons y ys => cases c <;> exact absurd h (by rw [show qy [] x _ (y :: ys) = none from rfl]; exact fun h => by cases h)
 | cons t ts ih =>
  intro x c ys x' h vs f hy hr
  cases ys with
  | nil =>
   cases vs with
   | cons _ _ => exact hy.elim
   | nil =>
    have hxx : some x = some x' := by
     cases ts <;> cases c <;> exact h
    injection hxx with hxx
    subst hxx
    refine ⟨RdE.mono (Hp.le.refl H) _ x _ _ (fun i v hv => ?_) hr, .inl rfl⟩
    rw [if_neg (by simp only [List.length_nil]; omega)]
    exact hv
  | cons y ys =>
   obtain ⟨u, y⟩ := y
   cases vs with
   | nil => exact hy.elim
   | cons v vs =>
    cases ts with
    | nil =>
     cases c with
     | succ c => exact absurd h (by rw [show qy [t] x (c + 1) (⟨u, y⟩ :: ys) = none by cases ys <;> rfl]; exact fun h => by cases h)
     | zero =>
      cases ys with
      | cons y2 ys => exact absurd h (by rw [show qy [t] x 0 (⟨u, y⟩ :: y2 :: ys) = none from rfl]; exact fun h => by cases h)
      | nil =>
       have h' : Zo u t y = some x' := h
       cases vs with
       | cons _ _ => exact hy.2.elim
       | nil => exact ⟨⟨v, by simp, vE h' hy.1⟩, .inr (by simp)⟩
    | cons t2 ts =>
     obtain ⟨⟨v0, hv0, hr0⟩, hrs⟩ := hr
     cases c with
     | zero =>
      have h' : (match Zo u t y with
       | some z => match qy (t2 :: ts) x.2 0 ys with
        | some w => some ((z, w) : yB (t :: t2 :: ts))
        | none => none
       | none => none) = some x' := h
      cases hc : Zo u t y with
      | none =>
       rw [hc] at h'
       cases h'
      | some z =>
       rw [hc] at h'
       cases hs : qy (t2 :: ts) x.2 0 ys with
       | none =>
        rw [hs] at h'
        cases h'
       | some w =>
        rw [hs] at h'
        injection h' with h'
        subst h'
        obtain ⟨h1, h2⟩ := ih x.2 0 ys w hs vs _ hy.2 hrs
        refine ⟨⟨⟨v, by simp, vE hc hy.1⟩, RdE.mono (Hp.le.refl H) _ w _ _ (fun i v' hv' => ?_) h1⟩, .inr ?_⟩
        ·show (if 0 ≤ i + 1 ∧ i + 1 < 0 + (v :: vs).length then (v :: vs)[i + 1 - 0]? else f (i + 1)) = some v'
         by_cases hi : 0 ≤ i ∧ i < 0 + vs.length
         ·rw [if_pos hi] at hv'
          rw [if_pos (by simp only [List.length_cons]; omega)]
          simpa using hv'
         ·rw [if_neg hi] at hv'
          rw [if_neg (by simp only [List.length_cons]; omega)]
          exact hv'
        ·rcases h2 with rfl | h2
         ·simp
         ·simp only [List.length_cons] at h2 ⊢
          omega
     | succ c =>
      have h' : (match qy (t2 :: ts) x.2 c (⟨u, y⟩ :: ys) with
       | some w => some ((x.1, w) : yB (t :: t2 :: ts))
       | none => none) = some x' := h
      cases hs : qy (t2 :: ts) x.2 c (⟨u, y⟩ :: ys) with
      | none =>
       rw [hs] at h'
       cases h'
      | some w =>
       rw [hs] at h'
       injection h' with h'
       subst h'
       obtain ⟨h1, h2⟩ := ih x.2 c (⟨u, y⟩ :: ys) w hs (v :: vs) _ hy hrs
       refine ⟨⟨⟨v0, by simpa using hv0, hr0⟩, RdE.mono (Hp.le.refl H) _ w _ _ (fun i v' hv' => ?_) h1⟩, .inr ?_⟩
       ·show (if c + 1 ≤ i + 1 ∧ i + 1 < c + 1 + (v :: vs).length then (v :: vs)[i + 1 - (c + 1)]? else f (i + 1)) = some v'
        by_cases hi : c ≤ i ∧ i < c + (v :: vs).length
        ·rw [if_pos hi] at hv'
         rw [if_pos (by simp only [List.length_cons] at hi ⊢; omega), show i + 1 - (c + 1) = i - c by omega]
         exact hv'
        ·rw [if_neg hi] at hv'
         rw [if_neg (by simp only [List.length_cons] at hi ⊢; omega)]
         exact hv'
       ·rcases h2 with h2 | h2
        ·cases h2
        ·simp only [List.length_cons] at h2 ⊢
         omega
theorem Rel.setRoot (h : Rel P w0 lent H0 s a w G) {q e : Nat} {ts : List Ty} {xs : List (yB ts)} (hq : yq s.o q = some (.root true e ts xs)) {i c : Nat} (hi : i < xs.length) {x x' : yB ts} {ys : List (Sigma El)} {vs : List Value}
  (hx : xs[i]? = some x) (hs : qy ts x c ys = some x') (hy : RdS G.H ys vs) (h1 : ∀ v ∈ vs, v.oneCell' = true) (hne : vs ≠ []) :
  Rel P w0 lent H0 (s.set q (.root true e ts (xs.set i x'))) a (w.setCells (G.g q).1 (i * ts.length + c) vs) G ∧
  (∀ j, j < vs.length → (w.cell? ⟨(G.g q).1, i * ts.length + c + j, none⟩).isSome = true ∧ w.frozen? ⟨(G.g q).1, i * ts.length + c + j, none⟩ = false) := by
 obtain ⟨hsz, hpos, cells, hown, hone, hblk, hrd⟩ := h.objs q _ hq
 rcases hown.2 with ⟨_, hn⟩ | ⟨g, cap, cur, hv, _, hh, hcap, hmax, hcs, htk⟩
 ·omega
 have hg : g = (G.g q).1 := hblk g (by simp [hv, Value.ownBlock])
 subst hg
 obtain ⟨hE, hfit⟩ := ybv (H := G.H) ts x c ys x' hs vs _ hy (hrd i x hx)
 have hfit' : c + vs.length ≤ ts.length := hfit.resolve_left hne
 have hi1 : (i + 1) * ts.length ≤ xs.length * ts.length := Nat.mul_le_mul_right _ hi
 rw [Nat.add_mul, Nat.one_mul] at hi1
 have hn2 : xs.length * ts.length ≤ cap * ts.length := Nat.mul_le_mul_right _ hcap
 have hbound : i * ts.length + c + vs.length ≤ cur.size := by omega
 have hin : ∀ j, j < vs.length → (w.cell? ⟨(G.g q).1, i * ts.length + c + j, none⟩).isSome = true ∧ w.frozen? ⟨(G.g q).1, i * ts.length + c + j, none⟩ = false := by
  intro j hj
  constructor
  ·rw [cell_of_row w _ _ cur e (0, 0) hh]
   have hlt : i * ts.length + c + j < cur.size := by omega
   simp [hlt]
  ·simp [World.frozen?, hh]
 refine ⟨?_, hin⟩
 obtain ⟨e1, e2, e3, e4⟩ := jX (G.g q).1 vs (i * ts.length + c) w
 have hbq : yL G q (.root true e ts xs) (G.g q).1 := by simp [yL, hv, Value.ownBlock]
 have h2 := (h.gone q).heap (w' := w.setCells (G.g q).1 (i * ts.length + c) vs) e1 e2 e3 (by omega) (fun k hk => by
  by_cases hkb : k = (G.g q).1
  ·subst hkb
   exact .inr (jo h hq hbq)
  ·exact .inl (Yn _ _ _ _ _ hkb))
 have hh' := jW (G.g q).1 vs (i * ts.length + c) w cur hh
 have hget := fun j => JZ vs cur (i * ts.length + c) j hbound
 have hold : ∀ m, m < xs.length * ts.length → cells[m]? = cur[m]? := by
  intro m hm
  rw [← htk, List.getElem?_take, if_pos hm]
  simp
 have hnew : ∀ m, m < xs.length * ts.length → ((zB cur (i * ts.length + c) vs).toList.take (xs.length * ts.length))[m]? = if i * ts.length + c ≤ m ∧ m < i * ts.length + c + vs.length then vs[m - (i * ts.length + c)]? else cells[m]? := by
  intro m hm
  rw [List.getElem?_take, if_pos hm, hold m hm, Array.getElem?_toList, hget m]
 have h3 := h2.set (i := q) (ob := .root true e ts (xs.set i x')) (by
  refine ⟨by rw [List.length_set]; exact hsz, hpos, (zB cur (i * ts.length + c) vs).toList.take (xs.length * ts.length), ⟨?_, .inr ⟨(G.g q).1, cap, zB cur (i * ts.length + c) vs, by rw [List.length_set]; exact hv, Nat.zero_le _, hh', by rw [List.length_set]; exact hcap, hmax, by rw [zG]; exact hcs, by rw [List.length_set]⟩⟩, fun u hu => ?_, hblk, fun j y hj => ?_⟩
  ·simp [zG, List.length_set]
   omega
  ·obtain ⟨m, hm⟩ := List.mem_iff_getElem?.1 hu
   have hml : m < xs.length * ts.length := by
    have := (List.getElem?_eq_some_iff.1 hm).1
    rw [List.length_take] at this
    omega
   rw [hnew m hml] at hm
   split at hm
   ·exact h1 u (List.mem_of_getElem? hm)
   ·exact hone u (List.mem_of_getElem? hm)
  ·have hjl : j < xs.length := by
    have := (List.getElem?_eq_some_iff.1 hj).1
    rwa [List.length_set] at this
   have hj1 : (j + 1) * ts.length ≤ xs.length * ts.length := Nat.mul_le_mul_right _ hjl
   rw [Nat.add_mul, Nat.one_mul] at hj1
   by_cases hji : j = i
   ·subst hji
    rw [List.getElem?_set_self hi] at hj
    injection hj with hj
    subst hj
    refine RdE.ext ts x' _ _ (fun m v hm hv => ?_) hE
    rw [hnew _ (by omega)]
    by_cases hc : c ≤ m ∧ m < c + vs.length
    ·have hv' : (if c ≤ m ∧ m < c + vs.length then vs[m - c]? else cells[j * ts.length + m]?) = some v := hv
     rw [if_pos hc] at hv'
     rw [if_pos (by omega), show j * ts.length + m - (j * ts.length + c) = m - c by omega]
     exact hv'
    ·have hv' : (if c ≤ m ∧ m < c + vs.length then vs[m - c]? else cells[j * ts.length + m]?) = some v := hv
     rw [if_neg hc] at hv'
     rw [if_neg (by omega)]
     exact hv'
   ·rw [List.getElem?_set_ne (fun e => hji e.symm)] at hj
    refine RdE.ext ts y _ _ (fun m v hm hv => ?_) (hrd j y hj)
    rw [hnew _ (by omega), if_neg ?_]
    ·exact hv
    ·intro hc
     rcases Nat.lt_or_gt_of_ne hji with hlt | hlt
     ·have : (j + 1) * ts.length ≤ i * ts.length := Nat.mul_le_mul_right _ hlt
      rw [Nat.add_mul, Nat.one_mul] at this
      omega
     ·have : (i + 1) * ts.length ≤ j * ts.length := Nat.mul_le_mul_right _ hlt
      rw [Nat.add_mul, Nat.one_mul] at this
      omega) (fun k hk => ?_)
 ·rw [St.set_set] at h3
  exact h3
 ·have hk' : (G.g q).1 = k := by simpa [yL, hv, Value.ownBlock] using hk
  subst hk'
  obtain ⟨f1, f2, f3⟩ := jo h hq hbq
  exact ⟨f1, f2, fun j oj _ hj => f3 j oj hj⟩
theorem VG {G : Gh} {q : Nat} {B : Nat → Prop} {j : Nat} {oj : Ob} (hj : j ≠ q) : yL (G.setDp q B) j oj = yL G j oj := by
 cases oj with
 | deep _ _ _ _ _ => funext k; simp [yL, Gh.setDp, hj]
 | root own _ _ _ => cases own <;> rfl
 | _ => rfl
theorem DpS.noSlice {w : World} : ∀ {ys : List (Sigma El)} {bs : List (Nat → Prop)} {vs : List Value}, DpS w ys bs vs → y9g ys = true → ∀ (j : Nat) (A : Option Addr) (n cc : Nat), vs[j]? ≠ some (.slice A n cc)
 | [], [], [], _, _, j, A, n, cc => by simp
 | ⟨t, y⟩ :: ys, b :: bs, v :: vs, hd, hf, 0, A, n, cc => by
  intro he
  have hv : v = .slice A n cc := by simpa using he
  have hd1 : DpT w t b y v := hd.1
  simp only [y9g, Bool.and_eq_true] at hf
  rw [hv] at hd1
  cases t with
  | sl _ _ => simp [Ty.flat] at hf
  | int _ => cases (show Value.slice A n cc = _ from hd1)
  | bool => cases (show Value.slice A n cc = _ from hd1)
  | str => cases (show Value.slice A n cc = _ from hd1)
 | ⟨t, y⟩ :: ys, b :: bs, v :: vs, hd, hf, j + 1, A, n, cc => by
  simp only [y9g, Bool.and_eq_true] at hf
  have := DpS.noSlice hd.2 hf.2 j A n cc
  simpa using this
theorem DpR.store {w : World} {B : Nat → Prop} {e : Nat} {ts : List Ty} {xs : List (yB ts)} {sv : Value} {cells : List Value} {Bs : Nat → Nat → Prop} (hd : DpR w B e ts xs sv cells Bs) {g cap : Nat} {cur : Array Value} (hv : sv = .slice (some ⟨g, 0, none⟩) xs.length cap) (hh : w.heap[g]? = some (.cells cur e (0, 0))) (hcap : xs.length ≤ cap) (hmax : cap ≤ maxLen) (hcs : cur.size = cap * ts.length) (htk : cur.toList.take (xs.length * ts.length) = cells)
  {i c : Nat} (hi : i < xs.length) {x x' : yB ts} {ys : List (Sigma El)} {vs : List Value} {bs : List (Nat → Prop)} (hx : xs[i]? = some x) (hs : qy ts x c ys = some x') (hy : DpS w ys bs vs) (hap : y0J bs) (hgd : ∀ k, In bs k → ¬ B k) (h1 : ∀ v ∈ vs, v.oneCell' = true) (hfit' : c + vs.length ≤ ts.length) :
  ∃ cells' Bs', DpR (w.setCells g (i * ts.length + c) vs) (fun k => B k ∨ In bs k) e ts (xs.set i x') sv cells' Bs' ∧ ∀ m, m < cells'.length → cells'[m]? = if i * ts.length + c ≤ m ∧ m < i * ts.length + c + vs.length then vs[m - (i * ts.length + c)]? else cells[m]? := by
 classical
 obtain ⟨hE, hfit⟩ := y5b ts x c ys x' hs
 obtain ⟨hlb, hlv⟩ := hy.lens
 have hi1 : (i + 1) * ts.length ≤ xs.length * ts.length := Nat.mul_le_mul_right _ hi
 rw [Nat.add_mul, Nat.one_mul] at hi1
 have hn2 : xs.length * ts.length ≤ cap * ts.length := Nat.mul_le_mul_right _ hcap
 have hbound : i * ts.length + c + vs.length ≤ cur.size := by omega
 have hob : sv.ownBlock = some g := by rw [hv]; rfl
 have htop : B g := hd.top _ hob
 have hh' := jW g vs (i * ts.length + c) w cur hh
 have hget := fun j => JZ vs cur (i * ts.length + c) j hbound
 have hold : ∀ m, m < xs.length * ts.length → cells[m]? = cur[m]? := by
  intro m hm
  rw [← htk, List.getElem?_take, if_pos hm]
  simp
 have hnew : ∀ m, m < xs.length * ts.length → ((zB cur (i * ts.length + c) vs).toList.take (xs.length * ts.length))[m]? = if i * ts.length + c ≤ m ∧ m < i * ts.length + c + vs.length then vs[m - (i * ts.length + c)]? else cells[m]? := by
  intro m hm
  rw [List.getElem?_take, if_pos hm, hold m hm, Array.getElem?_toList, hget m]
 have hother : ∀ k, k ≠ g → (w.setCells g (i * ts.length + c) vs).heap[k]? = w.heap[k]? := fun k hk => Yn _ _ _ _ _ hk
 have hget2 : ∀ (l : List (Nat → Prop)) (m k : Nat), (l.getD m fun _ => False) k → ∃ b, l[m]? = some b ∧ b k := by
  intro l m k hk
  rw [List.getD_eq_getElem?_getD] at hk
  cases hl : l[m]? with
  | none => rw [hl] at hk; exact hk.elim
  | some b => exact ⟨b, rfl, by rw [hl] at hk; exact hk⟩
 let Bs' : Nat → Nat → Prop := fun m => if i * ts.length + c ≤ m ∧ m < i * ts.length + c + vs.length then bs.getD (m - (i * ts.length + c)) (fun _ => False) else Bs m
 have hBs : ∀ m k, Bs' m k → (i * ts.length + c ≤ m ∧ m < i * ts.length + c + vs.length ∧ ∃ b, bs[m - (i * ts.length + c)]? = some b ∧ b k) ∨ (¬ (i * ts.length + c ≤ m ∧ m < i * ts.length + c + vs.length) ∧ Bs m k) := by
  intro m k hk
  have hk' : (if i * ts.length + c ≤ m ∧ m < i * ts.length + c + vs.length then bs.getD (m - (i * ts.length + c)) (fun _ => False) else Bs m) k := hk
  by_cases hm : i * ts.length + c ≤ m ∧ m < i * ts.length + c + vs.length
  ·rw [if_pos hm] at hk'
   obtain ⟨b, hb, hbk⟩ := hget2 _ _ _ hk'
   exact .inl ⟨hm.1, hm.2, b, hb, hbk⟩
  ·rw [if_neg hm] at hk'
   exact .inr ⟨hm, hk'⟩
 refine ⟨_, Bs', (?_ : DpR (w.setCells g (i * ts.length + c) vs) (fun k => B k ∨ In bs k) e ts (xs.set i x') sv ((zB cur (i * ts.length + c) vs).toList.take (xs.length * ts.length)) Bs'), fun m hm => hnew m (by rw [List.length_take] at hm; omega)⟩
 ·refine ⟨hd.pos, ⟨?_, .inr ⟨g, cap, zB cur (i * ts.length + c) vs, by rw [List.length_set]; exact hv, Nat.zero_le _, hh', by rw [List.length_set]; exact hcap, hmax, by rw [zG]; exact hcs, by rw [List.length_set]⟩⟩, fun u hu => ?_, fun k hk => .inl (hd.top k hk), fun m k hk => ?_, fun m m' k hk hk' => ?_, fun j y hj => ?_⟩
  ·simp [zG, List.length_set]
   omega
  ·obtain ⟨m, hm⟩ := List.mem_iff_getElem?.1 hu
   have hml : m < xs.length * ts.length := by
    have := (List.getElem?_eq_some_iff.1 hm).1
    rw [List.length_take] at this
    omega
   rw [hnew m hml] at hm
   split at hm
   ·exact h1 u (List.mem_of_getElem? hm)
   ·exact hd.one u (List.mem_of_getElem? hm)
  ·rcases hBs m k hk with ⟨_, _, b, hb, hbk⟩ | ⟨_, hb⟩
   ·have hInk : In bs k := ⟨b, List.mem_of_getElem? hb, hbk⟩
    exact ⟨.inr hInk, fun he => hgd k hInk (hd.top k he)⟩
   ·exact ⟨.inl (hd.sub m k hb).1, (hd.sub m k hb).2⟩
  ·rcases hBs m k hk with ⟨a1, a2, b, hb, hbk⟩ | ⟨a1, hb⟩ <;> rcases hBs m' k hk' with ⟨a1', a2', b', hb', hbk'⟩ | ⟨a1', hb'⟩
   ·have hpw := List.pairwise_iff_getElem.1 hap
    obtain ⟨l1, g1⟩ := List.getElem?_eq_some_iff.1 hb
    obtain ⟨l2, g2⟩ := List.getElem?_eq_some_iff.1 hb'
    rcases Nat.lt_trichotomy (m - (i * ts.length + c)) (m' - (i * ts.length + c)) with hlt | heq | hlt
    ·exact absurd (by rw [g2]; exact hbk') (hpw _ _ l1 l2 hlt k (by rw [g1]; exact hbk))
    ·omega
    ·exact absurd (by rw [g1]; exact hbk) (hpw _ _ l2 l1 hlt k (by rw [g2]; exact hbk'))
   ·exact absurd (hd.sub m' k hb').1 (hgd k ⟨b, List.mem_of_getElem? hb, hbk⟩)
   ·exact absurd (hd.sub m k hb).1 (hgd k ⟨b', List.mem_of_getElem? hb', hbk'⟩)
   ·exact hd.dis m m' k hb hb'
  ·have hjl : j < xs.length := by
    have := (List.getElem?_eq_some_iff.1 hj).1
    rwa [List.length_set] at this
   have hj1 : (j + 1) * ts.length ≤ xs.length * ts.length := Nat.mul_le_mul_right _ hjl
   rw [Nat.add_mul, Nat.one_mul] at hj1
   refine (wk ts _ _ _).2 fun c' y' hc' => ?_
   have hcl := y2o ts _ _ _ hc'
   by_cases hji : j = i
   ·subst hji
    rw [List.getElem?_set_self hi] at hj
    injection hj with hj
    subst hj
    rw [hE c'] at hc'
    by_cases hc2 : c ≤ c' ∧ c' < c + ys.length
    ·rw [if_pos hc2] at hc'
     obtain ⟨u, hu, hdu⟩ := hy.get _ _ hc'
     refine ⟨u, ?_, ?_⟩
     ·show ((zB cur (j * ts.length + c) vs).toList.take (xs.length * ts.length))[j * ts.length + c']? = some u
      rw [hnew _ (by omega), if_pos (by omega), show j * ts.length + c' - (j * ts.length + c) = c' - c by omega]
      exact hu
     ·show DpT _ _ (if _ then _ else _) _ _
      rw [if_pos (by omega), show j * ts.length + c' - (j * ts.length + c) = c' - c by omega]
      refine DpT.frame _ _ _ _ _ (fun k hk => hother k fun he => ?_) (fun _ hk => hk) hdu
      obtain ⟨b, hb, hbk⟩ := hget2 _ _ _ hk
      subst he
      exact hgd _ ⟨b, List.mem_of_getElem? hb, hbk⟩ htop
    ·rw [if_neg hc2] at hc'
     obtain ⟨u, hu, hdu⟩ := (wk ts _ _ _).1 (hd.rd j x hx) c' y' hc'
     refine ⟨u, ?_, ?_⟩
     ·show ((zB cur (j * ts.length + c) vs).toList.take (xs.length * ts.length))[j * ts.length + c']? = some u
      rw [hnew _ (by omega), if_neg (by omega)]
      exact hu
     ·show DpT _ _ (if _ then _ else _) _ _
      rw [if_neg (by omega)]
      exact DpT.frame _ _ _ _ _ (fun k hk => hother k fun he => (hd.sub _ k hk).2 (by rw [he]; exact hob)) (fun _ hk => hk) hdu
   ·rw [List.getElem?_set_ne (fun e => hji e.symm)] at hj
    obtain ⟨u, hu, hdu⟩ := (wk ts _ _ _).1 (hd.rd j y hj) c' y' hc'
    have hout : ¬ (i * ts.length + c ≤ j * ts.length + c' ∧ j * ts.length + c' < i * ts.length + c + vs.length) := by
     intro hc
     rcases Nat.lt_or_gt_of_ne hji with hlt | hlt
     ·have : (j + 1) * ts.length ≤ i * ts.length := Nat.mul_le_mul_right _ hlt
      rw [Nat.add_mul, Nat.one_mul] at this
      omega
     ·have : (i + 1) * ts.length ≤ j * ts.length := Nat.mul_le_mul_right _ hlt
      rw [Nat.add_mul, Nat.one_mul] at this
      omega
    refine ⟨u, ?_, ?_⟩
    ·show ((zB cur (i * ts.length + c) vs).toList.take (xs.length * ts.length))[j * ts.length + c']? = some u
     rw [hnew _ (by omega), if_neg hout]
     exact hu
    ·show DpT _ _ (if _ then _ else _) _ _
     rw [if_neg hout]
     exact DpT.frame _ _ _ _ _ (fun k hk => hother k fun he => (hd.sub _ k hk).2 (by rw [he]; exact hob)) (fun _ hk => hk) hdu
theorem Rel.setDeep (h : Rel P w0 lent H0 s a w G) {q e tag : Nat} {fin : Bool} {ts : List Ty} {xs : List (yB ts)} (hq : yq s.o q = some (.deep fin tag e ts xs)) {i c : Nat} (hi : i < xs.length) {x x' : yB ts} {ys : List (Sigma El)} {vs : List Value} {bs : List (Nat → Prop)} {gs : List Nat}
  (hx : xs[i]? = some x) (hs : qy ts x c ys = some x') (hy : DpS w ys bs vs) (hgs : QQ s G gs bs) (hap : y0J bs) (hlt : ∀ k, In bs k → k < w.heap.size) (hqg : q ∉ gs) (h1 : ∀ v ∈ vs, v.oneCell' = true) (hne : vs ≠ []) :
  Rel P w0 lent H0 ((s.setAll (zE gs)).set q (.deep (fin && y9g ys) tag e ts (xs.set i x'))) a (w.setCells (G.g q).1 (i * ts.length + c) vs) (G.setDp q fun k => G.dp q k ∨ In bs k) ∧
  (∀ j, j < vs.length → (w.cell? ⟨(G.g q).1, i * ts.length + c + j, none⟩).isSome = true ∧ w.frozen? ⟨(G.g q).1, i * ts.length + c + j, none⟩ = false) := by
 classical
 obtain ⟨hsz, hdlt, htag, hblk, cells, Bs, hd, hfin⟩ := h.objs q _ hq
 rcases hd.row.2 with ⟨_, hn⟩ | ⟨g, cap, cur, hv, _, hh, hcap, hmax, hcs, htk⟩
 ·omega
 have hg : g = (G.g q).1 := hblk g (by simp [hv, Value.ownBlock])
 subst hg
 obtain ⟨hE, hfit⟩ := y5b ts x c ys x' hs
 obtain ⟨hlb, hlv⟩ := hy.lens
 have hfit' : c + vs.length ≤ ts.length := by
  rcases hfit with h0 | h0
  ·rw [h0] at hlv
   exact absurd (List.length_eq_zero_iff.1 hlv) hne
  ·omega
 have hi1 : (i + 1) * ts.length ≤ xs.length * ts.length := Nat.mul_le_mul_right _ hi
 rw [Nat.add_mul, Nat.one_mul] at hi1
 have hn2 : xs.length * ts.length ≤ cap * ts.length := Nat.mul_le_mul_right _ hcap
 have hbound : i * ts.length + c + vs.length ≤ cur.size := by omega
 have hin : ∀ j, j < vs.length → (w.cell? ⟨(G.g q).1, i * ts.length + c + j, none⟩).isSome = true ∧ w.frozen? ⟨(G.g q).1, i * ts.length + c + j, none⟩ = false := by
  intro j hj
  constructor
  ·rw [cell_of_row w _ _ cur e (0, 0) hh]
   have hlt : i * ts.length + c + j < cur.size := by omega
   simp [hlt]
  ·simp [World.frozen?, hh]
 refine ⟨?_, hin⟩
 obtain ⟨e1, e2, e3, e4⟩ := jX (G.g q).1 vs (i * ts.length + c) w
 have hob : (G.sv q).ownBlock = some (G.g q).1 := by rw [hv]; rfl
 have htop : G.dp q (G.g q).1 := hd.top _ hob
 have h0 := Rel.gones gs h
 have hq0 : yq (s.setAll (zE gs)).o q = some (.deep fin tag e ts xs) := by
  rw [w6, if_neg hqg]
  exact hq
 have hgone := h0.gone q
 have hlq : yq ((s.setAll (zE gs)).set q .gone).o q = some .gone := by
  show yq (kY _ q _) q = _
  rw [zH]
  simp [hq0]
 have h2 := hgone.heap (w' := w.setCells (G.g q).1 (i * ts.length + c) vs) e1 e2 e3 (by omega) (fun k hk => by
  by_cases hkb : k = (G.g q).1
  ·subst hkb
   exact .inr (jo h0 hq0 htop)
  ·exact .inl (Yn _ _ _ _ _ hkb))
 have h2' := h2.setDp hlq (fun k => G.dp q k ∨ In bs k)
 have hgd : ∀ k, In bs k → ¬ G.dp q k := fun k hk hdk => by
  obtain ⟨q', hq', ob, hl, hbq⟩ := hgs k hk
  have := h.apart q' q _ _ k hl hq hbq hdk
  subst this
  exact hqg hq'
 obtain ⟨cells', Bs', hR, hnew⟩ := hd.store hv hh hcap hmax hcs htk hi hx hs hy hap hgd h1 hfit'
 have hdp : (G.setDp q fun k => G.dp q k ∨ In bs k).dp q = fun k => G.dp q k ∨ In bs k := by simp [Gh.setDp]
 have h3 := h2'.set (i := q) (ob := .deep (fin && y9g ys) tag e ts (xs.set i x')) ⟨by rw [List.length_set]; exact hsz, fun k hk => by
   rw [hdp] at hk
   rw [e4]
   exact hk.elim (hdlt k) (hlt k), htag, hblk, cells', Bs', by rw [hdp]; exact hR, fun hf m A n cc hm => by
   simp only [Bool.and_eq_true] at hf
   rw [hnew m (List.getElem?_eq_some_iff.1 hm).1] at hm
   by_cases hm2 : i * ts.length + c ≤ m ∧ m < i * ts.length + c + vs.length
   ·rw [if_pos hm2] at hm
    exact absurd hm (hy.noSlice hf.2 _ A n cc)
   ·rw [if_neg hm2] at hm
    exact hfin hf.1 m A n cc hm⟩ (fun k hk => by
   have hk' : G.dp q k ∨ In bs k := by
    have hk2 : (G.setDp q fun k => G.dp q k ∨ In bs k).dp q k := hk
    rw [hdp] at hk2
    exact hk2
   have hbl : ∀ (j : Nat) (oj : Ob), j ≠ q → yq ((s.setAll (zE gs)).set q .gone).o j = some oj → yq (s.setAll (zE gs)).o j = some oj := by
    intro j oj hj hl
    have hl' : yq (kY (s.setAll (zE gs)).o q .gone) j = some oj := hl
    rw [zH, if_neg hj] at hl'
    exact hl'
   have hbeq : ∀ (j : Nat) (oj : Ob), j ≠ q → yL (G.setDp q fun k => G.dp q k ∨ In bs k) j oj = yL G j oj := fun j oj hj => VG hj
   rcases hk' with hk' | hk'
   ·obtain ⟨a1, a2⟩ := h.away q _ k hq hk'
    refine ⟨a1, a2, fun j oj hj hl hbj => hj ?_⟩
    rw [hbeq j oj hj] at hbj
    exact h0.apart j q _ _ k (hbl j oj hj hl) hq0 hbj hk'
   ·obtain ⟨q', hq', ob, hl', hbq⟩ := hgs k hk'
    obtain ⟨a1, a2⟩ := h.away q' _ k hl' hbq
    refine ⟨a1, a2, fun j oj hj hl hbj => ?_⟩
    rw [hbeq j oj hj] at hbj
    have hl2 := hbl j oj hj hl
    rw [w6] at hl2
    split at hl2
    ·obtain ⟨_, _, rfl⟩ := Option.map_eq_some_iff.1 hl2
     exact hbj
    ·rename_i hjg
     have := h.apart j q' _ _ k hl2 hl' hbj hbq
     subst this
     exact hjg hq')
 rw [St.set_set] at h3
 exact h3
theorem yeA (hT : TOk C P) (h : Rel P w0 lent H0 s a w G) (hK : y1j P w0 lent H0 s o k r K) (hlk : y1H lk s) {t : Nat} {p x : Operand} (hop : o.op = .store t p x) (he : Zn C call ct wn o s.opd lk k = some r) : o.wp P a w K Q := by
 have hp := h.opd p
 have hx := h.opd x
 simp only [Zn, hop] at he
 cases ht : C.info t with
 | none => simp [ht] at he
 | some ti =>
  simp only [ht] at he
  cases hb : Nat.beq (s.opd x).cells.length ti.ts.length with
  | false => simp [hb] at he
  | true =>
   simp only [hb, cond_true] at he
   have hbl := Nat.eq_of_beq_eq_true hb
   cases hpa : s.opd p with
   | box b off =>
    rw [hpa] at hp he
    simp only [yal] at he
    cases hl : lk b with
    | none => simp [hl] at he
    | some ob =>
     cases ob with
     | box cs =>
      simp only [hl] at he
      cases hs : Zp cs off (s.opd x).cells with
      | none => simp [hs] at he
      | some cs' =>
       simp only [hs] at he
       cases h1 : Jk (s.opd x).cells with
       | false => simp [h1] at he
       | true =>
        simp only [h1, cond_true] at he
        have hlr := Kw h1 hx
        have hone := Kv h1 hlr
        obtain ⟨hrel, hin⟩ := h.setBox (hlk b _ hl) hs hlr hone
        refine wp_skip (w' := w.setCells (G.g b).1 ((G.g b).2 + off) (a.eval x).cells.toList) ?_ (hK _ _ _ G he ?_)
        ·have := y2T (P := P) hT ht (G.g b).1 ((G.g b).2 + off) (a.eval x) (by rw [← hlr.length]; exact hbl) hin hone
         simp [execOp, hop, show a.eval p = _ from hp, this]
        ·exact hrel.put o.dst (x := .dead) trivial
     | _ => simp [hl] at he
   | rtp q i c =>
    rw [hpa] at hp he
    simp only [yal] at he
    cases hl : lk q with
    | none => simp [hl] at he
    | some ob =>
     cases ob with
     | root own e ts xs =>
      cases own with
      | false => simp [hl] at he
      | true =>
       simp only [hl] at he
       cases hts : y2a lk ts c (s.opd x).cells with
       | none => simp [hts] at he
       | some q2 =>
        obtain ⟨ys, is⟩ := q2
        simp only [hts] at he
        cases hse : qy ts (rdE ts xs i) c ys with
        | none => simp [hse] at he
        | some x' =>
         simp only [hse] at he
         cases hm : Ki is q with
         | true => simp [hm] at he
         | false =>
          simp only [hm, cond_false] at he
          obtain ⟨G1, hg1, hr1, hset⟩ := h.settles hlk.rows is
          have hq1 : yq (s.setAll (settles lk is)).o q = some (.root true e ts xs) := by
           rw [Yo _ _ (y1I lk is hm)]
           exact hlk q _ hl
          obtain ⟨hsz, hpos, _, _⟩ := vD h (hlk q _ hl)
          obtain ⟨hpv, hlt⟩ := hp
          rw [hsz] at hlt hpv
          have hlt' : i.toNat < xs.length := hlt
          have hxi : xs[i.toNat]? = some (rdE ts xs i) := by simp [rdE, hlt']
          have h1 : Jk (s.opd x).cells = true := yhK ts c _ ys is hts
          have hlr := Kw h1 hx
          have hone := Kv h1 hlr
          have hyr := y9s ts c _ ys is hts hset _ (hlr.grown hg1)
          have hne : (a.eval x).cells.toList ≠ [] := by
           intro e0
           have := hlr.length
           rw [hbl, e0] at this
           obtain ⟨_, _, _, _, _, _, _, hp0, _⟩ := hT.info t ti ht
           rw [this] at hp0
           exact absurd hp0 (Nat.lt_irrefl 0)
          obtain ⟨hrel, hin⟩ := hr1.setRoot hq1 hlt' hxi hse hyr hone hne
          rw [hg1.g] at hrel hin
          refine wp_skip (w' := w.setCells (G.g q).1 (i.toNat * ts.length + c) (a.eval x).cells.toList) ?_ (hK _ _ _ G1 he ?_)
          ·have := y2T (P := P) hT ht (G.g q).1 (i.toNat * ts.length + c) (a.eval x) (by rw [← hlr.length]; exact hbl) hin hone
           simp [execOp, hop, show a.eval p = _ from hpv, this]
          ·have := hrel.put o.dst (x := .dead) (v := undef) trivial
           simpa [St.apply, St.makeAll, St.setAll_append, St.setAll] using this
     | deep fin tag e ts xs =>
      simp only [hl] at he
      cases hts : Kp lk ts c (s.opd x).cells with
      | none => simp [hts] at he
      | some q2 =>
       obtain ⟨ys, gs⟩ := q2
       simp only [hts] at he
       cases hse : qy ts (rdE ts xs i) c ys with
       | none => simp [hse] at he
       | some x' =>
        simp only [hse] at he
        cases hm : Ki gs q || !Vh gs with
        | true => simp [hm] at he
        | false =>
         simp only [hm, cond_false] at he
         simp only [Bool.or_eq_false_iff, Bool.not_eq_false'] at hm
         obtain ⟨hsz, hpos, _, _⟩ := K5 h (hlk q _ hl)
         obtain ⟨hpv, hlt⟩ := hp
         rw [hsz] at hlt hpv
         have hlt' : i.toNat < xs.length := hlt
         have hxi : xs[i.toNat]? = some (rdE ts xs i) := by simp [rdE, hlt']
         have h1 : Jk (s.opd x).cells = true := yaq ts c _ ys gs hts
         have hlr := Kw h1 hx
         have hone := Kv h1 hlr
         obtain ⟨bs, c1, c2, c3, c4⟩ := y1J h hlk ts c _ ys gs hts (Km hm.2) _ hlr
         have hne : (a.eval x).cells.toList ≠ [] := by
          intro e0
          have := hlr.length
          rw [hbl, e0] at this
          obtain ⟨_, _, _, _, _, _, _, hp0, _⟩ := hT.info t ti ht
          rw [this] at hp0
          exact absurd hp0 (Nat.lt_irrefl 0)
         have hqg : q ∉ gs := fun hq => by
          rw [Zs.2 hq] at hm
          exact absurd hm.1 (by simp)
         obtain ⟨hrel, hin⟩ := h.setDeep (hlk q _ hl) hlt' hxi hse c1 c2 c3 c4 hqg hone hne
         refine wp_skip (w' := w.setCells (G.g q).1 (i.toNat * ts.length + c) (a.eval x).cells.toList) ?_ (hK _ _ _ (G.setDp q fun k => G.dp q k ∨ In bs k) he ?_)
         ·have := y2T (P := P) hT ht (G.g q).1 (i.toNat * ts.length + c) (a.eval x) (by rw [← hlr.length]; exact hbl) hin hone
          simp [execOp, hop, show a.eval p = _ from hpv, this]
         ·have := hrel.put o.dst (x := .dead) (v := undef) trivial
          simpa [St.apply, St.makeAll, St.setAll_append, St.setAll] using this
     | _ => simp [hl] at he
   | _ => simp [hpa, yal] at he
end Go.Proofs.YtmapoakbdgpamaaGreat.R
