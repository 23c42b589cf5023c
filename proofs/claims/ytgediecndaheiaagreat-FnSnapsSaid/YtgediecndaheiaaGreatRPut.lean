/- Into an element of a row of one's own. Conditions: the types lie as the context says. -/
import Derived.Test.YtgediecndaheiaaGreatRDeep
set_option linter.all false
namespace Go.Proofs.YtgediecndaheiaaGreat.R
open Go.RowKit
variable {P : Program} {C : Ctx} {w0 : World} {lent : Nat → Prop} {H0 : Base} {s : St} {a : Act} {w : World} {G : Gh} {o : Oper} {K : Act → World → Prop} {Q : Exit → Act → World → Prop} {R : Type} {k : Eff → Option R} {r : R} {lk : Lk} {call : C.Sem} {ct wn : Bool}
def RdS (H : Hp) : List (Sigma El) → List Value → Prop
 | [], [] => True
 | y :: ys, v :: vs => RdT H y.1 y.2 v ∧ RdS H ys vs
 | _, _ => False
theorem y9P : ∀ (ts : List Ty) (c : Nat) (l : List A) (ys : List (Sigma El)) (is : List Nat), y2U lk ts c l = some (ys, is) → jr lk G is → ∀ (vs : List Value), RL G l vs → RdS G.H ys vs := by
 intro ts
 induction ts with
 | nil =>
  intro c l ys is h hs vs hr
  cases l with
  | nil =>
   have : some (([] : List (Sigma El)), ([] : List Nat)) = some (ys, is) := by
    cases c <;> exact h
   injection this with this
   injection this with h1 h2
   subst h1
   cases vs with
   | nil => trivial
   | cons _ _ => exact hr.elim
  | cons x l =>
   cases c <;> exact absurd h (by simp [y2U])
 | cons t ts ih =>
  intro c l ys is h hs vs hr
  cases l with
  | nil =>
   have : some (([] : List (Sigma El)), ([] : List Nat)) = some (ys, is) := by
    cases c <;> exact h
   injection this with this
   injection this with h1 h2
   subst h1
   cases vs with
   | nil => trivial
   | cons _ _ => exact hr.elim
  | cons x l =>
   cases c with
   | succ c => exact ih c (x :: l) ys is h hs vs hr
   | zero =>
    have h' : (match toT lk t x with
     | some (x, is) => match y2U lk ts 0 l with
      | some (r, js) => some ((⟨t, x⟩ : Sigma El) :: r, is ++ js)
      | none => none
     | none => none) = some (ys, is) := h
    cases hx : toT lk t x with
    | none =>
     rw [hx] at h'
     cases h'
    | some p =>
     obtain ⟨x', js⟩ := p
     rw [hx] at h'
     cases hl : y2U lk ts 0 l with
     | none =>
      rw [hl] at h'
      cases h'
     | some q =>
      obtain ⟨r', js'⟩ := q
      rw [hl] at h'
      injection h' with h'
      injection h' with h1 h2
      subst h1 h2
      cases vs with
      | nil => exact hr.elim
      | cons v vs => exact ⟨y1p hx hs.left hr.1, ih 0 l r' js' hl hs.right vs hr.2⟩
theorem y9Q {t : Ty} {x : A} {p : El t × List Nat} (h : toT lk t x = some p) : x.one = true := by
 cases x <;> first | rfl | (simp [toT] at h)
theorem yje : ∀ (ts : List Ty) (c : Nat) (l : List A) (ys : List (Sigma El)) (is : List Nat), y2U lk ts c l = some (ys, is) → Ku l = true := by
 intro ts
 induction ts with
 | nil =>
  intro c l ys is h
  cases l with
  | nil => rfl
  | cons x l => cases c <;> exact absurd h (by simp [y2U])
 | cons t ts ih =>
  intro c l ys is h
  cases l with
  | nil => rfl
  | cons x l =>
   cases c with
   | succ c => exact ih c (x :: l) ys is h
   | zero =>
    have h' : (match toT lk t x with
     | some (x, is) => match y2U lk ts 0 l with
      | some (r, js) => some ((⟨t, x⟩ : Sigma El) :: r, is ++ js)
      | none => none
     | none => none) = some (ys, is) := h
    cases hx : toT lk t x with
    | none =>
     rw [hx] at h'
     cases h'
    | some p =>
     rw [hx] at h'
     cases hl : y2U lk ts 0 l with
     | none =>
      rw [hl] at h'
      cases h'
     | some q => simp [Ku, y9Q hx, ih 0 l q.1 q.2 hl]
theorem ycK {H : Hp} : ∀ (ts : List Ty) (x : z8 ts) (c : Nat) (ys : List (Sigma El)) (x' : z8 ts), ycx ts x c ys = some x' → ∀ (vs : List Value) (f : Nat → Option Value), RdS H ys vs → RdE H ts x f →
  RdE H ts x' (fun i => if c ≤ i ∧ i < c + vs.length then vs[i - c]? else f i) ∧ (vs = [] ∨ c + vs.length ≤ ts.length) := by
 intro ts
 induction ts with
 | nil =>
  intro x c ys x' h vs f hy hr
  cases ys with
  | nil =>
   cases vs with
   | nil => exact ⟨trivial, .inl rfl⟩
   | cons _ _ => exact hy.elim
  | cons y ys => cases c <;> exact absurd h (by rw [show ycx [] x _ (y :: ys) = none from rfl]; exact fun h => by cases h)
 | cons t ts ih =>
  intro x c ys x' h vs f hy hr
  cases ys with
  | nil =>
   cases vs with
   | cons _ _ => exact hy.elim
   | nil =>
    have hxx : some x = some x' := by
     cases ts <;> cases c <;> exact h
    injection hxx with hxx
    subst hxx
    refine ⟨RdE.mono (Hp.le.refl H) _ x _ _ (fun i v hv => ?_) hr, .inl rfl⟩
    rw [if_neg (by simp only [List.length_nil]; omega)]
    exact hv
  | cons y ys =>
   obtain ⟨u, y⟩ := y
   cases vs with
   | nil => exact hy.elim
   | cons v vs =>
    cases ts with
    | nil =>
     cases c with
     | succ c => exact absurd h (by rw [show ycx [t] x (c + 1) (⟨u, y⟩ :: ys) = none by cases ys <;> rfl]; exact fun h => by cases h)
     | zero =>
      cases ys with
      | cons y2 ys => exact absurd h (by rw [show ycx [t] x 0 (⟨u, y⟩ :: y2 :: ys) = none from rfl]; exact fun h => by cases h)
      | nil =>
       have h' : Qh u t y = some x' := h
       cases vs with
       | cons _ _ => exact hy.2.elim
       | nil => exact ⟨⟨v, by simp, y0j h' hy.1⟩, .inr (by simp)⟩
    | cons t2 ts =>
     obtain ⟨⟨v0, hv0, hr0⟩, hrs⟩ := hr
     cases c with
     | zero =>
      have h' : (match Qh u t y with
       | some z => match ycx (t2 :: ts) x.2 0 ys with
        | some w => some ((z, w) : z8 (t :: t2 :: ts))
        | none => none
       | none => none) = some x' := h
      cases hc : Qh u t y with
      | none =>
       rw [hc] at h'
       cases h'
      | some z =>
       rw [hc] at h'
       cases hs : ycx (t2 :: ts) x.2 0 ys with
       | none =>
        rw [hs] at h'
        cases h'
       | some w =>
        rw [hs] at h'
        injection h' with h'
        subst h'
        obtain ⟨h1, h2⟩ := ih x.2 0 ys w hs vs _ hy.2 hrs
        refine ⟨⟨⟨v, by simp, y0j hc hy.1⟩, RdE.mono (Hp.le.refl H) _ w _ _ (fun i v' hv' => ?_) h1⟩, .inr ?_⟩
        ·show (if 0 ≤ i + 1 ∧ i + 1 < 0 + (v :: vs).length then (v :: vs)[i + 1 - 0]? else f (i + 1)) = some v'
         by_cases hi : 0 ≤ i ∧ i < 0 + vs.length
         ·rw [if_pos hi] at hv'
          rw [if_pos (by simp only [List.length_cons]; omega)]
          simpa using hv'
         ·rw [if_neg hi] at hv'
          rw [if_neg (by simp only [List.length_cons]; omega)]
          exact hv'
        ·rcases h2 with rfl | h2
         ·simp
         ·simp only [List.length_cons] at h2 ⊢
          omega
     | succ c =>
      have h' : (match ycx (t2 :: ts) x.2 c (⟨u, y⟩ :: ys) with
       | some w => some ((x.1, w) : z8 (t :: t2 :: ts))
       | none => none) = some x' := h
      cases hs : ycx (t2 :: ts) x.2 c (⟨u, y⟩ :: ys) with
      | none =>
       rw [hs] at h'
       cases h'
      | some w =>
       rw [hs] at h'
       injection h' with h'
       subst h'
       obtain ⟨h1, h2⟩ := ih x.2 c (⟨u, y⟩ :: ys) w hs (v :: vs) _ hy hrs
       refine ⟨⟨⟨v0, by simpa using hv0, hr0⟩, RdE.mono (Hp.le.refl H) _ w _ _ (fun i v' hv' => ?_) h1⟩, .inr ?_⟩
       ·show (if c + 1 ≤ i + 1 ∧ i + 1 < c + 1 + (v :: vs).length then (v :: vs)[i + 1 - (c + 1)]? else f (i + 1)) = some v'
        by_cases hi : c ≤ i ∧ i < c + (v :: vs).length
        ·rw [if_pos hi] at hv'
         rw [if_pos (by simp only [List.length_cons] at hi ⊢; omega), show i + 1 - (c + 1) = i - c by omega]
         exact hv'
        ·rw [if_neg hi] at hv'
         rw [if_neg (by simp only [List.length_cons] at hi ⊢; omega)]
         exact hv'
       ·rcases h2 with h2 | h2
        ·cases h2
        ·simp only [List.length_cons] at h2 ⊢
         omega
theorem Rel.setRoot (h : Rel P w0 lent H0 s a w G) {q e : Nat} {ts : List Ty} {xs : List (z8 ts)} (hq : z4 s.o q = some (.root true e ts xs)) {i c : Nat} (hi : i < xs.length) {x x' : z8 ts} {ys : List (Sigma El)} {vs : List Value}
  (hx : xs[i]? = some x) (hs : ycx ts x c ys = some x') (hy : RdS G.H ys vs) (h1 : ∀ v ∈ vs, v.oneCell' = true) (hne : vs ≠ []) :
  Rel P w0 lent H0 (s.set q (.root true e ts (xs.set i x'))) a (w.setCells (G.g q).1 (i * ts.length + c) vs) G ∧
  (∀ j, j < vs.length → (w.cell? ⟨(G.g q).1, i * ts.length + c + j, none⟩).isSome = true ∧ w.frozen? ⟨(G.g q).1, i * ts.length + c + j, none⟩ = false) := by
 obtain ⟨hsz, hpos, cells, hown, hone, hblk, hrd⟩ := h.objs q _ hq
 rcases hown.2 with ⟨_, hn⟩ | ⟨g, cap, cur, hv, _, hh, hcap, hmax, hcs, htk⟩
 ·omega
 have hg : g = (G.g q).1 := hblk g (by simp [hv, Value.ownBlock])
 subst hg
 obtain ⟨hE, hfit⟩ := ycK (H := G.H) ts x c ys x' hs vs _ hy (hrd i x hx)
 have hfit' : c + vs.length ≤ ts.length := hfit.resolve_left hne
 have hi1 : (i + 1) * ts.length ≤ xs.length * ts.length := Nat.mul_le_mul_right _ hi
 rw [Nat.add_mul, Nat.one_mul] at hi1
 have hn2 : xs.length * ts.length ≤ cap * ts.length := Nat.mul_le_mul_right _ hcap
 have hbound : i * ts.length + c + vs.length ≤ cur.size := by omega
 have hin : ∀ j, j < vs.length → (w.cell? ⟨(G.g q).1, i * ts.length + c + j, none⟩).isSome = true ∧ w.frozen? ⟨(G.g q).1, i * ts.length + c + j, none⟩ = false := by
  intro j hj
  constructor
  ·rw [cell_of_row w _ _ cur e (0, 0) hh]
   have hlt : i * ts.length + c + j < cur.size := by omega
   simp [hlt]
  ·simp [World.frozen?, hh]
 refine ⟨?_, hin⟩
 obtain ⟨e1, e2, e3, e4⟩ := Zh (G.g q).1 vs (i * ts.length + c) w
 have hbq : zR G q (.root true e ts xs) (G.g q).1 := by simp [zR, hv, Value.ownBlock]
 have h2 := (h.gone q).heap (w' := w.setCells (G.g q).1 (i * ts.length + c) vs) e1 e2 e3 (by omega) (fun k hk => by
  by_cases hkb : k = (G.g q).1
  ·subst hkb
   exact .inr (Kx h hq hbq)
  ·exact .inl (YY _ _ _ _ _ hkb))
 have hh' := jq (G.g q).1 vs (i * ts.length + c) w cur hh
 have hget := fun j => jp vs cur (i * ts.length + c) j hbound
 have hold : ∀ m, m < xs.length * ts.length → cells[m]? = cur[m]? := by
  intro m hm
  rw [← htk, List.getElem?_take, if_pos hm]
  simp
 have hnew : ∀ m, m < xs.length * ts.length → ((J5 cur (i * ts.length + c) vs).toList.take (xs.length * ts.length))[m]? = if i * ts.length + c ≤ m ∧ m < i * ts.length + c + vs.length then vs[m - (i * ts.length + c)]? else cells[m]? := by
  intro m hm
  rw [List.getElem?_take, if_pos hm, hold m hm, Array.getElem?_toList, hget m]
 have h3 := h2.set (i := q) (ob := .root true e ts (xs.set i x')) (by
  refine ⟨by rw [List.length_set]; exact hsz, hpos, (J5 cur (i * ts.length + c) vs).toList.take (xs.length * ts.length), ⟨?_, .inr ⟨(G.g q).1, cap, J5 cur (i * ts.length + c) vs, by rw [List.length_set]; exact hv, Nat.zero_le _, hh', by rw [List.length_set]; exact hcap, hmax, by rw [Yc]; exact hcs, by rw [List.length_set]⟩⟩, fun u hu => ?_, hblk, fun j y hj => ?_⟩
  ·simp [Yc, List.length_set]
   omega
  ·obtain ⟨m, hm⟩ := List.mem_iff_getElem?.1 hu
   have hml : m < xs.length * ts.length := by
    have := (List.getElem?_eq_some_iff.1 hm).1
    rw [List.length_take] at this
    omega
   rw [hnew m hml] at hm
   split at hm
   ·exact h1 u (List.mem_of_getElem? hm)
   ·exact hone u (List.mem_of_getElem? hm)
  ·have hjl : j < xs.length := by
    have := (List.getElem?_eq_some_iff.1 hj).1
    rwa [List.length_set] at this
   have hj1 : (j + 1) * ts.length ≤ xs.length * ts.length := Nat.mul_le_mul_right _ hjl
   rw [Nat.add_mul, Nat.one_mul] at hj1
   by_cases hji : j = i
   ·subst hji
    rw [List.getElem?_set_self hi] at hj
    injection hj with hj
    subst hj
    refine RdE.ext ts x' _ _ (fun m v hm hv => ?_) hE
    rw [hnew _ (by omega)]
    by_cases hc : c ≤ m ∧ m < c + vs.length
    ·have hv' : (if c ≤ m ∧ m < c + vs.length then vs[m - c]? else cells[j * ts.length + m]?) = some v := hv
     rw [if_pos hc] at hv'
     rw [if_pos (by omega), show j * ts.length + m - (j * ts.length + c) = m - c by omega]
     exact hv'
    ·have hv' : (if c ≤ m ∧ m < c + vs.length then vs[m - c]? else cells[j * ts.length + m]?) = some v := hv
     rw [if_neg hc] at hv'
     rw [if_neg (by omega)]
     exact hv'
   ·rw [List.getElem?_set_ne (fun e => hji e.symm)] at hj
    refine RdE.ext ts y _ _ (fun m v hm hv => ?_) (hrd j y hj)
    rw [hnew _ (by omega), if_neg ?_]
    ·exact hv
    ·intro hc
     rcases Nat.lt_or_gt_of_ne hji with hlt | hlt
     ·have : (j + 1) * ts.length ≤ i * ts.length := Nat.mul_le_mul_right _ hlt
      rw [Nat.add_mul, Nat.one_mul] at this
      omega
     ·have : (i + 1) * ts.length ≤ j * ts.length := Nat.mul_le_mul_right _ hlt
      rw [Nat.add_mul, Nat.one_mul] at this
      omega) (fun k hk => ?_)
 ·rw [St.set_set] at h3
  exact h3
 ·have hk' : (G.g q).1 = k := by simpa [zR, hv, Value.ownBlock] using hk
  subst hk'
  obtain ⟨f1, f2, f3⟩ := Kx h hq hbq
  exact ⟨f1, f2, fun j oj _ hj => f3 j oj hj⟩
theorem yfV (hT : TOk C P) (h : Rel P w0 lent H0 s a w G) (hK : y2y P w0 lent H0 s o k r K) (hlk : y4T lk s) {t : Nat} {p x : Operand} (hop : o.op = .store t p x) (he : jG C call ct wn o s.opd lk k = some r) : o.wp P a w K Q := by
 have hp := h.opd p
 have hx := h.opd x
 simp only [jG, hop] at he
 cases ht : C.info t with
 | none => simp [ht] at he
 | some ti =>
  simp only [ht] at he
  cases hb : Nat.beq (s.opd x).cells.length ti.ts.length with
  | false => simp [hb] at he
  | true =>
   simp only [hb, cond_true] at he
   have hbl := Nat.eq_of_beq_eq_true hb
   cases hpa : s.opd p with
   | box b off =>
    rw [hpa] at hp he
    simp only [ybf] at he
    cases hl : lk b with
    | none => simp [hl] at he
    | some ob =>
     cases ob with
     | box cs =>
      simp only [hl] at he
      cases hs : jm cs off (s.opd x).cells with
      | none => simp [hs] at he
      | some cs' =>
       simp only [hs] at he
       cases h1 : Ku (s.opd x).cells with
       | false => simp [h1] at he
       | true =>
        simp only [h1, cond_true] at he
        have hlr := Qn h1 hx
        have hone := Qm h1 hlr
        obtain ⟨hrel, hin⟩ := h.setBox (hlk b _ hl) hs hlr hone
        refine wp_skip (w' := w.setCells (G.g b).1 ((G.g b).2 + off) (a.eval x).cells.toList) ?_ (hK _ _ _ G he ?_)
        ·have := y87 (P := P) hT ht (G.g b).1 ((G.g b).2 + off) (a.eval x) (by rw [← hlr.length]; exact hbl) hin hone
         simp [execOp, hop, show a.eval p = _ from hp, this]
        ·exact hrel.put o.dst (x := .dead) trivial
     | _ => simp [hl] at he
   | rtp q i c =>
    rw [hpa] at hp he
    simp only [ybf] at he
    cases hl : lk q with
    | none => simp [hl] at he
    | some ob =>
     cases ob with
     | root own e ts xs =>
      cases own with
      | false => simp [hl] at he
      | true =>
       simp only [hl] at he
       cases hts : y2U lk ts c (s.opd x).cells with
       | none => simp [hts] at he
       | some q2 =>
        obtain ⟨ys, is⟩ := q2
        simp only [hts] at he
        cases hse : ycx ts (rdE ts xs i) c ys with
        | none => simp [hse] at he
        | some x' =>
         simp only [hse] at he
         cases hm : Vi is q with
         | true => simp [hm] at he
         | false =>
          simp only [hm, cond_false] at he
          obtain ⟨G1, hg1, hr1, hset⟩ := h.settles hlk.rows is
          have hq1 : z4 (s.setAll (settles lk is)).o q = some (.root true e ts xs) := by
           rw [ZI _ _ (y2z lk is hm)]
           exact hlk q _ hl
          obtain ⟨hsz, hpos, _, _⟩ := qE h (hlk q _ hl)
          obtain ⟨hpv, hlt⟩ := hp
          rw [hsz] at hlt hpv
          have hlt' : i.toNat < xs.length := hlt
          have hxi : xs[i.toNat]? = some (rdE ts xs i) := by simp [rdE, hlt']
          have h1 : Ku (s.opd x).cells = true := yje ts c _ ys is hts
          have hlr := Qn h1 hx
          have hone := Qm h1 hlr
          have hyr := y9P ts c _ ys is hts hset _ (hlr.grown hg1)
          have hne : (a.eval x).cells.toList ≠ [] := by
           intro e0
           have := hlr.length
           rw [hbl, e0] at this
           obtain ⟨_, _, _, _, _, _, _, hp0, _⟩ := hT.info t ti ht
           rw [this] at hp0
           exact absurd hp0 (Nat.lt_irrefl 0)
          obtain ⟨hrel, hin⟩ := hr1.setRoot hq1 hlt' hxi hse hyr hone hne
          rw [hg1.g] at hrel hin
          refine wp_skip (w' := w.setCells (G.g q).1 (i.toNat * ts.length + c) (a.eval x).cells.toList) ?_ (hK _ _ _ G1 he ?_)
          ·have := y87 (P := P) hT ht (G.g q).1 (i.toNat * ts.length + c) (a.eval x) (by rw [← hlr.length]; exact hbl) hin hone
           simp [execOp, hop, show a.eval p = _ from hpv, this]
          ·have := hrel.put o.dst (x := .dead) (v := undef) trivial
           simpa [St.apply, St.makeAll, St.setAll_append, St.setAll] using this
     | _ => simp [hl] at he
   | _ => simp [hpa, ybf] at he
end Go.Proofs.YtgediecndaheiaaGreat.R
