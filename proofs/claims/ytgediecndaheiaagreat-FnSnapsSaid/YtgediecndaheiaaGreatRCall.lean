/- A call. Conditions: functions do what the evaluator says. -/
import Derived.Test.YtgediecndaheiaaGreatRBack
set_option linter.all false
namespace Go.Proofs.YtgediecndaheiaaGreat.R
open Go.RowKit
variable {P : Program} {C : Ctx} {w0 : World} {lent : Nat → Prop} {H0 : Base} {s : St} {a : Act} {w : World} {G : Gh}
theorem y2E {i d : Nat} (hne : i ≠ d) {x : Ob} (hx : x.forget d = x) : ∀ l : List (Nat × Ob), Yk d (qW l i x) = qW (Yk d l) i x
 | [] => rfl
 | (j, y) :: l => by
  have ih := y2E hne hx l
  by_cases hj : j = i
  ·subst hj
   simp [qW, Yk, yw, yF hne, hx]
  ·by_cases hd : j = d
   ·subst hd
    simp [qW, Yk, yw, yF hj, ih]
   ·simp [qW, Yk, yF hj, yF hd, ih]
theorem yg2 (s : St) {q d : Nat} (hne : q ≠ d) (ob : Ob) {x : Ob} (hx : x.forget d = x) : (s.set q x).make d ob = (s.make d ob).set q x := by
 simp [St.set, St.make, y2E hne hx, qW, yF (fun e : d = q => hne e.symm)]
def ym0 : List (Nat × Ob) → Prop
 | [] => True
 | (_, x) :: r => (∀ d, x.forget d = x) ∧ ym0 r
theorem y2F : ∀ (X : List (Nat × Ob)) (s : St) (d : Nat) (ob : Ob), ym0 X → d ∉ zh X → (s.setAll X).make d ob = (s.make d ob).setAll X
 | [], _, _, _, _, _ => rfl
 | (q, x) :: X, s, d, ob, hm, hd => by
  simp only [zh, List.mem_cons, not_or] at hd
  rw [St.setAll, St.setAll, y2F X _ d ob hm.2 hd.2, yg2 s (fun e => hd.1 e.symm) ob (hm.1 d)]
theorem setAll_makeAll (X : List (Nat × Ob)) (hm : ym0 X) : ∀ (Y : List (Nat × Ob)) (s : St), (∀ d ∈ zh Y, d ∉ zh X) → (s.setAll X).makeAll Y = (s.makeAll Y).setAll X
 | [], _, _ => rfl
 | (d, ob) :: Y, s, h => by
  rw [St.makeAll, St.makeAll, y2F X s d ob hm (h d (by simp [zh])), setAll_makeAll X hm Y _ (fun e he => h e (by simp [zh, he]))]
theorem Qr (lk : Lk) : ∀ is : List Nat, ym0 (settles lk is)
 | [] => trivial
 | i :: is => by
  unfold settles
  split
  ·exact ⟨fun _ => rfl, Qr lk is⟩
  ·exact Qr lk is
theorem y3V : ∀ gs : List Nat, ym0 (Jd gs)
 | [] => trivial
 | i :: gs => ⟨fun _ => rfl, y3V gs⟩
theorem y3W : ∀ gs : List Nat, zh (Jd gs) = gs
 | [] => rfl
 | i :: gs => by simp [Jd, zh, y3W gs]
theorem W5 (lk : Lk) : ∀ is : List Nat, ∀ i ∈ zh (settles lk is), i ∈ is
 | [], i, h => h
 | j :: is, i, h => by
  unfold settles at h
  split at h
  ·simp only [zh, List.mem_cons] at h
   rcases h with rfl | h
   ·simp
   ·exact List.mem_cons_of_mem _ (W5 lk is i h)
  ·exact List.mem_cons_of_mem _ (W5 lk is i h)
theorem Rel.congr (h : Rel P w0 lent H0 s a w G) {s' : St} (ht : s'.t = s.t) (ho : ∀ i, z4 s'.o i = z4 s.o i) : Rel P w0 lent H0 s' a w G :=
 { h with defers := h.defers, len := by rw [ht]; exact h.len, slots := fun i x hx => h.slots i x (by rw [← ht]; exact hx), objs := fun i ob hi => h.objs i ob (by rw [← ho]; exact hi), away := fun i ob k hi hb => h.away i ob k (by rw [← ho]; exact hi) hb, apart := fun i j oi oj k hi hj => h.apart i j oi oj k (by rw [← ho]; exact hi) (by rw [← ho]; exact hj), pin := fun i ob b hi hp => h.pin i ob b (by rw [← ho]; exact hi) hp }
theorem Rel.backs : ∀ (ps : List PK) (bs : List (Nat × Nat)) (l : List A) (vs : List Value) {s : St}, Rel P w0 lent H0 s a w G → y0C w ps (bs.map fun p => G.g p.1) vs → RL G l vs →
  (bs.map fun p => p.2) = ps.filterMap PK.back →
  (∀ p ∈ bs, G.H (G.g p.1).1 = none ∧ (w0.heap.size ≤ (G.g p.1).1 ∨ lent (G.g p.1).1) ∧ ∀ (j : Nat) (oj : Ob), j ≠ p.1 → z4 s.o j = some oj → ¬ zR G j oj (G.g p.1).1) → bs.Pairwise (fun p q => (G.g p.1).1 ≠ (G.g q.1).1) →
  Rel P w0 lent H0 (s.setAll (y21 bs l)) a w G := by
 intro ps
 induction ps with
 | nil =>
  intro bs l vs s h hb hr hlen hf hp
  have : bs = [] := by simpa using hlen
  subst this
  exact h
 | cons p ps ih =>
  intro bs l vs s h hb hr hlen hf hp
  cases p with
  | v agg ts os => exact ih bs l vs h hb hr hlen hf hp
  | k f => exact ih bs l vs h hb hr hlen hf hp
  | p wr ts os =>
   obtain ⟨b, off, pb', vs1, vs', hpb, rfl, hl1, hc, hb'⟩ := hb
   cases bs with
   | nil => simp at hpb
   | cons q bs =>
    obtain ⟨q, n⟩ := q
    simp only [List.map_cons, List.cons.injEq, List.filterMap_cons, PK.back] at hpb hlen
    obtain ⟨hq, rfl⟩ := hpb
    obtain ⟨rfl, hlen⟩ := hlen
    obtain ⟨h1, h2⟩ := y6f hr hl1
    have hq1 : (G.g q).1 = b := by rw [hq]
    have hq2 : (G.g q).2 = off := by rw [hq]
    obtain ⟨f1, f2, f3⟩ := hf (q, ts.length) (by simp)
    have hp' := List.pairwise_cons.1 hp
    have hset := h.set (i := q) (ob := .box (l.take ts.length)) ⟨by rw [hq1]; exact hc.1, fun j x hx => by
     obtain ⟨v, hv, hrv⟩ := h1.get j x hx
     obtain ⟨c1, c2, c3⟩ := hc.2 j v hv
     rw [hq1, hq2]
     exact ⟨c1, v, c2, c3, hrv⟩⟩ (fun k hk => by
     have hk' : (G.g q).1 = k := by simpa [zR] using hk
     subst hk'
     exact ⟨f1, f2, f3⟩)
    refine ih bs (l.drop ts.length) vs' hset hb' h2 hlen (fun p hpm => ?_) hp'.2
    obtain ⟨g1, g2, g3⟩ := hf p (by simp [hpm])
    refine ⟨g1, g2, fun j oj hj hl => ?_⟩
    have hl' : z4 (qW s.o q (.box (l.take ts.length))) j = some oj := hl
    rw [wM] at hl'
    by_cases hjq : j = q
    ·subst hjq
     simp only [if_true] at hl'
     obtain ⟨_, _, rfl⟩ := Option.map_eq_some_iff.1 hl'
     intro hbk
     have hbk' : (G.g j).1 = (G.g p.1).1 := by simpa [zR] using hbk
     exact hp'.1 p hpm hbk'
    ·simp only [hjq, if_false] at hl'
     exact g3 j oj hj hl'
theorem y9X {lk : Lk} : ∀ (ps : List PK) (as l : List A) (bs : List (Nat × Nat)), Je lk ps as = some (l, bs) → (bs.map fun p => p.2) = ps.filterMap PK.back := by
 intro ps
 induction ps with
 | nil =>
  intro as l bs h
  cases as with
  | nil =>
   simp only [Je, Option.some.injEq, Prod.mk.injEq] at h
   rw [← h.2]
   rfl
  | cons _ _ => simp [Je] at h
 | cons p ps ih =>
  intro as l bs h
  cases as with
  | nil => cases p <;> simp [Je] at h
  | cons x as =>
   cases p with
   | v agg ts os =>
    simp only [Je] at h
    cases hc : J7 agg x with
    | none => simp [hc] at h
    | some c =>
     cases hg : Je lk ps as with
     | none => simp [hc, hg] at h
     | some q =>
      simp only [hc, hg] at h
      cases hb : Nat.beq c.length ts.length with
      | false => simp [hb] at h
      | true =>
       simp only [hb, cond_true, Option.some.injEq, Prod.mk.injEq] at h
       rw [← h.2]
       exact ih as q.1 q.2 hg
   | k f =>
    simp only [Je] at h
    cases x with
    | fn f' =>
     simp only at h
     cases hb : Nat.beq f f' with
     | false => simp [hb] at h
     | true =>
      simp only [hb, cond_true] at h
      exact ih as l bs h
    | _ => simp at h
   | p wr ts os =>
    simp only [Je] at h
    cases hu : qz wr x with
    | none => simp [hu] at h
    | some b =>
     simp only [hu] at h
     cases hb : lk b with
     | none => simp [hb] at h
     | some ob =>
      cases ob with
      | box cs =>
       simp only [hb] at h
       cases hg : Je lk ps as with
       | none => simp [hg] at h
       | some q =>
        simp only [hg] at h
        cases hbb : Nat.beq ts.length cs.length with
        | false => simp [hbb] at h
        | true =>
         simp only [hbb, cond_true, Option.some.injEq, Prod.mk.injEq] at h
         rw [← h.2]
         simp [ih as q.1 q.2 hg, PK.back]
      | _ => simp [hb] at h
theorem y6g : ∀ (X : List (Nat × Ob)) (s : St), (s.setAll X).t = s.t
 | [], _ => rfl
 | (i, x) :: X, s => y6g X (s.set i x)
theorem y8h : ∀ (X : List (Nat × Ob)) (i : Nat), i ∉ zh X → z4 X i = none
 | [], _, _ => rfl
 | (j, x) :: X, i, h => by
  simp only [zh, List.mem_cons, not_or] at h
  simp only [z4, yF (fun e : j = i => h.1 e.symm), cond_false]
  exact y8h X i h.2
theorem KH : ∀ (X : List (Nat × Ob)) (s : St) (i : Nat), (z4 (s.setAll X).o i).isSome = (z4 s.o i).isSome
 | [], _, _ => rfl
 | (j, x) :: X, s, i => by
  rw [St.setAll, KH X]
  show (z4 (qW s.o j x) i).isSome = _
  rw [wM]
  split
  ·rename_i h
   subst h
   simp
  ·rfl
theorem kH : ∀ (X : List (Nat × Ob)) (s : St) (i : Nat), (zh X).Nodup → z4 (s.setAll X).o i = match z4 X i with
  | some x => (z4 s.o i).map (fun _ => x)
  | none => z4 s.o i
 | [], _, _, _ => rfl
 | (j, x) :: X, s, i, h => by
  have hn := List.nodup_cons.1 h
  have hs : z4 (s.set j x).o i = if i = j then (z4 s.o j).map (fun _ => x) else z4 s.o i := wM j i x s.o
  rw [St.setAll, kH X _ i hn.2, hs]
  by_cases hj : j = i
  ·subst hj
   rw [y8h X j hn.1]
   simp [z4, yw]
  ·simp only [z4, yF hj, cond_false, show ¬ i = j from fun e => hj e.symm, if_false]
theorem y27 : ∀ (bs : List (Nat × Nat)) (l : List A), zh (y21 bs l) = zh bs
 | [], _ => rfl
 | (b, n) :: bs, l => by simp [y21, zh, y27 bs]
theorem Wn {α : Type} : ∀ bs : List (Nat × α), zh bs = bs.map (·.1)
 | [] => rfl
 | (b, n) :: bs => by simp [zh, Wn bs]
theorem ydY {G : Gh} {as : List A} {cs : List Value} : RL G as cs → RA G (match as with
  | [a] => a
  | as => .tup as) (y2B cs) := by
 intro h
 cases as with
 | nil =>
  cases cs with
  | nil => exact ⟨[], rfl, trivial⟩
  | cons _ _ => exact h.elim
 | cons x as =>
  cases cs with
  | nil => exact h.elim
  | cons v cs =>
   cases as with
   | nil =>
    cases cs with
    | nil => exact h.1
    | cons _ _ => exact h.2.elim
   | cons y as =>
    cases cs with
    | nil => exact h.2.elim
    | cons u cs => exact ⟨v :: u :: cs, rfl, h⟩
theorem ydZ {H H2 : Hp} : ∀ (ts : List Ty) (x : z8 ts) (f : Nat → Option Value), y7Z ts = true → RdE H ts x f → RdE H2 ts x f := by
 have one : ∀ (t : Ty) (x : El t) (v : Value), t.flat = true → RdT H t x v → RdT H2 t x v := by
  intro t x v hf hr
  cases t <;> first | exact hr | simp [Ty.flat] at hf
 intro ts
 induction ts with
 | nil => intro _ _ _ _; trivial
 | cons t ts ih =>
  intro x f hf hr
  simp only [y7Z, Bool.and_eq_true] at hf
  cases ts with
  | nil =>
   obtain ⟨v, hv, hr⟩ := hr
   exact ⟨v, hv, one t x v hf.1 hr⟩
  | cons u r =>
   obtain ⟨⟨v, hv, hr⟩, hs⟩ := hr
   exact ⟨⟨v, hv, one t x.1 v hf.1 hr⟩, ih x.2 _ hf.2 hs⟩
theorem y5y {H H2 : Hp} {w : World} {t : Ty} {own : Bool} (hf : (t.flat || (own && (match t with
  | .sl _ ts => y7Z ts
  | _ => false))) = true) {x : El t} {v : Value} {b : Nat → Prop} (h : y4Z H w t own x v b) : y4Z H2 w t own x v b := by
 cases t with
 | sl e ts =>
  simp only [Ty.flat, Bool.false_or, Bool.and_eq_true] at hf
  obtain ⟨rfl, hf⟩ := hf
  obtain ⟨h1, h2, cells, h3, h4, h5⟩ := h
  exact ⟨h1, h2, cells, h3, h4, fun j y hy => ydZ ts y _ hf (h5 j y hy)⟩
 | int _ => cases own <;> exact h
 | bool => cases own <;> exact h
 | str => cases own <;> exact h
theorem y9Y {H H2 : Hp} {w : World} : ∀ (ts : List Ty) (os : List Bool) (x : z8 ts) (vs : List Value) (bs : List (Nat → Prop)), y80 ts os = true → vm H w ts os x vs bs → vm H2 w ts os x vs bs := by
 intro ts
 induction ts with
 | nil => intro os x vs bs _ h; exact h
 | cons t ts ih =>
  intro os x vs bs hf h
  simp only [y80, Bool.and_eq_true] at hf
  cases ts with
  | nil =>
   obtain ⟨v, b, h1, h2, h3⟩ := h
   exact ⟨v, b, h1, h2, y5y hf.1 h3⟩
  | cons u r =>
   obtain ⟨v, b, vs', bs', h1, h2, h3, h4⟩ := h
   exact ⟨v, b, vs', bs', h1, h2, y5y hf.1 h3, ih _ _ _ _ hf.2 h4⟩
theorem y5z {H H2 : Hp} (hH : H.le H2) {w : World} {t : Ty} {own : Bool} {x : El t} {v : Value} {b : Nat → Prop} (h : y4Z H w t own x v b) : y4Z H2 w t own x v b := by
 cases t with
 | sl e ts =>
  cases own with
  | true =>
   obtain ⟨h1, h2, cells, h3, h4, h5⟩ := h
   exact ⟨h1, h2, cells, h3, h4, fun j y hy => RdE.mono hH ts y _ _ (fun _ _ hv => hv) (h5 j y hy)⟩
  | false => exact ⟨h.1, RdT.mono hH _ _ _ h.2⟩
 | int _ => cases own <;> exact h
 | bool => cases own <;> exact h
 | str => cases own <;> exact h
theorem y9Z {H H2 : Hp} (hH : H.le H2) {w : World} : ∀ (ts : List Ty) (os : List Bool) (x : z8 ts) (vs : List Value) (bs : List (Nat → Prop)), vm H w ts os x vs bs → vm H2 w ts os x vs bs := by
 intro ts
 induction ts with
 | nil => intro os x vs bs h; exact h
 | cons t ts ih =>
  intro os x vs bs h
  cases ts with
  | nil =>
   obtain ⟨v, b, h1, h2, h3⟩ := h
   exact ⟨v, b, h1, h2, y5z hH h3⟩
  | cons u r =>
   obtain ⟨v, b, vs', bs', h1, h2, h3, h4⟩ := h
   exact ⟨v, b, vs', bs', h1, h2, y5z hH h3, ih _ _ _ _ h4⟩
theorem yg3 (h1 : Rel P w0 lent H0 s a w G) {bs : List (Nat × Nat)} {gs : List Nat} {bsx : List (Nat → Prop)} (hgs : y26 s G gs bsx) (hbx : ∀ p ∈ bs, ∃ cs, z4 s.o p.1 = some (.box cs))
  {w' : World} (hos : w'.os = w.os) (htape : w'.tape = w.tape) (hout : w'.output = w.output) (hsz : w.heap.size ≤ w'.heap.size) (old : ∀ k, k < w.heap.size → ¬ qy bsx (bs.map fun p => G.g p.1) k → w'.heap[k]? = w.heap[k]?)
  {H2 : Hp} (hle : G.H.le H2) (hin : H2.le (ZQ w')) (hnew : ∀ k ob, H2 k = some ob → G.H k = some ob ∨ w.heap.size ≤ k ∨ qy bsx (bs.map fun p => G.g p.1) k)
  {ts : List Ty} {os : List Bool} {y : z8 ts} {vs' : List Value} {bs' : List (Nat → Prop)} (hc : vm H2 w' ts os y vs' bs') (ha : y4Y bs') (hav : ∀ k, In bs' k → H2 k = none ∧ (w.heap.size ≤ k ∨ qy bsx (bs.map fun p => G.g p.1) k))
  {n : Nat} (hn950 : 950 ≤ n) :
  ∃ G5, G5.H = H2 ∧ Rel P w0 lent H0 ((s.setAll (Jd (gs ++ zh bs))).makeAll (zb false ts os y n).2) a w' G5 ∧ RL G5 (zb false ts os y n).1 vs' ∧ (∀ j, j ∉ zh (zb false ts os y n).2 → y3Q G G5 j) ∧
   ∀ k, (w.heap.size ≤ k ∨ qy bsx (bs.map fun p => G.g p.1) k ∨ ∃ q ob, z4 s.o q = some ob ∧ zR G q ob k ∧ q ∈ gs ++ zh bs) → H2 k = none → ¬ In bs' k → VQ w0 lent ((s.setAll (Jd (gs ++ zh bs))).makeAll (zb false ts os y n).2) G5 k := by
 have hLent : ∀ k, qy bsx (bs.map fun p => G.g p.1) k → G.H k = none ∧ (w0.heap.size ≤ k ∨ lent k) ∧ ∃ q ob, z4 s.o q = some ob ∧ zR G q ob k ∧ q ∈ gs ++ zh bs := by
  rintro k (hk | ⟨p, hp, rfl⟩)
  ·obtain ⟨q, hq, ob, hl, hb'⟩ := hgs k hk
   obtain ⟨a1, a2⟩ := h1.away q _ k hl hb'
   exact ⟨a1, a2, q, _, hl, hb', List.mem_append_left _ hq⟩
  ·obtain ⟨q, hq, rfl⟩ := List.mem_map.1 hp
   obtain ⟨c, hl⟩ := hbx q hq
   have hb' : zR G q.1 (.box c) (G.g q.1).1 := rfl
   obtain ⟨a1, a2⟩ := h1.away q.1 _ _ hl hb'
   exact ⟨a1, a2, q.1, _, hl, hb', List.mem_append_right _ (by rw [Wn]; exact List.mem_map_of_mem hq)⟩
 have hfree4 : ∀ k, (∃ q ob, z4 s.o q = some ob ∧ zR G q ob k ∧ q ∈ gs ++ zh bs) → ∀ (j : Nat) (oj : Ob), z4 (s.setAll (Jd (gs ++ zh bs))).o j = some oj → ¬ zR G j oj k := by
  intro k hk j oj hj hb
  obtain ⟨q, ob, hl, hb', hq⟩ := hk
  rw [y25] at hj
  split at hj
  ·obtain ⟨_, _, rfl⟩ := Option.map_eq_some_iff.1 hj
   simp [zR] at hb
  ·rename_i hjD
   have := h1.apart j q oj ob k hj hl hb hb'
   subst this
   exact hjD hq
 have hfree3 : ∀ k, qy bsx (bs.map fun p => G.g p.1) k → ∀ (j : Nat) (oj : Ob), z4 (s.setAll (Jd (gs ++ zh bs))).o j = some oj → ¬ zR G j oj k := fun k hk => hfree4 k (hLent k hk).2.2
 have h3 := Rel.gones (gs ++ zh bs) h1
 have h4 := h3.heap hos htape hout hsz (fun k hk => by
  by_cases hl : qy bsx (bs.map fun p => G.g p.1) k
  ·exact .inr ⟨(hLent k hl).1, (hLent k hl).2.1, hfree3 k hl⟩
  ·exact .inl (old k hk hl))
 have h5 := h4.grow hle hin (fun j oj k hj hb => by
  cases hH : H2 k with
  | none => rfl
  | some ob =>
   rcases hnew k ob hH with h6 | h6 | h6
   ·rw [(h3.away j oj k hj hb).1] at h6
    cases h6
   ·exact absurd ((h3.objs j oj hj).blk hb) (Nat.not_lt.2 h6)
   ·exact absurd hb (hfree3 k h6 j oj hj)) (fun k ob hH => by
  rcases hnew k ob hH with h6 | h6 | h6
  ·exact .inl h6
  ·exact .inr (.inl (Nat.le_trans h1.size h6))
  ·exact .inr (hLent k h6).2.1)
 have hfr : ∀ k, (w.heap.size ≤ k ∨ qy bsx (bs.map fun p => G.g p.1) k ∨ ∃ q ob, z4 s.o q = some ob ∧ zR G q ob k ∧ q ∈ gs ++ zh bs) → H2 k = none → VQ w0 lent (s.setAll (Jd (gs ++ zh bs))) { G with H := H2 } k := by
  intro k hk hn
  refine ⟨hn, ?_, fun j oj hj hb => ?_⟩
  ·rcases hk with hk | hk | ⟨q, ob, hl, hb, _⟩
   ·exact .inl (Nat.le_trans h1.size hk)
   ·exact (hLent k hk).2.1
   ·exact (h1.away q ob k hl hb).2
  ·rw [vd (G := G) (G' := { G with H := H2 }) rfl rfl] at hb
   rcases hk with hk | hk | hk
   ·exact absurd ((h3.objs j oj hj).blk hb) (Nat.not_lt.2 hk)
   ·exact hfree3 k hk j oj hj hb
   ·exact hfree4 k hk j oj hj hb
 obtain ⟨G5, e1, e2, e3, e4, e5⟩ := y1r false ts os y n vs' bs' _ _ hn950 h5 (fun h => by cases h) hc (fun _ k hk => hfr k ((hav k hk).2.imp id .inl) (hav k hk).1) ha
 exact ⟨G5, e1, e3, e4, fun j hj => e2 j hj, fun k hk hn hb => e5 k (hfr k hk hn) hb⟩
theorem ybp (h1 : Rel P w0 lent H0 s a w G) {bs : List (Nat × Nat)} {gs : List Nat} (hbx : ∀ p ∈ bs, ∃ cs, z4 s.o p.1 = some (.box cs)) (hnd : (zh bs).Nodup) {Y : List (Nat × Ob)} {w' : World} {G6 : Gh}
  (h : Rel P w0 lent H0 ((s.setAll (Jd (gs ++ zh bs))).makeAll Y) a w' G6) (hY : ∀ j ∈ zh Y, j ∉ gs ∧ j ∉ zh bs) (hg : ∀ p ∈ bs, G6.g p.1 = G.g p.1) (hfr : ∀ p ∈ bs, VQ w0 lent ((s.setAll (Jd (gs ++ zh bs))).makeAll Y) G6 (G.g p.1).1)
  {ps : List PK} {restA : List A} {rest : List Value} (hr : RL G6 restA rest) (hbk : y0C w' ps (bs.map fun p => G.g p.1) rest) (hlens : (bs.map fun p => p.2) = ps.filterMap PK.back) :
  Rel P w0 lent H0 ((s.makeAll Y).setAll (Jd gs ++ y21 bs restA)) a w' G6 := by
 have hmap : (bs.map fun p => G6.g p.1) = bs.map fun p => G.g p.1 := List.map_congr_left hg
 have hpw : bs.Pairwise (fun p q => p.1 ≠ q.1) := by
  rw [Wn] at hnd
  exact List.pairwise_map.1 hnd
 have h6 := Rel.backs ps bs restA rest h (by rw [hmap]; exact hbk) hr hlens (fun p hp => by
  obtain ⟨i1, i2, i3⟩ := hfr p hp
  rw [hg p hp]
  exact ⟨i1, i2, fun j oj _ hj => i3 j oj hj⟩) (hpw.imp_of_mem fun {p q} hp hq hne he => by
  rw [hg p hp, hg q hq] at he
  obtain ⟨c1, l1⟩ := hbx p hp
  obtain ⟨c2, l2⟩ := hbx q hq
  exact hne (h1.apart p.1 q.1 _ _ (G.g p.1).1 l1 l2 rfl (by rw [he]; rfl)))
 rw [setAll_makeAll _ (y3V _) _ _ (fun d hd => by
  rw [y3W, List.mem_append, not_or]
  exact hY d hd)] at h6
 refine h6.congr (by simp only [y6g]) fun i => ?_
 have hnd' : (zh (y21 bs restA)).Nodup := by rw [y27]; exact hnd
 rw [St.setAll_append, kH _ _ i hnd', kH _ _ i hnd']
 cases hB : z4 (y21 bs restA) i with
 | some x =>
  have e := KH (Jd gs) (s.makeAll Y) i
  have e' := KH (Jd (gs ++ zh bs)) (s.makeAll Y) i
  rw [← e'] at e
  revert e
  cases z4 ((s.makeAll Y).setAll (Jd gs)).o i <;> cases z4 ((s.makeAll Y).setAll (Jd (gs ++ zh bs))).o i <;> simp
 | none =>
  have hi : i ∉ zh bs := fun hi => by
   have hmem : i ∈ zh (y21 bs restA) := by rw [y27]; exact hi
   obtain ⟨x, hx⟩ : ∃ x, z4 (y21 bs restA) i = some x := by
    clear hB h6
    revert hmem
    generalize y21 bs restA = X
    intro hmem
    induction X with
    | nil => simp [zh] at hmem
    | cons p X ih =>
     obtain ⟨j, x⟩ := p
     by_cases hj : j = i
     ·exact ⟨x, by simp [z4, hj, yw]⟩
     ·simp only [zh, List.mem_cons] at hmem
      obtain ⟨z, hz⟩ := ih (hmem.resolve_left fun e => hj e.symm)
      exact ⟨z, by simp only [z4, yF hj, cond_false, hz]⟩
   rw [hx] at hB
   cases hB
  simp only [y25, List.mem_append, hi, or_false]
theorem St.makeAll_append : ∀ (X Y : List (Nat × Ob)) (s : St), s.makeAll (X ++ Y) = (s.makeAll X).makeAll Y
 | [], _, _ => rfl
 | (i, x) :: X, Y, s => St.makeAll_append X Y (s.make i x)
theorem y6h (tg : Bool) : ∀ (ts : List Ty) (os : List Bool) (x : z8 ts) (n : Nat), ∀ j ∈ jk (zb tg ts os x n).1, j < n + ts.length := by
 intro ts
 induction ts with
 | nil => intro os x n j hj; simp [zb, jk] at hj
 | cons t ts ih =>
  intro os x n j hj
  cases ts with
  | nil =>
   simp only [zb, jk, List.append_nil] at hj
   have := y1s tg t _ _ n j hj
   simp only [List.length_cons]
   omega
  | cons u r =>
   have hj' : j ∈ (wm tg t (os.headD false) x.1 n).1.ids ++ jk (zb tg (u :: r) os.tail x.2 (n + 1)).1 := hj
   rcases List.mem_append.1 hj' with h | h
   ·have := y1s tg t _ _ n j h
    simp only [List.length_cons]
    omega
   ·have := ih os.tail x.2 (n + 1) j h
    simp only [List.length_cons] at *
    omega
theorem yjj {agg : Bool} {l : List A} {x : A} (h : mkA agg l = some x) : ∀ j ∈ x.ids, j ∈ jk l := by
 intro j hj
 cases agg with
 | true =>
  simp only [mkA, cond_true, Option.some.injEq] at h
  subst h
  simpa [A.ids] using hj
 | false =>
  cases l with
  | nil => simp [mkA] at h
  | cons y l =>
   cases l with
   | nil =>
    simp only [mkA, cond_false, Option.some.injEq] at h
    subst h
    simpa [jk] using hj
   | cons _ _ => simp [mkA] at h
theorem y5A : ∀ (rs : List RK) (l as rest : List A), qY rs l = some (as, rest) → (∀ j ∈ jk as, j ∈ jk l) ∧ ∀ j ∈ jk rest, j ∈ jk l
 | [], l, as, rest, h => by
  simp only [qY, Option.some.injEq, Prod.mk.injEq] at h
  obtain ⟨rfl, rfl⟩ := h
  exact ⟨fun j hj => by simp [jk] at hj, fun _ h => h⟩
 | r :: rs, l, as, rest, h => by
  simp only [qY] at h
  split at h
  ·rename_i a ha
   split at h
   ·rename_i as' l2 hs
    simp only [Option.some.injEq, Prod.mk.injEq] at h
    obtain ⟨rfl, rfl⟩ := h
    obtain ⟨i1, i2⟩ := y5A rs _ _ _ hs
    refine ⟨fun j hj => ?_, fun j hj => vo _ _ j (i2 j hj)⟩
    simp only [jk, List.mem_append] at hj
    rcases hj with hj | hj
    ·exact y1t _ _ j (yjj ha j hj)
    ·exact vo _ _ j (i1 j hj)
   ·cases h
  ·cases h
theorem y8i (h1 : Rel P w0 lent H0 s a w G) {bs : List (Nat × Nat)} {gs : List Nat} {bsx : List (Nat → Prop)} (hgs : y26 s G gs bsx) (hbx : ∀ p ∈ bs, ∃ cs, z4 s.o p.1 = some (.box cs)) (hnd : (zh bs).Nodup)
  {w' : World} (hos : w'.os = w.os) (htape : w'.tape = w.tape) (hout : w'.output = w.output) (hsz : w.heap.size ≤ w'.heap.size) (old : ∀ k, k < w.heap.size → ¬ qy bsx (bs.map fun p => G.g p.1) k → w'.heap[k]? = w.heap[k]?)
  {H2 : Hp} (hle : G.H.le H2) (hin : H2.le (ZQ w')) (hnew : ∀ k ob, H2 k = some ob → G.H k = some ob ∨ w.heap.size ≤ k ∨ qy bsx (bs.map fun p => G.g p.1) k)
  {ts : List Ty} {os : List Bool} {y : z8 ts} {vs' : List Value} {bs' : List (Nat → Prop)} (hc : vm H2 w' ts os y vs' bs') (ha : y4Y bs') (hav : ∀ k, In bs' k → H2 k = none ∧ (w.heap.size ≤ k ∨ qy bsx (bs.map fun p => G.g p.1) k))
  (hpt : ∀ p ∈ bs, H2 (G.g p.1).1 = none ∧ ¬ In bs' (G.g p.1).1) {d : Nat} {sg : Sig} {nb : Option Nat} (hnb : ∀ k, nb = some k → H2 k = none ∧ (w.heap.size ≤ k ∨ qy bsx (bs.map fun p => G.g p.1) k) ∧ ¬ In bs' k ∧ ∀ p ∈ bs.map (fun p => G.g p.1), p.1 ≠ k)
  {ex : List (Nat × Ob)} {x : A} {restA : List A} {cs rest : List Value} {v : Value} (hbv : y6a sg d (zb false ts os y (1000 * (d + 1))).1 = some (ex, x, restA)) (hex : KZ ex || Nat.ble ts.length 500) (hres : ycU w' sg vs' cs rest v nb)
  (hdis : ∀ j ∈ zh ((zb false ts os y (1000 * (d + 1))).2 ++ ex), j ∉ gs ∧ j ∉ zh bs) (hpin : H0.pin (1000 * (d + 1) + 500) = none)
  {ps : List PK} (hbk : y0C w' ps (bs.map fun p => G.g p.1) rest) (hlens : (bs.map fun p => p.2) = ps.filterMap PK.back) :
  ∃ G5, Rel P w0 lent H0 ((s.makeAll ((zb false ts os y (1000 * (d + 1))).2 ++ ex)).setAll (Jd gs ++ y21 bs restA)) a w' G5 ∧ RA G5 x v := by
 obtain ⟨G5, _, e3, e4, e2, e5⟩ := yg3 h1 hgs hbx hos htape hout hsz old hle hin hnew hc ha hav (n := 1000 * (d + 1)) (by omega)
 have hlent : ∀ p ∈ bs, qy bsx (bs.map fun p => G.g p.1) (G.g p.1).1 := fun p hp => .inr ⟨_, List.mem_map_of_mem hp, rfl⟩
 unfold ycU at hres
 unfold y6a at hbv
 cases hp : sg.ptr with
 | false =>
  rw [hp] at hres hbv
  simp only [cond_false] at hbv
  obtain ⟨_, hsp, hv⟩ := hres
  cases hsh : qY sg.rs (zb false ts os y (1000 * (d + 1))).1 with
  | none =>
   rw [hsh] at hbv
   cases hbv
  | some q =>
   obtain ⟨as, r⟩ := q
   rw [hsh] at hbv
   simp only [Option.some.injEq, Prod.mk.injEq] at hbv
   obtain ⟨rfl, rfl, rfl⟩ := hbv
   rw [List.append_nil] at hdis ⊢
   obtain ⟨f1, f2⟩ := y2D sg.rs _ as r vs' cs rest hsh e4 hsp
   refine ⟨G5, ybp h1 hbx hnd e3 hdis (fun p hp => (e2 p.1 fun hj => (hdis p.1 hj).2 (by rw [Wn]; exact List.mem_map_of_mem hp)).1) (fun p hp => e5 _ (.inr (.inl (hlent p hp))) (hpt p hp).1 (hpt p hp).2) f2 hbk hlens, ?_⟩
   rw [hv]
   exact ydY f1
 | true =>
  rw [hp] at hres hbv
  simp only [cond_true] at hbv
  obtain ⟨r, rs', b, off, vs1, vs2, c2, rfl, hrs, rfl, hl1, hsp, hv, hcells⟩ := hres
  rw [hrs] at hbv
  simp only at hbv
  cases hsh : qY rs' ((zb false ts os y (1000 * (d + 1))).1.drop r.ts.length) with
  | none =>
   rw [hsh] at hbv
   cases hbv
  | some q =>
  obtain ⟨as, r2⟩ := q
  rw [hsh] at hbv
  simp only [Option.some.injEq, Prod.mk.injEq] at hbv
  obtain ⟨rfl, rfl, rfl⟩ := hbv
  obtain ⟨n1, n2, n3, n4⟩ := hnb b rfl
  have hble : ts.length ≤ 500 := by
   have : Nat.ble ts.length 500 = true := by simpa [KZ] using hex
   exact Nat.le_of_ble_eq_true this
  obtain ⟨f1, f2⟩ := y6f e4 hl1
  obtain ⟨g1, g2⟩ := y2D rs' _ as r2 vs2 c2 rest hsh f2 hsp
  obtain ⟨i1, i2⟩ := y5A rs' _ as r2 hsh
  have hnd0 : ∀ j ∈ jk (zb false ts os y (1000 * (d + 1))).1, j ≠ 1000 * (d + 1) + 500 := fun j hj he => by
   have := y6h false ts os y (1000 * (d + 1)) j hj
   omega
  have hbox := e3.oldBox (1000 * (d + 1) + 500) b off f1 hcells (e5 b (n2.imp id .inl) n1 n3) (fun p hp => by rw [hpin] at hp; cases hp)
  rw [Jf _ (fun hj => hnd0 _ (y1t _ _ _ hj) rfl)] at hbox
  have hag : ∀ j, j ≠ 1000 * (d + 1) + 500 → (G5.upd (1000 * (d + 1) + 500) (b, off) undef (0, 0)).g j = G5.g j := fun j hj => by simp [Gh.upd, hj]
  have hy : ∀ p ∈ bs, p.1 ≠ 1000 * (d + 1) + 500 := fun p hp he => (hdis (1000 * (d + 1) + 500) (by rw [vn]; simp [zh])).2 (by rw [← he, Wn]; exact List.mem_map_of_mem hp)
  have hy2 : ∀ p ∈ bs, p.1 ∉ zh (zb false ts os y (1000 * (d + 1))).2 := fun p hp hj => (hdis p.1 (by rw [vn]; simp [hj])).2 (by rw [Wn]; exact List.mem_map_of_mem hp)
  refine ⟨_, ybp (Y := (zb false ts os y (1000 * (d + 1))).2 ++ [(1000 * (d + 1) + 500, .box ((zb false ts os y (1000 * (d + 1))).1.take r.ts.length))]) (G6 := G5.upd (1000 * (d + 1) + 500) (b, off) undef (0, 0)) h1 hbx hnd ?_ hdis (fun p hp => ?_) (fun p hp => ?_) (RL.agree (G := G5) (G' := G5.upd (1000 * (d + 1) + 500) (b, off) undef (0, 0)) rfl rfl _ _ g2 (fun j hj => by
   exact (G5.upd_agree _ _ _ _).same (hnd0 j (vo _ _ j (i2 j hj))))) hbk hlens, ?_⟩
  ·rw [St.makeAll_append]
   exact hbox
  ·rw [hag _ (hy p hp)]
   exact (e2 p.1 (hy2 p hp)).1
  ·rw [St.makeAll_append]
   exact (e5 _ (.inr (.inl (hlent p hp))) (hpt p hp).1 (hpt p hp).2).make (by
    simp only [zR, Gh.upd, if_true]
    exact fun he => n4 _ (List.mem_map_of_mem hp) he.symm)
  ·rw [hv]
   have hp1 : RA (G5.upd (1000 * (d + 1) + 500) (b, off) undef (0, 0)) (.box (1000 * (d + 1) + 500) 0) (.pointer (some ⟨b, off, none⟩)) := by
    show Value.pointer _ = .pointer _
    simp [Gh.upd]
   have g3 := RL.agree (G := G5) (G' := G5.upd (1000 * (d + 1) + 500) (b, off) undef (0, 0)) rfl rfl _ _ g1 (fun j hj => (G5.upd_agree _ _ _ _).same (hnd0 j (vo _ _ j (i1 j hj))))
   cases as with
   | nil =>
    cases c2 with
    | nil => exact hp1
    | cons _ _ => exact g3.elim
   | cons a as =>
    cases c2 with
    | nil => exact g3.elim
    | cons c c2 => exact ⟨_, rfl, hp1, g3⟩
end Go.Proofs.YtgediecndaheiaaGreat.R
