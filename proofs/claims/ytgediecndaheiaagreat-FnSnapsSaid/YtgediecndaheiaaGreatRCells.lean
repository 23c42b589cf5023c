/- What is handed over at a call, cell by cell. No condition. -/
import Derived.Test.YtgediecndaheiaaGreatRConv
set_option linter.all false
namespace Go.Proofs.YtgediecndaheiaaGreat.R
open Go.RowKit
variable {P : Program} {C : Ctx} {w0 : World} {lent : Nat → Prop} {H0 : Base} {s : St} {a : Act} {w : World} {G : Gh} {o : Oper} {K : Act → World → Prop} {Q : Exit → Act → World → Prop} {R : Type} {k : Eff → Option R} {r : R} {lk : Lk} {call : C.Sem}
def y4Z (H : Hp) (w : World) : (t : Ty) → Bool → El t → Value → (Nat → Prop) → Prop
 | .sl e ts, true, xs, v, b => b = (fun k => v.ownBlock = some k) ∧ 0 < ts.length ∧ ∃ cells, w.ownsRow 0 e ts.length v (List.length xs) cells ∧ (∀ u ∈ cells, u.oneCell' = true) ∧ ∀ (j : Nat) (x : z8 ts), (show List (z8 ts) from xs)[j]? = some x → RdE H ts x (fun k => cells[j * ts.length + k]?)
 | t, _, x, v, b => b = (fun _ => False) ∧ RdT H t x v
def vm (H : Hp) (w : World) : (ts : List Ty) → List Bool → z8 ts → List Value → List (Nat → Prop) → Prop
 | [], _, _, vs, bs => vs = [] ∧ bs = []
 | t :: [], os, x, vs, bs => ∃ v b, vs = [v] ∧ bs = [b] ∧ y4Z H w t (os.headD false) x v b
 | t :: u :: r, os, x, vs, bs => ∃ v b vs' bs', vs = v :: vs' ∧ bs = b :: bs' ∧ y4Z H w t (os.headD false) x.1 v b ∧ vm H w (u :: r) os.tail x.2 vs' bs'
theorem VQ.makeA {k d : Nat} (hf : VQ w0 lent s G k) {ob : Ob} {G' : Gh} (hag : Agree G G' d) (hH : G'.H = G.H) (hb : ¬ zR G' d ob k) : VQ w0 lent (s.make d ob) G' k := by
 have h1 := hf.forget hag hH
 refine ⟨h1.1, h1.2.1, fun j oj hj hbj => ?_⟩
 have hj' : z4 ((d, ob) :: (s.forget d).o) j = some oj := hj
 by_cases hjd : d = j
 ·subst hjd
  simp only [z4, yw, cond_true, Option.some.injEq] at hj'
  subst hj'
  exact hb hbj
 ·simp only [z4, yF hjd, cond_false] at hj'
  exact h1.2.2 j oj hj' hbj
theorem VQ.make {k d : Nat} (hf : VQ w0 lent s G k) {ob : Ob} {gg : Nat × Nat} {v : Value} {z : Nat × Nat} (hb : ¬ zR (G.upd d gg v z) d ob k) : VQ w0 lent (s.make d ob) (G.upd d gg v z) k :=
 hf.makeA (G.upd_agree d gg v z) rfl hb
def y3Q (G G' : Gh) (j : Nat) : Prop := G'.g j = G.g j ∧ G'.sv j = G.sv j ∧ G'.sz j = G.sz j
theorem y3Q.refl {G : Gh} {j : Nat} : y3Q G G j := ⟨rfl, rfl, rfl⟩
theorem y3Q.trans {G G' G'' : Gh} {j : Nat} (h : y3Q G G' j) (h' : y3Q G' G'' j) : y3Q G G'' j := ⟨h'.1.trans h.1, h'.2.1.trans h.2.1, h'.2.2.trans h.2.2⟩
theorem Agree.same {G G' : Gh} {i j : Nat} (h : Agree G G' i) (hj : j ≠ i) : y3Q G G' j := ⟨h.g j hj, h.sv j hj, h.sz j hj⟩
theorem y3R (h : Rel P w0 lent H0 s a w G) (tg : Bool) (t : Ty) (own : Bool) (x : El t) (n : Nat) (hn : 950 ≤ n) (v : Value) (b : Nat → Prop) (htp : tg = true → ∀ k, b k → G.pv k = w.heap[k]?) (hc : y4Z G.H w t own x v b) (hf : tg = false → ∀ k, b k → VQ w0 lent s G k) :
  ∃ G', G'.H = G.H ∧ (∀ j, j ∉ zh (wm tg t own x n).2 → y3Q G G' j) ∧ Rel P w0 lent H0 (s.makeAll (wm tg t own x n).2) a w G' ∧ RA G' (wm tg t own x n).1 v ∧
   ∀ k, VQ w0 lent s G k → ¬ b k → VQ w0 lent (s.makeAll (wm tg t own x n).2) G' k := by
 have plain : ∀ {t : Ty} {own : Bool} {x : El t}, wm tg t own x n = (.val t x, []) → b = (fun _ => False) ∧ RdT G.H t x v → ∃ G', G'.H = G.H ∧ (∀ j, j ∉ zh (wm tg t own x n).2 → y3Q G G' j) ∧ Rel P w0 lent H0 (s.makeAll (wm tg t own x n).2) a w G' ∧ RA G' (wm tg t own x n).1 v ∧
   ∀ k, VQ w0 lent s G k → ¬ b k → VQ w0 lent (s.makeAll (wm tg t own x n).2) G' k := by
  intro t own x he hr
  rw [he]
  exact ⟨G, rfl, fun _ _ => y3Q.refl, h, hr.2, fun k hk _ => hk⟩
 have root : ∀ {e : Nat} {ts : List Ty} {x : El (.sl e ts)} {cells : List Value}, (∀ k, b k → VQ w0 lent s G k) → (wm tg (.sl e ts) true x n) = (.own n, [(n, .root true e ts x)]) → 0 < ts.length → w.ownsRow 0 e ts.length v (List.length x) cells → (∀ u ∈ cells, u.oneCell' = true) → (∀ k, v.ownBlock = some k → b k) → (∀ (j : Nat) (y : z8 ts), (show List (z8 ts) from x)[j]? = some y → RdE G.H ts y (fun k => cells[j * ts.length + k]?)) →
   ∃ G', G'.H = G.H ∧ (∀ j, j ∉ zh (wm tg (.sl e ts) true x n).2 → y3Q G G' j) ∧ Rel P w0 lent H0 (s.makeAll (wm tg (.sl e ts) true x n).2) a w G' ∧ RA G' (wm tg (.sl e ts) true x n).1 v ∧
   ∀ k, VQ w0 lent s G k → ¬ b k → VQ w0 lent (s.makeAll (wm tg (.sl e ts) true x n).2) G' k := by
  intro e ts x cells hf he hpos hown hone hbk hrd
  rw [he]
  have hr := h.newRoot' n (H0.none (.inr hn)) (e := e) (ts := ts) (xs := x) (v := v) (w' := w) rfl rfl rfl (Nat.le_refl _) (fun _ _ => .inl rfl) hpos hown hone (fun k hk => hf k (hbk k hk)) hrd
  refine ⟨G.upd n ((v.ownBlock).getD 0, 0) v (ts.length, List.length x), rfl, fun j hj => (G.upd_agree n _ v _).same (by simpa [zh] using hj), hr.1, hr.2, fun k hk hne => hk.make fun he => hne (hbk k ?_)⟩
  simpa [zR, Gh.upd] using he
 cases t with
 | sl e ts =>
  cases own with
  | false => exact plain rfl hc
  | true =>
    obtain ⟨hb, hpos, cells, hown, hone, hrd⟩ := hc
    cases htt : tg with
    | false =>
     have := root (x := x) (hf htt) (by rw [htt]; rfl) hpos hown hone (fun k hk => by rw [hb]; exact hk) hrd
     rw [htt] at this
     exact this
    | true =>
     refine ⟨G, rfl, fun _ _ => y3Q.refl, h, ?_, fun k hk _ => hk⟩
     show RdR G.H G.pv ts x v
     rcases hown.2 with ⟨hv, hn⟩ | ⟨g, cap, cur, hv, _, hg, hle, hm, hsz, htk⟩
     ·exact ⟨none, 0, by rw [hv, hn], Nat.le_of_eq hn, by rw [hn]; omega, fun hp => by omega⟩
     ·refine ⟨some ⟨g, 0, none⟩, cap, hv, hle, Nat.le_trans hle (Nat.le_trans hm (by decide)), fun _ => ⟨_, rfl, fun j y hj => ?_⟩⟩
      have hk : G.pv g = some (.cells cur e (0, 0)) := (htp htt g (by rw [hb, hv]; rfl)).trans hg
      refine RdE.mono (Hp.le.refl _) ts y _ _ (fun i u hu => ?_) (hrd j y hj)
      rw [Kw]
      unfold y0X
      simp only [hk]
      rw [← htk, List.getElem?_take] at hu
      split at hu
      ·simpa using hu
      ·cases hu
 | int _ => exact plain (by cases own <;> rfl) (by cases own <;> exact hc)
 | bool => exact plain (by cases own <;> rfl) (by cases own <;> exact hc)
 | str => exact plain (by cases own <;> rfl) (by cases own <;> exact hc)
theorem makeAll_append : ∀ (l l' : List (Nat × Ob)) (s : St), s.makeAll (l ++ l') = (s.makeAll l).makeAll l'
 | [], _, _ => rfl
 | (i, x) :: l, l', s => makeAll_append l l' (s.make i x)
theorem ycR {G G' : Gh} {tg : Bool} {t : Ty} {own : Bool} {x : El t} {n : Nat} {v : Value} (hH : G'.H = G.H) (hp : G'.pv = G.pv) (hn : G'.sv n = G.sv n) (h : RA G (wm tg t own x n).1 v) : RA G' (wm tg t own x n).1 v := by
 have plain : RdT G.H t x v → RdT G'.H t x v := fun h => by rw [hH]; exact h
 cases t with
 | sl e ts =>
  cases own with
  | false => exact plain h
  | true =>
   cases hc : tg with
   | true =>
    simp only [wm, hc, cond_true] at h ⊢
    show RdR G'.H G'.pv ts x v
    rw [hH, hp]
    exact h
   | false =>
    simp only [wm, hc, cond_false] at h ⊢
    exact ⟨by rw [hn]; exact h.1, h.2⟩
 | int _ => cases own <;> exact plain h
 | bool => cases own <;> exact plain h
 | str => cases own <;> exact plain h
theorem vn {α : Type} : ∀ (X Y : List (Nat × α)), zh (X ++ Y) = zh X ++ zh Y
 | [], _ => rfl
 | (i, _) :: X, Y => by simp [zh, vn X Y]
theorem y5t (tg : Bool) (t : Ty) (own : Bool) (x : El t) (n : Nat) : ∀ j ∈ zh (wm tg t own x n).2, j = n := by
 intro j hj
 cases t <;> cases own <;> cases tg <;> simp [wm, zh] at hj <;> exact hj
theorem y8e (tg : Bool) : ∀ (ts : List Ty) (os : List Bool) (x : z8 ts) (n : Nat), ∀ j ∈ zh (zb tg ts os x n).2, n ≤ j ∧ j < n + ts.length := by
 intro ts
 induction ts with
 | nil =>
  intro os x n j hj
  exact absurd hj (by simp [zb, zh])
 | cons t ts ih =>
  intro os x n j hj
  cases ts with
  | nil =>
   have := y5t tg t (os.headD false) x n j hj
   simp only [List.length_cons, List.length_nil]
   omega
  | cons u r =>
   rw [show (zb tg (t :: u :: r) os x n).2 = (wm tg t (os.headD false) x.1 n).2 ++ (zb tg (u :: r) os.tail x.2 (n + 1)).2 from rfl, vn] at hj
   rcases List.mem_append.1 hj with hj | hj
   ·have := y5t tg t _ x.1 n j hj
    simp only [List.length_cons]
    omega
   ·have := ih os.tail x.2 (n + 1) j hj
    simp only [List.length_cons] at this ⊢
    omega
theorem y1r (tg : Bool) : ∀ (ts : List Ty) (os : List Bool) (x : z8 ts) (n : Nat) (vs : List Value) (bs : List (Nat → Prop)) (s : St) (G : Gh), 950 ≤ n → Rel P w0 lent H0 s a w G → (tg = true → ∀ k, In bs k → G.pv k = w.heap[k]?) → vm G.H w ts os x vs bs → (tg = false → ∀ k, In bs k → VQ w0 lent s G k) → y4Y bs →
  ∃ G', G'.H = G.H ∧ (∀ j, j ∉ zh (zb tg ts os x n).2 → y3Q G G' j) ∧ Rel P w0 lent H0 (s.makeAll (zb tg ts os x n).2) a w G' ∧ RL G' (zb tg ts os x n).1 vs ∧
   ∀ k, VQ w0 lent s G k → ¬ In bs k → VQ w0 lent (s.makeAll (zb tg ts os x n).2) G' k := by
 intro ts
 induction ts with
 | nil =>
  intro os x n vs bs s G hn h htp hc hf ha
  obtain ⟨rfl, rfl⟩ := hc
  exact ⟨G, rfl, fun _ _ => y3Q.refl, h, trivial, fun k hk _ => hk⟩
 | cons t ts ih =>
  intro os x n vs bs s G hn h htp hc hf ha
  cases ts with
  | nil =>
   obtain ⟨v, b, rfl, rfl, hcr⟩ := hc
   obtain ⟨G', h1, h2, h3, h4, h5⟩ := y3R h tg t (os.headD false) x n hn v b (fun ht k hk => htp ht k (In.cons.2 (.inl hk))) hcr (fun hz k hk => hf hz k (In.cons.2 (.inl hk)))
   exact ⟨G', h1, fun j hj => h2 j hj, h3, ⟨h4, trivial⟩, fun k hk hne => h5 k hk (fun e => hne (In.cons.2 (.inl e)))⟩
  | cons u r =>
   obtain ⟨v, b, vs', bs', rfl, rfl, hcr, hcs⟩ := hc
   obtain ⟨G1, h1, h2, h3, h4, h5⟩ := y3R h tg t (os.headD false) x.1 n hn v b (fun ht k hk => htp ht k (In.cons.2 (.inl hk))) hcr (fun hz k hk => hf hz k (In.cons.2 (.inl hk)))
   have ha' := List.pairwise_cons.1 ha
   obtain ⟨G', e1, e2, e3, e4, e5⟩ := ih os.tail x.2 (n + 1) vs' bs' _ G1 (by omega) h3 (fun ht k hk => by
    rw [h3.pv, ← h.pv]
    exact htp ht k (In.cons.2 (.inr hk))) (by rw [h1]; exact hcs) (fun hz k hk => h5 k (hf hz k (In.cons.2 (.inr hk))) (fun e => by
    obtain ⟨c, hc, hck⟩ := hk
    exact ha'.1 c hc k e hck)) ha'.2
   refine ⟨G', e1.trans h1, fun j hj => ?_, ?_, ⟨?_, e4⟩, fun k hk hne => ?_⟩
   ·rw [show (zb tg (t :: u :: r) os x n).2 = (wm tg t (os.headD false) x.1 n).2 ++ (zb tg (u :: r) os.tail x.2 (n + 1)).2 from rfl, vn, List.mem_append, not_or] at hj
    exact (h2 j hj.1).trans (e2 j hj.2)
   ·rw [show (zb tg (t :: u :: r) os x n).2 = (wm tg t (os.headD false) x.1 n).2 ++ (zb tg (u :: r) os.tail x.2 (n + 1)).2 from rfl, makeAll_append]
    exact e3
   ·exact ycR e1 (e3.pv.trans h3.pv.symm) (e2 n (fun hn => by have := (y8e tg (u :: r) os.tail x.2 (n + 1) n hn).1; omega)).2.1 h4
   ·rw [show (zb tg (t :: u :: r) os x n).2 = (wm tg t (os.headD false) x.1 n).2 ++ (zb tg (u :: r) os.tail x.2 (n + 1)).2 from rfl, makeAll_append]
    exact e5 k (h5 k hk (fun e => hne (In.cons.2 (.inl e)))) (fun e => hne (In.cons.2 (.inr e)))
theorem y3S (h : Rel P w0 lent H0 s a w G) (hlk : y4T lk s) {G1 : Gh} (hg : Grown G G1) {own : Bool} {t : Ty} {x : A} {y : El t} {is gs : List Nat} (hx : qA lk own t x = some (y, is, gs)) (hs : jr lk G1 is) {v : Value} (hr : RA G x v) :
  ∃ b, y4Z G1.H w t own y v b ∧ y26 s G gs [b] ∧ (own = false → ∀ k, ¬ b k) := by
 have plain : own = false ∨ t.flat = true → RdT G1.H t y v → ∃ b, y4Z G1.H w t own y v b ∧ y26 s G gs [b] ∧ (own = false → ∀ k, ¬ b k) := by
  intro ho hrd
  refine ⟨fun _ => False, ?_, fun k hk => by simp [In] at hk, fun _ _ h => h⟩
  cases t with
  | sl e ts =>
   rcases ho with rfl | ho
   ·exact ⟨rfl, hrd⟩
   ·simp [Ty.flat] at ho
  | int _ => cases own <;> exact ⟨rfl, hrd⟩
  | bool => cases own <;> exact ⟨rfl, hrd⟩
  | str => cases own <;> exact ⟨rfl, hrd⟩
 cases own with
 | false =>
  have hx' : (toT lk t x).map (fun (y, is) => (y, is, ([] : List Nat))) = some (y, is, gs) := hx
  obtain ⟨p, hp, he⟩ := Option.map_eq_some_iff.1 hx'
  obtain ⟨y', is'⟩ := p
  injection he with e1 e2
  injection e2 with e2 e3
  subst e1 e2
  exact plain (.inl rfl) (y1p hp hs (hr.grown hg))
 | true =>
  cases x with
  | own q =>
   simp only [qA, cond_true] at hx
   cases hq : lk q with
   | none => simp [hq] at hx
   | some ob =>
    cases ob with
    | root own e ts xs =>
     cases own with
     | false => simp [hq] at hx
     | true =>
      simp only [hq] at hx
      obtain ⟨z, hz, he⟩ := Option.map_eq_some_iff.1 hx
      injection he with e1 e2
      injection e2 with e2 e3
      subst e1 e2 e3
      unfold Qh at hz
      split at hz
      ·rename_i heq
       have ht := Ty.eqb_eq _ _ heq
       subst ht
       injection hz with hz
       subst hz
       obtain ⟨hsz, hpos, cells, hown, hone, hblk, hrd⟩ := h.objs q _ (hlk q _ hq)
       refine ⟨fun k => v.ownBlock = some k, ⟨rfl, hpos, cells, by rw [hr.1]; exact hown, hone, fun j x hj => RdE.mono hg.H _ x _ _ (fun _ _ hv => hv) (hrd j x hj)⟩, fun k hk => ⟨q, by simp, _, hlk q _ hq, ?_⟩, fun h => Bool.noConfusion h⟩
       have hk' : v.ownBlock = some k := by simpa [In] using hk
       show (G.sv q).ownBlock = some k
       rw [← hr.1]
       exact hk'
      ·cases hz
    | _ => simp [hq] at hx
  | nils =>
   cases t with
   | sl e ts =>
    simp only [qA, cond_true] at hx
    cases hb : Nat.blt 0 ts.length with
    | false => simp [hb] at hx
    | true =>
     simp only [hb, cond_true] at hx
     injection hx with hx
     injection hx with e1 e2
     subst e1
     have hv : v = .slice none 0 0 := hr
     subst hv
     have hpos := kD hb
     exact ⟨fun _ => False, ⟨by funext k; simp [Value.ownBlock], hpos, [], World.ownsRow_nil w 0 e ts.length, by simp, fun j x hx => by simp [y67] at hx⟩, fun k hk => by simp [In] at hk, fun h => by (cases h)⟩
   | _ => simp [qA] at hx
  | val t' x' =>
   simp only [qA, cond_true] at hx
   cases hfl : Ty.flat t with
   | false => simp [hfl] at hx
   | true =>
    simp only [hfl, cond_true] at hx
    obtain ⟨z, hz, he⟩ := Option.map_eq_some_iff.1 hx
    injection he with e1 e2
    subst e1
    exact plain (.inr hfl) (y0j hz (hr.grown hg))
  | _ => cases t <;> simp [qA] at hx
theorem y5u (h : Rel P w0 lent H0 s a w G) (hlk : y4T lk s) {G1 : Gh} (hg : Grown G G1) : ∀ (ts : List Ty) (os : List Bool) (l : List A) (y : z8 ts) (is gs : List Nat), VT lk ts os l = some (y, is, gs) → jr lk G1 is → gs.Nodup → ∀ (vs : List Value), RL G l vs →
  ∃ bs, vm G1.H w ts os y vs bs ∧ y26 s G gs bs ∧ y4Y bs := by
 intro ts
 induction ts with
 | nil =>
  intro os l y is gs hx hs hn vs hr
  cases l with
  | nil =>
   cases vs with
   | nil => exact ⟨[], ⟨rfl, rfl⟩, fun k hk => absurd hk In.nil, List.Pairwise.nil⟩
   | cons _ _ => exact hr.elim
  | cons x l => exact absurd hx (by rw [show VT lk [] os (x :: l) = none from rfl]; exact fun h => by cases h)
 | cons t ts ih =>
  intro os l y is gs hx hs hn vs hr
  cases ts with
  | nil =>
   cases l with
   | nil => exact absurd hx (by rw [show VT lk [t] os [] = none from rfl]; exact fun h => by cases h)
   | cons x l =>
    cases l with
    | cons x2 l => exact absurd hx (by rw [show VT lk [t] os (x :: x2 :: l) = none from rfl]; exact fun h => by cases h)
    | nil =>
     have hx' : qA lk (os.headD false) t x = some (y, is, gs) := hx
     cases vs with
     | nil => exact hr.elim
     | cons v vs =>
      cases vs with
      | cons _ _ => exact hr.2.elim
      | nil =>
       obtain ⟨b, h1, h2, h3⟩ := y3S h hlk hg hx' hs hr.1
       exact ⟨[b], ⟨v, b, rfl, rfl, h1⟩, h2, List.pairwise_singleton _ _⟩
  | cons u r =>
   cases l with
   | nil => exact absurd hx (by rw [show VT lk (t :: u :: r) os [] = none from rfl]; exact fun h => by cases h)
   | cons x l =>
    have hx' : (match qA lk (os.headD false) t x with
     | some (x, is, gs) => match VT lk (u :: r) os.tail l with
      | some (y, js, hs) => some (((x, y) : z8 (t :: u :: r)), is ++ js, gs ++ hs)
      | none => none
     | none => none) = some (y, is, gs) := hx
    cases h1 : qA lk (os.headD false) t x with
    | none =>
     rw [h1] at hx'
     cases hx'
    | some p =>
     obtain ⟨x1, is1, gs1⟩ := p
     rw [h1] at hx'
     cases h2 : VT lk (u :: r) os.tail l with
     | none =>
      rw [h2] at hx'
      cases hx'
     | some q =>
      obtain ⟨y1, is2, gs2⟩ := q
      rw [h2] at hx'
      injection hx' with hx'
      injection hx' with e1 e2
      injection e2 with e2 e3
      subst e1 e2 e3
      cases vs with
      | nil => exact hr.elim
      | cons v vs =>
       obtain ⟨n1, n2, n3⟩ := List.nodup_append.1 hn
       obtain ⟨b, c1, c2, c3⟩ := y3S h hlk hg h1 hs.left hr.1
       obtain ⟨bs, d1, d2, d3⟩ := ih os.tail l y1 is2 gs2 h2 hs.right n2 vs hr.2
       have hap := y9O h c2 d2 (fun q hq hq' => n3 q hq q hq' rfl)
       refine ⟨b :: bs, ⟨v, b, vs, bs, rfl, rfl, c1, d1⟩, fun k hk => ?_, List.pairwise_cons.2 ⟨fun c hc k hb hck => hap k (by simpa [In] using hb) ⟨c, hc, hck⟩, d3⟩⟩
       rcases In.cons.1 hk with hk | hk
       ·obtain ⟨q, hq, rest⟩ := c2 k (by simpa [In] using hk)
        exact ⟨q, by simp [hq], rest⟩
       ·obtain ⟨q, hq, rest⟩ := d2 k hk
        exact ⟨q, by simp [hq], rest⟩
end Go.Proofs.YtgediecndaheiaaGreat.R
