/- What is handed over at a call, cell by cell. No condition. -/
import Derived.Test.YtmapoakbdgpamaaGreatRConv
set_option linter.all false
namespace Go.Proofs.YtmapoakbdgpamaaGreat.R
open Go.RowKit
variable {P : Program} {C : Ctx} {w0 : World} {lent : Nat → Prop} {H0 : Base} {s : St} {a : Act} {w : World} {G : Gh} {o : Oper} {K : Act → World → Prop} {Q : Exit → Act → World → Prop} {R : Type} {k : Eff → Option R} {r : R} {lk : Lk} {call : C.Sem}
def y43 (dp : Bool) (H : Hp) (w : World) : (t : Ty) → Bool → El t → Value → (Nat → Prop) → Prop
 | .sl e ts, true, xs, v, b => match dp with
  | true => DpT w (.sl e ts) b xs v ∧ ∀ k, b k → k < w.heap.size
  | false => b = (fun k => v.ownBlock = some k) ∧ 0 < ts.length ∧ ∃ cells, w.ownsRow 0 e ts.length v (List.length xs) cells ∧ (∀ u ∈ cells, u.oneCell' = true) ∧ ∀ (j : Nat) (x : yB ts), (show List (yB ts) from xs)[j]? = some x → RdE H ts x (fun k => cells[j * ts.length + k]?)
 | t, _, x, v, b => b = (fun _ => False) ∧ RdT H t x v
def kp (dp : Bool) (H : Hp) (w : World) : (ts : List Ty) → List Bool → yB ts → List Value → List (Nat → Prop) → Prop
 | [], _, _, vs, bs => vs = [] ∧ bs = []
 | t :: [], os, x, vs, bs => ∃ v b, vs = [v] ∧ bs = [b] ∧ y43 dp H w t (os.headD false) x v b
 | t :: u :: r, os, x, vs, bs => ∃ v b vs' bs', vs = v :: vs' ∧ bs = b :: bs' ∧ y43 dp H w t (os.headD false) x.1 v b ∧ kp dp H w (u :: r) os.tail x.2 vs' bs'
theorem Kl.makeA {k d : Nat} (hf : Kl w0 lent s G k) {ob : Ob} {G' : Gh} (hag : Agree G G' d) (hH : G'.H = G.H) (hb : ¬ yL G' d ob k) : Kl w0 lent (s.make d ob) G' k := by
 have h1 := hf.forget hag hH
 refine ⟨h1.1, h1.2.1, fun j oj hj hbj => ?_⟩
 have hj' : yq ((d, ob) :: (s.forget d).o) j = some oj := hj
 by_cases hjd : d = j
 ·subst hjd
  simp only [yq, yl, cond_true, Option.some.injEq] at hj'
  subst hj'
  exact hb hbj
 ·simp only [yq, yt hjd, cond_false] at hj'
  exact h1.2.2 j oj hj' hbj
theorem Kl.make {k d : Nat} (hf : Kl w0 lent s G k) {ob : Ob} {gg : Nat × Nat} {v : Value} {z : Nat × Nat} (hb : ¬ yL (G.upd d gg v z) d ob k) : Kl w0 lent (s.make d ob) (G.upd d gg v z) k :=
 hf.makeA (G.upd_agree d gg v z) rfl hb
def y35 (G G' : Gh) (j : Nat) : Prop := G'.g j = G.g j ∧ G'.sv j = G.sv j ∧ G'.sz j = G.sz j ∧ G'.hd j = G.hd j
theorem y35.refl {G : Gh} {j : Nat} : y35 G G j := ⟨rfl, rfl, rfl, rfl⟩
theorem y35.trans {G G' G'' : Gh} {j : Nat} (h : y35 G G' j) (h' : y35 G' G'' j) : y35 G G'' j := ⟨h'.1.trans h.1, h'.2.1.trans h.2.1, h'.2.2.1.trans h.2.2.1, h'.2.2.2.trans h.2.2.2⟩
theorem Agree.same {G G' : Gh} {i j : Nat} (h : Agree G G' i) (hj : j ≠ i) : y35 G G' j := ⟨h.g j hj, h.sv j hj, h.sz j hj, h.hd j hj⟩
theorem y36 (h : Rel P w0 lent H0 s a w G) (dp tg : Bool) (t : Ty) (own : Bool) (x : El t) (n : Nat) (hn : 950 ≤ n) (v : Value) (b : Nat → Prop) (htg : tg = true → G.pv (n - 950) = v) (hc : y43 dp G.H w t own x v b) (hf : ∀ k, b k → Kl w0 lent s G k) :
  ∃ G', G'.H = G.H ∧ (∀ j, j ∉ yS (zL dp tg t own x n).2 → y35 G G' j) ∧ Rel P w0 lent H0 (s.makeAll (zL dp tg t own x n).2) a w G' ∧ RA G' (zL dp tg t own x n).1 v ∧
   ∀ k, Kl w0 lent s G k → ¬ b k → Kl w0 lent (s.makeAll (zL dp tg t own x n).2) G' k := by
 have plain : ∀ {t : Ty} {own : Bool} {x : El t}, zL dp tg t own x n = (.val t x, []) → b = (fun _ => False) ∧ RdT G.H t x v → ∃ G', G'.H = G.H ∧ (∀ j, j ∉ yS (zL dp tg t own x n).2 → y35 G G' j) ∧ Rel P w0 lent H0 (s.makeAll (zL dp tg t own x n).2) a w G' ∧ RA G' (zL dp tg t own x n).1 v ∧
   ∀ k, Kl w0 lent s G k → ¬ b k → Kl w0 lent (s.makeAll (zL dp tg t own x n).2) G' k := by
  intro t own x he hr
  rw [he]
  exact ⟨G, rfl, fun _ _ => y35.refl, h, hr.2, fun k hk _ => hk⟩
 have root : ∀ {e : Nat} {ts : List Ty} {x : El (.sl e ts)} {cells : List Value}, (zL dp tg (.sl e ts) true x n) = (.own n, [(n, .root true e ts x)]) → 0 < ts.length → w.ownsRow 0 e ts.length v (List.length x) cells → (∀ u ∈ cells, u.oneCell' = true) → (∀ k, v.ownBlock = some k → b k) → (∀ (j : Nat) (y : yB ts), (show List (yB ts) from x)[j]? = some y → RdE G.H ts y (fun k => cells[j * ts.length + k]?)) →
   ∃ G', G'.H = G.H ∧ (∀ j, j ∉ yS (zL dp tg (.sl e ts) true x n).2 → y35 G G' j) ∧ Rel P w0 lent H0 (s.makeAll (zL dp tg (.sl e ts) true x n).2) a w G' ∧ RA G' (zL dp tg (.sl e ts) true x n).1 v ∧
   ∀ k, Kl w0 lent s G k → ¬ b k → Kl w0 lent (s.makeAll (zL dp tg (.sl e ts) true x n).2) G' k := by
  intro e ts x cells he hpos hown hone hbk hrd
  rw [he]
  have hr := h.newRoot' n (H0.none (.inr hn)) (e := e) (ts := ts) (xs := x) (v := v) (w' := w) rfl rfl rfl (Nat.le_refl _) (fun _ _ => .inl rfl) hpos hown hone (fun k hk => hf k (hbk k hk)) hrd
  refine ⟨G.upd n ((v.ownBlock).getD 0, 0) v (ts.length, List.length x), rfl, fun j hj => (G.upd_agree n _ v _).same (by simpa [yS] using hj), hr.1, hr.2, fun k hk hne => hk.make fun he => hne (hbk k ?_)⟩
  simpa [yL, Gh.upd] using he
 cases t with
 | sl e ts =>
  cases own with
  | false => exact plain rfl hc
  | true =>
   cases dp with
   | false =>
    obtain ⟨hb, hpos, cells, hown, hone, hrd⟩ := hc
    exact root rfl hpos hown hone (fun k hk => by rw [hb]; exact hk) hrd
   | true =>
    obtain ⟨hd, hlt⟩ := hc
    obtain ⟨cells, Bs, hd⟩ := DpT.row.1 hd
    have deep : ∀ (tag : Nat), (0 < tag → v = G.pv (tag - 1)) → zL true tg (.sl e ts) true x n = (.own n, [(n, .deep true tag e ts x)]) → ∃ G', G'.H = G.H ∧ (∀ j, j ∉ yS (zL true tg (.sl e ts) true x n).2 → y35 G G' j) ∧ Rel P w0 lent H0 (s.makeAll (zL true tg (.sl e ts) true x n).2) a w G' ∧ RA G' (zL true tg (.sl e ts) true x n).1 v ∧
      ∀ k, Kl w0 lent s G k → ¬ b k → Kl w0 lent (s.makeAll (zL true tg (.sl e ts) true x n).2) G' k := by
     intro tag htag he
     rw [he]
     have hr := h.newDeep n (H0.none (.inr hn)) (fin := true) (tag := tag) (w' := w) rfl rfl rfl (Nat.le_refl _) (fun _ _ => .inl rfl) hd htag hlt hf
     refine ⟨G.updD n ((v.ownBlock).getD 0, 0) v (ts.length, List.length x) b (fun m => cells.getD m undef), rfl, fun j hj => (G.updD_agree n _ v _ _ _).same (by simpa [yS] using hj), hr.1, hr.2, fun k hk hne => hk.makeA (G.updD_agree n _ v _ _ _) rfl fun he => hne ?_⟩
     simpa [yL, Gh.updD] using he
    cases htt : tg with
    | true =>
     have := deep (n - 949) (fun _ => by
      rw [show n - 949 - 1 = n - 950 by omega]
      exact (htg htt).symm) (by rw [htt]; rfl)
     rw [htt] at this
     exact this
    | false =>
     cases hfl : Wy ts with
     | true =>
      have := root (x := x) (by rw [htt]; simp [zL, hfl]) hd.pos hd.row hd.one hd.top (fun j y hj => yg1 ts y _ hfl (hd.rd j y hj))
      rw [htt] at this
      exact this
     | false =>
      have := deep 0 (fun h => absurd h (Nat.lt_irrefl 0)) (by rw [htt]; simp [zL, hfl])
      rw [htt] at this
      exact this
 | int _ => exact plain (by cases own <;> rfl) (by cases own <;> exact hc)
 | bool => exact plain (by cases own <;> rfl) (by cases own <;> exact hc)
 | str => exact plain (by cases own <;> rfl) (by cases own <;> exact hc)
theorem makeAll_append : ∀ (l l' : List (Nat × Ob)) (s : St), s.makeAll (l ++ l') = (s.makeAll l).makeAll l'
 | [], _, _ => rfl
 | (i, x) :: l, l', s => makeAll_append l l' (s.make i x)
theorem ybC {G G' : Gh} {dp tg : Bool} {t : Ty} {own : Bool} {x : El t} {n : Nat} {v : Value} (hH : G'.H = G.H) (hn : G'.sv n = G.sv n) (h : RA G (zL dp tg t own x n).1 v) : RA G' (zL dp tg t own x n).1 v := by
 have plain : RdT G.H t x v → RdT G'.H t x v := fun h => by rw [hH]; exact h
 cases t with
 | sl e ts =>
  cases own with
  | false => exact plain h
  | true => exact ⟨by rw [hn]; exact h.1, h.2⟩
 | int _ => cases own <;> exact plain h
 | bool => cases own <;> exact plain h
 | str => cases own <;> exact plain h
theorem WG {α : Type} : ∀ (X Y : List (Nat × α)), yS (X ++ Y) = yS X ++ yS Y
 | [], _ => rfl
 | (i, _) :: X, Y => by simp [yS, WG X Y]
theorem y1l (dp tg : Bool) (t : Ty) (own : Bool) (x : El t) (n : Nat) : ∀ j ∈ yS (zL dp tg t own x n).2, j = n := by
 intro j hj
 cases t <;> cases own <;> simp [zL, yS] at hj <;> exact hj
theorem y1M (dp tg : Bool) : ∀ (ts : List Ty) (os : List Bool) (x : yB ts) (n : Nat), ∀ j ∈ yS (yw dp tg ts os x n).2, n ≤ j ∧ j < n + ts.length := by
 intro ts
 induction ts with
 | nil =>
  intro os x n j hj
  exact absurd hj (by simp [yw, yS])
 | cons t ts ih =>
  intro os x n j hj
  cases ts with
  | nil =>
   have := y1l dp tg t (os.headD false) x n j hj
   simp only [List.length_cons, List.length_nil]
   omega
  | cons u r =>
   rw [show (yw dp tg (t :: u :: r) os x n).2 = (zL dp tg t (os.headD false) x.1 n).2 ++ (yw dp tg (u :: r) os.tail x.2 (n + 1)).2 from rfl, WG] at hj
   rcases List.mem_append.1 hj with hj | hj
   ·have := y1l dp tg t _ x.1 n j hj
    simp only [List.length_cons]
    omega
   ·have := ih os.tail x.2 (n + 1) j hj
    simp only [List.length_cons] at this ⊢
    omega
theorem y0M (dp tg : Bool) : ∀ (ts : List Ty) (os : List Bool) (x : yB ts) (n : Nat) (vs : List Value) (bs : List (Nat → Prop)) (s : St) (G : Gh), 950 ≤ n → Rel P w0 lent H0 s a w G → (tg = true → ∀ j v, vs[j]? = some v → G.pv (n + j - 950) = v) → kp dp G.H w ts os x vs bs → (∀ k, In bs k → Kl w0 lent s G k) → y0J bs →
  ∃ G', G'.H = G.H ∧ (∀ j, j ∉ yS (yw dp tg ts os x n).2 → y35 G G' j) ∧ Rel P w0 lent H0 (s.makeAll (yw dp tg ts os x n).2) a w G' ∧ RL G' (yw dp tg ts os x n).1 vs ∧
   ∀ k, Kl w0 lent s G k → ¬ In bs k → Kl w0 lent (s.makeAll (yw dp tg ts os x n).2) G' k := by
 intro ts
 induction ts with
 | nil =>
  intro os x n vs bs s G hn h htg hc hf ha
  obtain ⟨rfl, rfl⟩ := hc
  exact ⟨G, rfl, fun _ _ => y35.refl, h, trivial, fun k hk _ => hk⟩
 | cons t ts ih =>
  intro os x n vs bs s G hn h htg hc hf ha
  cases ts with
  | nil =>
   obtain ⟨v, b, rfl, rfl, hcr⟩ := hc
   obtain ⟨G', h1, h2, h3, h4, h5⟩ := y36 h dp tg t (os.headD false) x n hn v b (fun ht => htg ht 0 v rfl) hcr (fun k hk => hf k (In.cons.2 (.inl hk)))
   exact ⟨G', h1, fun j hj => h2 j hj, h3, ⟨h4, trivial⟩, fun k hk hne => h5 k hk (fun e => hne (In.cons.2 (.inl e)))⟩
  | cons u r =>
   obtain ⟨v, b, vs', bs', rfl, rfl, hcr, hcs⟩ := hc
   obtain ⟨G1, h1, h2, h3, h4, h5⟩ := y36 h dp tg t (os.headD false) x.1 n hn v b (fun ht => htg ht 0 v rfl) hcr (fun k hk => hf k (In.cons.2 (.inl hk)))
   have ha' := List.pairwise_cons.1 ha
   obtain ⟨G', e1, e2, e3, e4, e5⟩ := ih os.tail x.2 (n + 1) vs' bs' _ G1 (by omega) h3 (fun ht j w hw => by
    rw [h3.pv, ← h.pv, show n + 1 + j - 950 = n + (j + 1) - 950 by omega]
    exact htg ht (j + 1) w (by simpa using hw)) (by rw [h1]; exact hcs) (fun k hk => h5 k (hf k (In.cons.2 (.inr hk))) (fun e => by
    obtain ⟨c, hc, hck⟩ := hk
    exact ha'.1 c hc k e hck)) ha'.2
   refine ⟨G', e1.trans h1, fun j hj => ?_, ?_, ⟨?_, e4⟩, fun k hk hne => ?_⟩
   ·rw [show (yw dp tg (t :: u :: r) os x n).2 = (zL dp tg t (os.headD false) x.1 n).2 ++ (yw dp tg (u :: r) os.tail x.2 (n + 1)).2 from rfl, WG, List.mem_append, not_or] at hj
    exact (h2 j hj.1).trans (e2 j hj.2)
   ·rw [show (yw dp tg (t :: u :: r) os x n).2 = (zL dp tg t (os.headD false) x.1 n).2 ++ (yw dp tg (u :: r) os.tail x.2 (n + 1)).2 from rfl, makeAll_append]
    exact e3
   ·exact ybC e1 (e2 n (fun hn => by have := (y1M dp tg (u :: r) os.tail x.2 (n + 1) n hn).1; omega)).2.1 h4
   ·rw [show (yw dp tg (t :: u :: r) os x n).2 = (zL dp tg t (os.headD false) x.1 n).2 ++ (yw dp tg (u :: r) os.tail x.2 (n + 1)).2 from rfl, makeAll_append]
    exact e5 k (h5 k hk (fun e => hne (In.cons.2 (.inl e)))) (fun e => hne (In.cons.2 (.inr e)))
theorem y37 (h : Rel P w0 lent H0 s a w G) (hlk : y1H lk s) {G1 : Gh} (hg : Grown G G1) {dp bk own : Bool} {t : Ty} {x : A} {y : El t} {is gs : List Nat} (hx : K2 lk dp bk own t x = some (y, is, gs)) (hs : Zr lk G1 is) {v : Value} (hr : RA G x v) :
  ∃ b, y43 dp G1.H w t own y v b ∧ QQ s G gs [b] ∧ (own = false → ∀ k, ¬ b k) ∧ ∀ o i c, own = true → x = .bor o i c → TgB s w G o i c b := by
 have plain : own = false ∨ (t.flat = true ∧ ∀ o i c, x ≠ .bor o i c) → RdT G1.H t y v → ∃ b, y43 dp G1.H w t own y v b ∧ QQ s G gs [b] ∧ (own = false → ∀ k, ¬ b k) ∧ ∀ o i c, own = true → x = .bor o i c → TgB s w G o i c b := by
  intro ho hrd
  refine ⟨fun _ => False, ?_, fun k hk => by simp [In] at hk, fun _ _ h => h, fun o i c ht hx => by
   rcases ho with ho | ho
   ·rw [ho] at ht
    cases ht
   ·exact absurd hx (ho.2 o i c)⟩
  cases t with
  | sl e ts =>
   rcases ho with rfl | ho
   ·exact ⟨rfl, hrd⟩
   ·simp [Ty.flat] at ho
  | int _ => cases own <;> exact ⟨rfl, hrd⟩
  | bool => cases own <;> exact ⟨rfl, hrd⟩
  | str => cases own <;> exact ⟨rfl, hrd⟩
 cases own with
 | false =>
  have hx' : (toT lk t x).map (fun (y, is) => (y, is, ([] : List Nat))) = some (y, is, gs) := hx
  obtain ⟨p, hp, he⟩ := Option.map_eq_some_iff.1 hx'
  obtain ⟨y', is'⟩ := p
  injection he with e1 e2
  injection e2 with e2 e3
  subst e1 e2
  exact plain (.inl rfl) (y0I hp hs (hr.grown hg))
 | true =>
  cases dp with
  | true =>
   simp only [K2, cond_true] at hx
   obtain ⟨p, hp, he⟩ := Option.map_eq_some_iff.1 hx
   obtain ⟨y', gs'⟩ := p
   injection he with e1 e2
   injection e2 with e2 e3
   subst e1 e2 e3
   obtain ⟨B, h1, h2, h3, h4⟩ := y2W h hlk hp hr
   have nob : t.flat = true → ∀ o i c, x ≠ .bor o i c := by
    intro hf o i c hx0
    subst hx0
    obtain ⟨⟨_, _⟩, A, n, m, hv⟩ := hr
    have h1' := (DpT.flat hf G1.H).1 h1
    rw [hv] at h1'
    cases t with
    | sl e ts => simp [Ty.flat] at hf
    | int _ => cases (show Value.slice A n m = _ from h1')
    | bool => cases (show Value.slice A n m = _ from h1')
    | str => cases (show Value.slice A n m = _ from h1')
   cases t with
   | sl e ts => exact ⟨B, ⟨h1, h3⟩, h2, fun h => Bool.noConfusion h, fun o i c _ hx => h4 o i c hx⟩
   | int _ => exact ⟨fun _ => False, ⟨rfl, (DpT.flat rfl G1.H).1 h1⟩, fun k hk => by simp [In] at hk, fun _ _ h => h, fun o i c _ hx => absurd hx (nob rfl o i c)⟩
   | bool => exact ⟨fun _ => False, ⟨rfl, (DpT.flat rfl G1.H).1 h1⟩, fun k hk => by simp [In] at hk, fun _ _ h => h, fun o i c _ hx => absurd hx (nob rfl o i c)⟩
   | str => exact ⟨fun _ => False, ⟨rfl, (DpT.flat rfl G1.H).1 h1⟩, fun k hk => by simp [In] at hk, fun _ _ h => h, fun o i c _ hx => absurd hx (nob rfl o i c)⟩
  | false =>
  cases x with
  | own q =>
   simp only [K2, cond_true, cond_false] at hx
   cases hq : lk q with
   | none => simp [hq] at hx
   | some ob =>
    cases ob with
    | root own e ts xs =>
     cases own with
     | false => simp [hq] at hx
     | true =>
      simp only [hq] at hx
      obtain ⟨z, hz, he⟩ := Option.map_eq_some_iff.1 hx
      injection he with e1 e2
      injection e2 with e2 e3
      subst e1 e2 e3
      unfold Zo at hz
      split at hz
      ·rename_i heq
       have ht := Ty.eqb_eq _ _ heq
       subst ht
       injection hz with hz
       subst hz
       obtain ⟨hsz, hpos, cells, hown, hone, hblk, hrd⟩ := h.objs q _ (hlk q _ hq)
       refine ⟨fun k => v.ownBlock = some k, ⟨rfl, hpos, cells, by rw [hr.1]; exact hown, hone, fun j x hj => RdE.mono hg.H _ x _ _ (fun _ _ hv => hv) (hrd j x hj)⟩, fun k hk => ⟨q, by simp, _, hlk q _ hq, ?_⟩, fun h => Bool.noConfusion h, fun _ _ _ _ hx => by (cases hx)⟩
       have hk' : v.ownBlock = some k := by simpa [In] using hk
       show (G.sv q).ownBlock = some k
       rw [← hr.1]
       exact hk'
      ·cases hz
    | _ => simp [hq] at hx
  | nils =>
   cases t with
   | sl e ts =>
    simp only [K2, cond_true, cond_false] at hx
    cases hb : Nat.blt 0 ts.length with
    | false => simp [hb] at hx
    | true =>
     simp only [hb, cond_true] at hx
     injection hx with hx
     injection hx with e1 e2
     subst e1
     have hv : v = .slice none 0 0 := hr
     subst hv
     have hpos := jn hb
     exact ⟨fun _ => False, ⟨by funext k; simp [Value.ownBlock], hpos, [], World.ownsRow_nil w 0 e ts.length, by simp, fun j x hx => by simp [y19] at hx⟩, fun k hk => by simp [In] at hk, fun h => by (cases h), fun _ _ _ _ hx => by (cases hx)⟩
   | _ => simp [K2] at hx
  | val t' x' =>
   simp only [K2, cond_true, cond_false] at hx
   cases hfl : Ty.flat t with
   | false => simp [hfl] at hx
   | true =>
    simp only [hfl, cond_true] at hx
    obtain ⟨z, hz, he⟩ := Option.map_eq_some_iff.1 hx
    injection he with e1 e2
    subst e1
    exact plain (.inr ⟨hfl, fun _ _ _ he => by cases he⟩) (vE hz (hr.grown hg))
  | _ => cases t <;> simp [K2] at hx
theorem y38 (os : List Bool) : Kq os [] = [] := by cases os <;> rfl
theorem y4s (h : Rel P w0 lent H0 s a w G) (hlk : y1H lk s) {G1 : Gh} (hg : Grown G G1) (dp bk : Bool) : ∀ (ts : List Ty) (os : List Bool) (l : List A) (y : yB ts) (is gs : List Nat), WC lk dp bk ts os l = some (y, is, gs) → Zr lk G1 is → gs.Nodup → ∀ (vs : List Value), RL G l vs →
  ∃ bs, kp dp G1.H w ts os y vs bs ∧ QQ s G gs bs ∧ y0J bs ∧ (Kq os l = [] → ∀ k, ¬ In bs k) ∧ ∀ o i c, Kq os l = [.bor o i c] → ∃ B, TgB s w G o i c B ∧ ∀ k, In bs k → B k := by
 have one : ∀ {t : Ty} {os : List Bool} {x : A} {l : List A} {b : Nat → Prop} {bs : List (Nat → Prop)}, (os.headD false = false → ∀ k, ¬ b k) → (∀ o i c, os.headD false = true → x = .bor o i c → TgB s w G o i c b) → (Kq os.tail l = [] → ∀ k, ¬ In bs k) → (∀ o i c, Kq os.tail l = [.bor o i c] → ∃ B, TgB s w G o i c B ∧ ∀ k, In bs k → B k) →
   (Kq os (x :: l) = [] → ∀ k, ¬ In (b :: bs) k) ∧ ∀ o i c, Kq os (x :: l) = [.bor o i c] → ∃ B, TgB s w G o i c B ∧ ∀ k, In (b :: bs) k → B k := by
  intro t os x l b bs h1 h2 h3 h4
  cases os with
  | nil =>
   refine ⟨fun _ k hk => ?_, fun o i c he => by simp [Kq] at he⟩
   rcases In.cons.1 hk with hk | hk
   ·exact h1 rfl k hk
   ·exact h3 rfl k hk
  | cons q os =>
   cases q with
   | false =>
    have e : Kq (false :: os) (x :: l) = Kq os l := rfl
    rw [e]
    refine ⟨fun he k hk => ?_, fun o i c he => ?_⟩
    ·rcases In.cons.1 hk with hk | hk
     ·exact h1 rfl k hk
     ·exact h3 he k hk
    ·obtain ⟨B, b1, b2⟩ := h4 o i c he
     refine ⟨B, b1, fun k hk => ?_⟩
     rcases In.cons.1 hk with hk | hk
     ·exact absurd hk (h1 rfl k)
     ·exact b2 k hk
   | true =>
    have e : Kq (true :: os) (x :: l) = x :: Kq os l := rfl
    rw [e]
    refine ⟨fun he => (by cases he), fun o i c he => ?_⟩
    injection he with e1 e2
    refine ⟨b, h2 o i c rfl e1, fun k hk => ?_⟩
    rcases In.cons.1 hk with hk | hk
    ·exact hk
    ·exact absurd hk (h3 e2 k)
 intro ts
 induction ts with
 | nil =>
  intro os l y is gs hx hs hn vs hr
  cases l with
  | nil =>
   cases vs with
   | nil => exact ⟨[], ⟨rfl, rfl⟩, fun k hk => absurd hk In.nil, List.Pairwise.nil, fun _ _ h => In.nil h, fun o i c he => by cases os <;> simp [Kq] at he⟩
   | cons _ _ => exact hr.elim
  | cons x l => exact absurd hx (by rw [show WC lk dp bk [] os (x :: l) = none from rfl]; exact fun h => by cases h)
 | cons t ts ih =>
  intro os l y is gs hx hs hn vs hr
  cases ts with
  | nil =>
   cases l with
   | nil => exact absurd hx (by rw [show WC lk dp bk [t] os [] = none from rfl]; exact fun h => by cases h)
   | cons x l =>
    cases l with
    | cons x2 l => exact absurd hx (by rw [show WC lk dp bk [t] os (x :: x2 :: l) = none from rfl]; exact fun h => by cases h)
    | nil =>
     have hx' : K2 lk dp bk (os.headD false) t x = some (y, is, gs) := hx
     cases vs with
     | nil => exact hr.elim
     | cons v vs =>
      cases vs with
      | cons _ _ => exact hr.2.elim
      | nil =>
       obtain ⟨b, h1, h2, h3, h4⟩ := y37 h hlk hg hx' hs hr.1
       obtain ⟨o1, o2⟩ := one (t := t) (l := []) (bs := []) h3 h4 (fun _ _ h => In.nil h) (fun o i c he => by rw [y38] at he; cases he)
       exact ⟨[b], ⟨v, b, rfl, rfl, h1⟩, h2, List.pairwise_singleton _ _, o1, o2⟩
  | cons u r =>
   cases l with
   | nil => exact absurd hx (by rw [show WC lk dp bk (t :: u :: r) os [] = none from rfl]; exact fun h => by cases h)
   | cons x l =>
    have hx' : (match K2 lk dp bk (os.headD false) t x with
     | some (x, is, gs) => match WC lk dp bk (u :: r) os.tail l with
      | some (y, js, hs) => some (((x, y) : yB (t :: u :: r)), is ++ js, gs ++ hs)
      | none => none
     | none => none) = some (y, is, gs) := hx
    cases h1 : K2 lk dp bk (os.headD false) t x with
    | none =>
     rw [h1] at hx'
     cases hx'
    | some p =>
     obtain ⟨x1, is1, gs1⟩ := p
     rw [h1] at hx'
     cases h2 : WC lk dp bk (u :: r) os.tail l with
     | none =>
      rw [h2] at hx'
      cases hx'
     | some q =>
      obtain ⟨y1, is2, gs2⟩ := q
      rw [h2] at hx'
      injection hx' with hx'
      injection hx' with e1 e2
      injection e2 with e2 e3
      subst e1 e2 e3
      cases vs with
      | nil => exact hr.elim
      | cons v vs =>
       obtain ⟨n1, n2, n3⟩ := List.nodup_append.1 hn
       obtain ⟨b, c1, c2, c3, c4⟩ := y37 h hlk hg h1 hs.left hr.1
       obtain ⟨bs, d1, d2, d3, d4, d5⟩ := ih os.tail l y1 is2 gs2 h2 hs.right n2 vs hr.2
       have hap := y2X h c2 d2 (fun q hq hq' => n3 q hq q hq' rfl)
       refine ⟨b :: bs, ⟨v, b, vs, bs, rfl, rfl, c1, d1⟩, fun k hk => ?_, List.pairwise_cons.2 ⟨fun c hc k hb hck => hap k (by simpa [In] using hb) ⟨c, hc, hck⟩, d3⟩, (one (t := t) c3 c4 d4 d5).1, (one (t := t) c3 c4 d4 d5).2⟩
       rcases In.cons.1 hk with hk | hk
       ·obtain ⟨q, hq, rest⟩ := c2 k (by simpa [In] using hk)
        exact ⟨q, by simp [hq], rest⟩
       ·obtain ⟨q, hq, rest⟩ := d2 k hk
        exact ⟨q, by simp [hq], rest⟩
end Go.Proofs.YtmapoakbdgpamaaGreat.R
