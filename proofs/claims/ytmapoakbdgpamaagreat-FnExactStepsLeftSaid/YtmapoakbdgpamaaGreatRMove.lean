/- Rows that were handed in come back. No condition. -/
import Derived.Test.YtmapoakbdgpamaaGreatRCall
set_option linter.all false
namespace Go.Proofs.YtmapoakbdgpamaaGreat.R
open Go.RowKit
variable {P : Program} {C : Ctx} {w0 : World} {lent : Nat → Prop} {H0 : Base} {s : St} {a : Act} {w : World} {G : Gh} {lk : Lk}
structure EqD (G G' : Gh) : Prop where
 H : G'.H = G.H
 g : G'.g = G.g
 sv : G'.sv = G.sv
 sz : G'.sz = G.sz
 hd : G'.hd = G.hd
 pv : G'.pv = G.pv
theorem EqD.refl (G : Gh) : EqD G G := ⟨rfl, rfl, rfl, rfl, rfl, rfl⟩
theorem EqD.trans {G G' G'' : Gh} (h : EqD G G') (h' : EqD G' G'') : EqD G G'' := ⟨h'.H.trans h.H, h'.g.trans h.g, h'.sv.trans h.sv, h'.sz.trans h.sz, h'.hd.trans h.hd, h'.pv.trans h.pv⟩
theorem EqD.setDp (G : Gh) (q : Nat) (B : Nat → Prop) : EqD G (G.setDp q B) := ⟨rfl, rfl, rfl, rfl, rfl, rfl⟩
theorem EqD.rl {G G' : Gh} (h : EqD G G') {x : List A} {v : List Value} (hr : RL G x v) : RL G' x v := RL.mono (by rw [h.H]; exact Hp.le.refl _) h.g h.sv h.sz h.hd x v hr
def ykS (ob : Ob) (e : Nat) (ts : List Ty) (xs : List (yB ts)) : Prop := (ob = .root true e ts xs ∧ Wy ts = true) ∨ ∃ fin tag, ob = .deep fin tag e ts xs
theorem ykS.dp {ob : Ob} {e : Nat} {ts : List Ty} {xs : List (yB ts)} (hr : ykS ob e ts xs) {n : Nat} (hro : RO G w n ob) : ∃ cells Bs, DpR w (yL G n ob) e ts xs (G.sv n) cells Bs := by
 rcases hr with ⟨rfl, hf⟩ | ⟨fin, tag, rfl⟩
 ·obtain ⟨hsz, hpos, cells, hown, hone, hblk, hrd⟩ := hro
  exact ⟨cells, fun _ _ => False, hpos, hown, hone, fun k hk => hk, fun _ _ h => h.elim, fun _ _ _ h => h.elim, fun j x hj => yg0 ts x _ hf (hrd j x hj)⟩
 ·obtain ⟨_, _, _, _, cells, Bs, hd, _⟩ := hro
  exact ⟨cells, Bs, hd⟩
theorem DpR.len {B : Nat → Prop} {e : Nat} {ts : List Ty} {xs : List (yB ts)} {v : Value} {cells : List Value} {Bs : Nat → Nat → Prop} (h : DpR w B e ts xs v cells Bs) : ∃ A c, v = .slice A xs.length c := by
 rcases h.row.2 with ⟨rfl, hn⟩ | ⟨g, cap, cur, rfl, _⟩
 ·exact ⟨none, 0, by rw [hn]⟩
 ·exact ⟨_, _, rfl⟩
theorem Rel.move (h : Rel P w0 lent H0 s a w G) {n q : Nat} {obn ob' : Ob} {e : Nat} {ts : List Ty} {xs : List (yB ts)} (hn : yq s.o n = some obn) (hob : ykS obn e ts xs) (hq : yq s.o q = some .gone) (hnq : n ≠ q)
  (ho : (ob' = .root true e ts xs ∧ Wy ts = true) ∨ ∃ tag, ob' = .deep false tag e ts xs ∧ (0 < tag → G.sv q = G.pv (tag - 1))) (hsv : G.sv q = G.sv n) (hsz : G.sz q = (ts.length, xs.length)) (hg : ∀ k, (G.sv q).ownBlock = some k → k = (G.g q).1) :
  Rel P w0 lent H0 ((s.set n .gone).set q ob') a w (G.setDp q (yL G n obn)) := by
 obtain ⟨cells, Bs, hd⟩ := hob.dp (h.objs n _ hn)
 have h1 := h.gone n
 have lq : yq (s.set n .gone).o q = some .gone := by
  show yq (kY s.o n .gone) q = _
  rw [zH, if_neg (fun e => hnq e.symm)]
  exact hq
 have h2 := h1.setDp lq (yL G n obn)
 have hdp : (G.setDp q (yL G n obn)).dp q = yL G n obn := by simp [Gh.setDp]
 refine h2.set ?_ fun k hk => ?_
 ·rcases ho with ⟨rfl, hf⟩ | ⟨tag, rfl, ht⟩
  ·refine ⟨hsz, hd.pos, cells, ?_, hd.one, hg, fun j x hj => yg1 ts x _ hf (hd.rd j x hj)⟩
   show w.ownsRow 0 e ts.length (G.sv q) _ _
   rw [hsv]
   exact hd.row
  ·refine ⟨hsz, fun k hk => ?_, ht, hg, cells, Bs, ?_, fun h => by cases h⟩
   ·rw [hdp] at hk
    exact (h.objs n _ hn).blk hk
   ·rw [hdp]
    show DpR w _ e ts xs (G.sv q) cells Bs
    rw [hsv]
    exact hd
 ·have hk' : yL G n obn k := by
   rcases ho with ⟨rfl, _⟩ | ⟨tag, rfl, _⟩
   ·have hk2 : (G.sv q).ownBlock = some k := hk
    rw [hsv] at hk2
    exact hd.top k hk2
   ·have hk2 : (G.setDp q (yL G n obn)).dp q k := hk
    rw [hdp] at hk2
    exact hk2
  obtain ⟨a1, a2⟩ := h.away n _ k hn hk'
  refine ⟨a1, a2, fun j oj hj hl hbj => ?_⟩
  rw [VG hj] at hbj
  have hl' : yq (kY s.o n .gone) j = some oj := hl
  rw [zH] at hl'
  split at hl'
  ·obtain ⟨_, _, rfl⟩ := Option.map_eq_some_iff.1 hl'
   exact hbj
  ·rename_i hjn
   exact hjn (h.apart j n _ _ k hl' hn hbj hk')
structure TgQ (lk : Lk) (G : Gh) (q : Nat) : Prop where
 gb : ∀ k, (G.sv q).ownBlock = some k → k = (G.g q).1
 row : ∀ ob e ts (xs : List (yB ts)), lk q = some ob → Rw ob e ts xs → G.sz q = (ts.length, xs.length) ∧ ∃ A c, G.sv q = .slice A xs.length c
 tag : ∀ fin tag e ts xs, lk q = some (.deep fin tag e ts xs) → 0 < tag → G.sv q = G.pv (tag - 1)
theorem TgQ.eqD {G G' : Gh} (h : EqD G G') {q : Nat} (ht : TgQ lk G q) : TgQ lk G' q := ⟨by rw [h.sv, h.g]; exact ht.gb, by rw [h.sv, h.sz]; exact ht.row, by rw [h.sv, h.pv]; exact ht.tag⟩
theorem ycI {ob : Ob} {y : Sigma El} (h : yem ob = some y) (hf : ∀ own e ts xs, ob = .root own e ts xs → Wy ts = true) : ∃ e ts xs, y = ⟨.sl e ts, xs⟩ ∧ ykS ob e ts xs := by
 cases ob with
 | root own e ts xs =>
  cases own with
  | false => simp [yem] at h
  | true =>
   simp only [yem, Option.some.injEq] at h
   exact ⟨e, ts, xs, h.symm, .inl ⟨rfl, hf _ _ _ _ rfl⟩⟩
 | deep fin tag e ts xs =>
  simp only [yem, Option.some.injEq] at h
  exact ⟨e, ts, xs, h.symm, .inr ⟨fin, tag, rfl⟩⟩
 | _ => simp [yem] at h
theorem y7A {obs : List (Nat × Ob)} (hobs : ∀ n own e ts xs, yq obs n = some (.root own e ts xs) → Wy ts = true) : ∀ (tg rs : List A) (mv : List (Nat × Ob)) (vs : List Value) (s : St) (G : Gh), Vj lk obs tg rs = some mv → Rel P w0 lent H0 s a w G → RL G tg vs → RL G rs vs →
  (zK tg).Nodup → (zK rs).Nodup → (∀ q ∈ zK tg, q ∉ zK rs) → (∀ q ∈ zK tg, yq s.o q = some .gone ∧ TgQ lk G q) → (∀ n ∈ zK rs, yq s.o n = yq obs n) → ∃ G', EqD G G' ∧ Rel P w0 lent H0 (s.setAll mv) a w G' := by
 intro tg
 induction tg with
 | nil =>
  intro rs mv vs s G hm h ht hr n1 n2 n3 hq hn
  cases rs with
  | nil =>
   simp only [Vj, Option.some.injEq] at hm
   subst hm
   exact ⟨G, EqD.refl G, h⟩
  | cons _ _ => simp [Vj] at hm
 | cons t tg ih =>
  intro rs mv vs s G hm h ht hr n1 n2 n3 hq hn
  cases rs with
  | nil => cases t <;> simp [Vj] at hm
  | cons x rs =>
   cases vs with
   | nil => exact ht.elim
   | cons v vs =>
    cases x with
    | own n =>
     have n2' := List.nodup_append.1 (show (([n] : List Nat) ++ zK rs).Nodup from n2)
     have hnn : ∀ m ∈ zK rs, m ≠ n := fun m hm he => n2'.2.2 n (by simp) m hm he.symm
     have look_n : ∀ (s' : St) (ob : Ob) (m : Nat), m ≠ n → yq (s'.set n ob).o m = yq s'.o m := fun s' ob m hm => by
      show yq (kY s'.o n ob) m = _
      rw [zH, if_neg hm]
     cases t with
     | nils =>
      simp only [Vj] at hm
      obtain ⟨ms, hms, rfl⟩ := Option.map_eq_some_iff.1 hm
      have hqn : ∀ q ∈ zK tg, q ≠ n := fun q hq' he => n3 q (by simp [zK, A.ids, hq']) (by simp [zK, A.ids, he])
      obtain ⟨G', e1, e2⟩ := ih rs ms vs (s.set n .gone) G hms (h.gone n) ht.2 hr.2 n1 n2'.2.1 (fun q hq' => fun hm => n3 q (by simp [zK, A.ids, hq']) (by simp [zK, hm])) (fun q hq' => by
       rw [look_n s _ q (hqn q hq')]
       exact hq q (by simp [zK, A.ids, hq'])) (fun m hm => by
       rw [look_n s _ m (hnn m hm)]
       exact hn m (by simp [zK, hm]))
      exact ⟨G', e1, e2⟩
     | own q =>
      simp only [Vj] at hm
      have n1' := List.nodup_append.1 (show (([q] : List Nat) ++ zK tg).Nodup from n1)
      cases hob : yq obs n with
      | none => simp [hob] at hm
      | some obn =>
       cases hrs : yem obn with
       | none => simp [hob, hrs] at hm
       | some y =>
        simp only [hob, Option.bind_some, hrs] at hm
        cases hmd : yhB lk y q with
        | none => simp [hmd] at hm
        | some m =>
         cases hms : Vj lk obs tg rs with
         | none => simp [hmd, hms] at hm
         | some ms =>
          simp only [hmd, hms, Option.some.injEq] at hm
          subst hm
          obtain ⟨e, ts, xs, rfl, hrow⟩ := ycI hrs (fun own e ts xs he => hobs n own e ts xs (by rw [hob, he]))
          have hln : yq s.o n = some obn := (hn n (by simp [zK, A.ids])).trans hob
          obtain ⟨hlq, htq⟩ := hq q (by simp [zK, A.ids])
          have hnq : n ≠ q := fun he => n3 q (by simp [zK, A.ids]) (by simp [zK, A.ids, he])
          have hsv : G.sv q = G.sv n := ht.1.1.symm.trans hr.1.1
          obtain ⟨cells, Bs, hd⟩ := hrow.dp (h.objs n _ hln)
          obtain ⟨A0, cc, hlen⟩ := hd.len
          have key : (m = .root true e ts xs ∧ Wy ts = true ∨ ∃ tag, m = .deep false tag e ts xs ∧ (0 < tag → G.sv q = G.pv (tag - 1))) ∧ G.sz q = (ts.length, xs.length) := by
           unfold yhB at hmd
           cases hlk : lk q with
           | none => simp [hlk] at hmd
           | some ob =>
            cases ob with
            | root own e' ts' xs' =>
             cases own with
             | false => simp [hlk] at hmd
             | true =>
              simp only [hlk] at hmd
              cases hf : Wy ts' with
              | false => simp [hf] at hmd
              | true =>
               simp only [hf, cond_true] at hmd
               obtain ⟨z, hz, rfl⟩ := Option.map_eq_some_iff.1 hmd
               have hcs := wl hz
               injection hcs with c1 c2
               injection c1 with c3 c4
               subst c3 c4
               have := eq_of_heq c2
               subst this
               obtain ⟨s1, A', c', s2⟩ := htq.row _ _ _ _ hlk (.inl ⟨true, rfl⟩)
               have hl : xs'.length = xs.length := by
                rw [hsv, hlen] at s2
                injection s2 with _ s3
                exact s3.symm
               exact ⟨.inl ⟨rfl, hf⟩, by rw [s1, hl]⟩
            | deep fin tag e' ts' xs' =>
             simp only [hlk] at hmd
             obtain ⟨z, hz, rfl⟩ := Option.map_eq_some_iff.1 hmd
             have hcs := wl hz
             injection hcs with c1 c2
             injection c1 with c3 c4
             subst c3 c4
             have := eq_of_heq c2
             subst this
             obtain ⟨s1, A', c', s2⟩ := htq.row _ _ _ _ hlk (.inr ⟨fin, tag, rfl⟩)
             have hl : xs'.length = xs.length := by
              rw [hsv, hlen] at s2
              injection s2 with _ s3
              exact s3.symm
             exact ⟨.inr ⟨tag, rfl, htq.tag _ _ _ _ _ hlk⟩, by rw [s1, hl]⟩
            | _ => simp [hlk] at hmd
          have hmove := h.move hln hrow hlq hnq key.1 hsv key.2 htq.gb
          have hE := EqD.setDp G q (yL G n obn)
          have hqq : ∀ q' ∈ zK tg, q' ≠ q ∧ q' ≠ n := fun q' hq' => ⟨fun he => n1'.2.2 q (by simp) q' hq' he.symm, fun he => n3 q' (by simp [zK, hq']) (by simp [zK, A.ids, he])⟩
          have lk2 : ∀ m', m' ≠ q → m' ≠ n → yq ((s.set n .gone).set q m).o m' = yq s.o m' := fun m' h1 h2 => by
           show yq (kY (s.set n .gone).o q m) m' = _
           rw [zH, if_neg h1]
           exact look_n s _ m' h2
          obtain ⟨G', e1, e2⟩ := ih rs ms vs ((s.set n .gone).set q m) _ hms hmove (hE.rl ht.2) (hE.rl hr.2) n1'.2.1 n2'.2.1 (fun q' hq' => fun hm => n3 q' (by simp [zK, hq']) (by simp [zK, hm])) (fun q' hq' => by
           rw [lk2 q' (hqq q' hq').1 (hqq q' hq').2]
           obtain ⟨k1, k2⟩ := hq q' (by simp [zK, hq'])
           exact ⟨k1, k2.eqD hE⟩) (fun m' hm' => by
           rw [lk2 m' (fun he => n3 q (by simp [zK, A.ids]) (by rw [← he]; simp [zK, hm'])) (hnn m' hm')]
           exact hn m' (by simp [zK, hm']))
          exact ⟨G', hE.trans e1, e2⟩
     | _ => simp [Vj] at hm
    | _ => cases t <;> simp [Vj] at hm
theorem DpR.put {w w' : World} {B B' : Nat → Prop} {e : Nat} {ts : List Ty} {xs : List (yB ts)} {v u : Value} {cells : List Value} {Bs : Nat → Nat → Prop} (hd : DpR w B e ts xs v cells Bs) {i c : Nat} (hi : i < xs.length) {x x' : yB ts} {y : Sigma El} (hx : xs[i]? = some x) (hse : qy ts x c [y] = some x')
  (hsame : ∀ k, B k → ¬ Bs (i * ts.length + c) k → w'.heap[k]? = w.heap[k]?) (hcell : cells[i * ts.length + c]? = some u) (hu : DpT w' y.1 B' y.2 u) (hdis : ∀ k, B' k → B k → Bs (i * ts.length + c) k) :
  ∃ Bs', DpR w' (fun k => (B k ∧ ¬ Bs (i * ts.length + c) k) ∨ B' k) e ts (xs.set i x') v cells Bs' := by
 obtain ⟨hE, hfit⟩ := y5b ts x c [y] x' hse
 have hcl : c + 1 ≤ ts.length := by
  rcases hfit with h | h
  ·cases h
  ·simpa using h
 have hne : ∀ m k, m ≠ i * ts.length + c → Bs m k → ¬ Bs (i * ts.length + c) k := fun m k hm hk hk' => hm (hd.dis m _ k hk hk')
 have hfr : ∀ m, m ≠ i * ts.length + c → ∀ k, Bs m k → w'.heap[k]? = w.heap[k]? := fun m hm k hk => hsame k (hd.sub m k hk).1 (hne m k hm hk)
 let Bs' : Nat → Nat → Prop := fun m => if m = i * ts.length + c then B' else Bs m
 have hBs : ∀ m k, Bs' m k → (m = i * ts.length + c ∧ B' k) ∨ (m ≠ i * ts.length + c ∧ Bs m k) := by
  intro m k hk
  have hk' : (if m = i * ts.length + c then B' else Bs m) k := hk
  by_cases hm : m = i * ts.length + c
  ·rw [if_pos hm] at hk'
   exact .inl ⟨hm, hk'⟩
  ·rw [if_neg hm] at hk'
   exact .inr ⟨hm, hk'⟩
 refine ⟨Bs', hd.pos, ⟨by rw [List.length_set]; exact hd.row.1, ?_⟩, hd.one, fun k hk => .inl ⟨hd.top k hk, fun h => (hd.sub _ k h).2 hk⟩, fun m k hk => ?_, fun m m' k hk hk' => ?_, fun j z hj => ?_⟩
 ·rcases hd.row.2 with ⟨h1, h2⟩ | ⟨g, cap, cur, hv, hb, hg, r⟩
  ·exact .inl ⟨h1, by rw [List.length_set]; exact h2⟩
  ·refine .inr ⟨g, cap, cur, by rw [List.length_set]; exact hv, hb, ?_, by rw [List.length_set]; exact r⟩
   have hob : v.ownBlock = some g := by rw [hv]; rfl
   rw [hsame g (hd.top g hob) (fun hk => (hd.sub _ g hk).2 hob)]
   exact hg
 ·rcases hBs m k hk with ⟨_, h1⟩ | ⟨hm, h1⟩
  ·refine ⟨.inr h1, fun hob => ?_⟩
   exact (hd.sub _ k (hdis k h1 (hd.top k hob))).2 hob
  ·exact ⟨.inl ⟨(hd.sub m k h1).1, hne m k hm h1⟩, (hd.sub m k h1).2⟩
 ·rcases hBs m k hk with ⟨h1, h2⟩ | ⟨h1, h2⟩ <;> rcases hBs m' k hk' with ⟨h3, h4⟩ | ⟨h3, h4⟩
  ·rw [h1, h3]
  ·exact absurd (hdis k h2 (hd.sub m' k h4).1) (hne m' k h3 h4)
  ·exact absurd (hdis k h4 (hd.sub m k h2).1) (hne m k h1 h2)
  ·exact hd.dis m m' k h2 h4
 ·have hjl : j < xs.length := by
   have := (List.getElem?_eq_some_iff.1 hj).1
   rwa [List.length_set] at this
  refine (wk ts _ _ _).2 fun c' y' hc' => ?_
  have hc'l := y2o ts _ _ _ hc'
  by_cases hji : j = i
  ·subst hji
   rw [List.getElem?_set_self hi] at hj
   injection hj with hj
   subst hj
   rw [hE c'] at hc'
   by_cases hcc : c' = c
   ·subst hcc
    rw [if_pos (by simp)] at hc'
    have hy : y = y' := by simpa using hc'
    subst hy
    refine ⟨u, hcell, ?_⟩
    show DpT w' y.1 (if _ then _ else _) y.2 u
    rw [if_pos rfl]
    exact hu
   ·rw [if_neg (by simp only [List.length_cons, List.length_nil]; omega)] at hc'
    obtain ⟨u', h1, h2⟩ := (wk ts _ _ _).1 (hd.rd j x hx) c' y' hc'
    refine ⟨u', h1, ?_⟩
    show DpT w' y'.1 (if _ then _ else _) y'.2 u'
    rw [if_neg (by omega)]
    exact DpT.frame _ _ _ _ _ (hfr _ (by omega)) (fun _ hk => hk) h2
  ·rw [List.getElem?_set_ne (fun e => hji e.symm)] at hj
   obtain ⟨u', h1, h2⟩ := (wk ts _ _ _).1 (hd.rd j z hj) c' y' hc'
   have hm : j * ts.length + c' ≠ i * ts.length + c := by
    intro he
    rcases Nat.lt_or_gt_of_ne hji with hlt | hlt
    ·have : (j + 1) * ts.length ≤ i * ts.length := Nat.mul_le_mul_right _ hlt
     rw [Nat.add_mul, Nat.one_mul] at this
     omega
    ·have : (i + 1) * ts.length ≤ j * ts.length := Nat.mul_le_mul_right _ hlt
     rw [Nat.add_mul, Nat.one_mul] at this
     omega
   refine ⟨u', h1, ?_⟩
   show DpT w' y'.1 (if _ then _ else _) y'.2 u'
   rw [if_neg hm]
   exact DpT.frame _ _ _ _ _ (hfr _ hm) (fun _ hk => hk) h2
theorem Rel.moveB (h : Rel P w0 lent H0 s a w G) {n o : Nat} {obn : Ob} {e' : Nat} {us : List Ty} {ys : List (yB us)} (hn : yq s.o n = some obn) (hob : ykS obn e' us ys) (ho : yq s.o o = some .gone) (hno : n ≠ o)
  {wb : World} {B : Nat → Prop} {tag e : Nat} {ts : List Ty} {xs : List (yB ts)} {cells : List Value} {Bs : Nat → Nat → Prop} (hd : DpR wb B e ts xs (G.sv o) cells Bs) {i c : Nat} (hi : i < xs.length) {x x' : yB ts} (hx : xs[i]? = some x) (hse : qy ts x c [⟨.sl e' us, ys⟩] = some x')
  (hsame : ∀ k, B k → ¬ Bs (i * ts.length + c) k → w.heap[k]? = wb.heap[k]?) (hlt : ∀ k, B k → k < w.heap.size) (hcell : cells[i * ts.length + c]? = some (G.sv n)) (hdis : ∀ k, yL G n obn k → B k → Bs (i * ts.length + c) k)
  (hfree : ∀ k, B k → ¬ Bs (i * ts.length + c) k → G.H k = none ∧ (w0.heap.size ≤ k ∨ lent k) ∧ ∀ (j : Nat) (oj : Ob), j ≠ n → yq s.o j = some oj → ¬ yL G j oj k)
  (hsz : G.sz o = (ts.length, xs.length)) (htag : 0 < tag → G.sv o = G.pv (tag - 1)) (hg : ∀ k, (G.sv o).ownBlock = some k → k = (G.g o).1) (hfin : ∀ (m : Nat) (A : Option Addr) (n c : Nat), cells[m]? = some (.slice A n c) → G.hd o m = .slice A n c) :
  Rel P w0 lent H0 ((s.set n .gone).set o (.deep true tag e ts (xs.set i x'))) a w (G.setDp o fun k => (B k ∧ ¬ Bs (i * ts.length + c) k) ∨ yL G n obn k) := by
 obtain ⟨celln, Bn, hdn⟩ := hob.dp (h.objs n _ hn)
 obtain ⟨Bs', hD⟩ := hd.put hi hx hse hsame hcell (DpT.row.2 ⟨celln, Bn, hdn⟩) hdis
 have h1 := h.gone n
 have lq : yq (s.set n .gone).o o = some .gone := by
  show yq (kY s.o n .gone) o = _
  rw [zH, if_neg (fun e => hno e.symm)]
  exact ho
 have h2 := h1.setDp lq (fun k => (B k ∧ ¬ Bs (i * ts.length + c) k) ∨ yL G n obn k)
 have hdp : (G.setDp o fun k => (B k ∧ ¬ Bs (i * ts.length + c) k) ∨ yL G n obn k).dp o = fun k => (B k ∧ ¬ Bs (i * ts.length + c) k) ∨ yL G n obn k := by simp [Gh.setDp]
 refine h2.set ⟨by rw [List.length_set]; exact hsz, fun k hk => ?_, htag, hg, cells, Bs', by rw [hdp]; exact hD, fun _ => hfin⟩ fun k hk => ?_
 ·rw [hdp] at hk
  exact hk.elim (fun hk => hlt k hk.1) fun hk => (h.objs n _ hn).blk hk
 ·have hk' : (B k ∧ ¬ Bs (i * ts.length + c) k) ∨ yL G n obn k := by
   have hk2 : (G.setDp o fun k => (B k ∧ ¬ Bs (i * ts.length + c) k) ∨ yL G n obn k).dp o k := hk
   rw [hdp] at hk2
   exact hk2
  have hl : ∀ (j : Nat) (oj : Ob), yq (s.set n .gone).o j = some oj → (j = n ∧ oj = .gone) ∨ (j ≠ n ∧ yq s.o j = some oj) := by
   intro j oj hl
   have hl' : yq (kY s.o n .gone) j = some oj := hl
   rw [zH] at hl'
   split at hl'
   ·rename_i hj
    obtain ⟨_, _, rfl⟩ := Option.map_eq_some_iff.1 hl'
    exact .inl ⟨hj, rfl⟩
   ·rename_i hj
    exact .inr ⟨hj, hl'⟩
  rcases hk' with hk' | hk'
  ·obtain ⟨a1, a2, a3⟩ := hfree k hk'.1 hk'.2
   refine ⟨a1, a2, fun j oj hj hlj hbj => ?_⟩
   rw [VG hj] at hbj
   rcases hl j oj hlj with ⟨_, rfl⟩ | ⟨hjn, hlj'⟩
   ·exact hbj
   ·exact a3 j oj hjn hlj' hbj
  ·obtain ⟨a1, a2⟩ := h.away n _ k hn hk'
   refine ⟨a1, a2, fun j oj hj hlj hbj => ?_⟩
   rw [VG hj] at hbj
   rcases hl j oj hlj with ⟨_, rfl⟩ | ⟨hjn, hlj'⟩
   ·exact hbj
   ·exact hjn (h.apart j n _ _ k hlj' hn hbj hk')
def qz (ob : Ob) : Prop := (∃ e ts xs, ob = .root true e ts xs) ∨ ∃ fin tag e ts xs, ob = .deep fin tag e ts xs
theorem y7B {bk : Bool} {t : Ty} {x : A} {y : El t} {gs : List Nat} (h : kn lk bk t x = some (y, gs)) : x.ids = gs ∧ ∀ q ∈ gs, ∃ ob, lk q = some ob ∧ qz ob := by
 cases x with
 | own q =>
  simp only [kn] at h
  cases hq : lk q with
  | none => simp [hq] at h
  | some ob =>
   cases ob with
   | root own e ts xs =>
    cases own with
    | false => simp [hq] at h
    | true =>
     simp only [hq] at h
     cases hf : Wy ts with
     | false => simp [hf] at h
     | true =>
      simp only [hf, cond_true] at h
      obtain ⟨z, _, he⟩ := Option.map_eq_some_iff.1 h
      injection he with _ e2
      subst e2
      exact ⟨rfl, fun p hp => by
       have : p = q := by simpa using hp
       subst this
       exact ⟨_, hq, .inl ⟨e, ts, xs, rfl⟩⟩⟩
   | deep fin tag e ts xs =>
    simp only [hq] at h
    obtain ⟨z, _, he⟩ := Option.map_eq_some_iff.1 h
    injection he with _ e2
    subst e2
    exact ⟨rfl, fun p hp => by
     have : p = q := by simpa using hp
     subst this
     exact ⟨_, hq, .inr ⟨fin, tag, e, ts, xs, rfl⟩⟩⟩
   | _ => simp [hq] at h
 | bor q i c =>
  cases bk with
  | false => cases t <;> simp [kn] at h
  | true =>
   simp only [kn, cond_true] at h
   cases hq : lk q with
   | none => simp [hq] at h
   | some ob =>
    cases ob with
    | deep fin tag e ts xs =>
     cases fin with
     | false => simp [hq] at h
     | true =>
      simp only [hq] at h
      cases hcs : Ko ts (rdE ts xs i) c with
      | none => simp [hcs] at h
      | some p =>
       obtain ⟨t', y'⟩ := p
       cases t' with
       | sl e' us =>
        simp only [hcs] at h
        obtain ⟨z, _, he⟩ := Option.map_eq_some_iff.1 h
        injection he with _ e2
        subst e2
        exact ⟨rfl, fun p hp => by
         have : p = q := by simpa using hp
         subst this
         exact ⟨_, hq, .inr ⟨true, tag, e, ts, xs, rfl⟩⟩⟩
       | _ => simp [hcs] at h
    | _ => simp [hq] at h
 | nils =>
  cases t with
  | sl e ts =>
   simp only [kn] at h
   cases hb : Nat.blt 0 ts.length with
   | false => simp [hb] at h
   | true =>
    simp only [hb, cond_true] at h
    injection h with h
    injection h with _ e2
    subst e2
    exact ⟨rfl, by simp⟩
  | _ => simp [kn] at h
 | val t' x' =>
  simp only [kn] at h
  cases hf : Ty.flat t with
  | false => simp [hf] at h
  | true =>
   simp only [hf, cond_true] at h
   obtain ⟨z, _, he⟩ := Option.map_eq_some_iff.1 h
   injection he with _ e2
   subst e2
   exact ⟨rfl, by simp⟩
 | _ => cases t <;> simp [kn] at h
theorem yax {bk : Bool} : ∀ (ts : List Ty) (os : List Bool) (l : List A) (y : yB ts) (is gs : List Nat), WC lk true bk ts os l = some (y, is, gs) → zK (Kq os l) = gs ∧ ∀ q ∈ gs, ∃ ob, lk q = some ob ∧ qz ob := by
 have one : ∀ {t : Ty} {os : List Bool} {x : A} {y : El t} {is gs : List Nat} {l : List A} {hs : List Nat}, K2 lk true bk (os.headD false) t x = some (y, is, gs) → zK (Kq os.tail l) = hs → (∀ q ∈ hs, ∃ ob, lk q = some ob ∧ qz ob) → zK (Kq os (x :: l)) = gs ++ hs ∧ ∀ q ∈ gs ++ hs, ∃ ob, lk q = some ob ∧ qz ob := by
  intro t os x y is gs l hs h h1 h2
  have plain : os.headD false = false → gs = [] := by
   intro ho
   rw [ho] at h
   have h' : (toT lk t x).map (fun (y, is) => (y, is, ([] : List Nat))) = some (y, is, gs) := h
   obtain ⟨p, _, he⟩ := Option.map_eq_some_iff.1 h'
   injection he with _ e2
   injection e2 with _ e3
   exact e3.symm
  cases os with
  | nil =>
   rw [plain rfl]
   have : hs = [] := by
    rw [← h1]
    show zK (Kq [] l) = []
    rfl
   rw [this]
   exact ⟨rfl, by simp⟩
  | cons q os =>
   cases q with
   | false =>
    rw [plain rfl]
    exact ⟨h1, h2⟩
   | true =>
    have h' : (kn lk bk t x).map (fun (y, gs) => (y, ([] : List Nat), gs)) = some (y, is, gs) := h
    obtain ⟨p, hp, he⟩ := Option.map_eq_some_iff.1 h'
    obtain ⟨y', gs'⟩ := p
    injection he with _ e2
    injection e2 with _ e3
    subst e3
    obtain ⟨d1, d2⟩ := y7B hp
    refine ⟨?_, fun q hq => ?_⟩
    ·show x.ids ++ zK (Kq os l) = gs' ++ hs
     rw [d1]
     exact congrArg (gs' ++ ·) h1
    ·rcases List.mem_append.1 hq with hq | hq
     ·exact d2 q hq
     ·exact h2 q hq
 intro ts
 induction ts with
 | nil =>
  intro os l y is gs h
  cases l with
  | nil =>
   have h' : some ((() : yB []), ([] : List Nat), ([] : List Nat)) = some (y, is, gs) := h
   injection h' with h'
   injection h' with _ e2
   injection e2 with _ e3
   subst e3
   exact ⟨by rw [y38]; rfl, by simp⟩
  | cons x l => exact absurd h (by rw [show WC lk true bk [] os (x :: l) = none from rfl]; exact fun h => by cases h)
 | cons t ts ih =>
  intro os l y is gs h
  cases ts with
  | nil =>
   cases l with
   | nil => exact absurd h (by rw [show WC lk true bk [t] os [] = none from rfl]; exact fun h => by cases h)
   | cons x l =>
    cases l with
    | cons x2 l => exact absurd h (by rw [show WC lk true bk [t] os (x :: x2 :: l) = none from rfl]; exact fun h => by cases h)
    | nil =>
     have h' : K2 lk true bk (os.headD false) t x = some (y, is, gs) := h
     have := one (l := []) (hs := []) h' (by rw [y38]; rfl) (by simp)
     simpa using this
  | cons u r =>
   cases l with
   | nil => exact absurd h (by rw [show WC lk true bk (t :: u :: r) os [] = none from rfl]; exact fun h => by cases h)
   | cons x l =>
    have h' : (match K2 lk true bk (os.headD false) t x with
     | some (x, is, gs) => match WC lk true bk (u :: r) os.tail l with
      | some (y, js, hs) => some (((x, y) : yB (t :: u :: r)), is ++ js, gs ++ hs)
      | none => none
     | none => none) = some (y, is, gs) := h
    cases h1 : K2 lk true bk (os.headD false) t x with
    | none =>
     rw [h1] at h'
     cases h'
    | some p =>
     obtain ⟨x1, is1, gs1⟩ := p
     rw [h1] at h'
     cases h2 : WC lk true bk (u :: r) os.tail l with
     | none =>
      rw [h2] at h'
      cases h'
     | some q =>
      obtain ⟨y1, is2, gs2⟩ := q
      rw [h2] at h'
      injection h' with h'
      injection h' with e1 e2
      injection e2 with e2 e3
      subst e1 e2 e3
      obtain ⟨i1, i2⟩ := ih os.tail l y1 is2 gs2 h2
      exact one h1 i1 i2
theorem yhS : ∀ (ts : List Ty) (x : yB ts) (c : Nat) (y : Sigma El) (x' : yB ts), qy ts x c [y] = some x' → ∃ z, Ko ts x c = some ⟨y.1, z⟩ := by
 intro ts
 induction ts with
 | nil => intro x c y x' h; cases c <;> exact absurd h (by rw [show qy [] x _ [y] = none from rfl]; exact fun h => by cases h)
 | cons t ts ih =>
  intro x c y x' h
  obtain ⟨u, y⟩ := y
  cases ts with
  | nil =>
   cases c with
   | succ c => exact absurd h (by rw [show qy [t] x (c + 1) [⟨u, y⟩] = none from rfl]; exact fun h => by cases h)
   | zero =>
    have h' : Zo u t y = some x' := h
    have hs := wl h'
    injection hs with h1 _
    subst h1
    exact ⟨x, rfl⟩
  | cons t2 ts =>
   cases c with
   | zero =>
    have h' : (match Zo u t y with
     | some z => match qy (t2 :: ts) x.2 0 [] with
      | some w => some ((z, w) : yB (t :: t2 :: ts))
      | none => none
     | none => none) = some x' := h
    cases hc : Zo u t y with
    | none =>
     rw [hc] at h'
     cases h'
    | some z =>
     have hs := wl hc
     injection hs with h1 _
     subst h1
     exact ⟨x.1, rfl⟩
   | succ c =>
    have h' : (match qy (t2 :: ts) x.2 c [⟨u, y⟩] with
     | some w => some ((x.1, w) : yB (t :: t2 :: ts))
     | none => none) = some x' := h
    cases hs : qy (t2 :: ts) x.2 c [⟨u, y⟩] with
    | none =>
     rw [hs] at h'
     cases h'
    | some w => exact ih x.2 c ⟨u, y⟩ w hs
theorem y7C (s : St) (i j : Nat) (x : Ob) : yq (s.make i x).o j = if j = i then some x else (yq s.o j).map (·.forget i) := by
 show yq ((i, x) :: zV i s.o) j = _
 by_cases hj : j = i
 ·subst hj
  simp [yq, yl]
 ·simp only [yq, yt (fun e : i = j => hj e.symm), cond_false, hj, if_false]
  rw [JY, if_neg hj]
theorem kz : ∀ (X : List (Nat × Ob)) (s : St) (j : Nat) (ob : Ob), j ∉ yS X → (∀ d, ob.forget d = ob) → yq s.o j = some ob → yq (s.makeAll X).o j = some ob
 | [], _, _, _, _, _, h => h
 | (i, x) :: X, s, j, ob, hj, hm, h => by
  simp only [yS, List.mem_cons, not_or] at hj
  refine kz X _ j ob hj.2 hm ?_
  rw [y7C, if_neg hj.1, h]
  simp [hm i]
theorem y1T : ∀ (X : List (Nat × Ob)) (s : St) (j : Nat), ycf X → (yS X).Nodup → j ∈ yS X → yq (s.makeAll X).o j = yq X j
 | (i, x) :: X, s, j, hm, hn, hj => by
  have hn' := List.nodup_cons.1 hn
  by_cases hji : j = i
  ·subst hji
   rw [St.makeAll, kz X _ j x hn'.1 hm.1 (by rw [y7C, if_pos rfl])]
   simp [yq, yl]
  ·have hj' : j ∈ yS X := by
    rcases List.mem_cons.1 (show j ∈ i :: yS X from hj) with h | h
    ·exact absurd h hji
    ·exact h
   rw [St.makeAll, y1T X _ j hm.2 hn'.2 hj']
   simp [yq, yt (fun e : i = j => hji e.symm)]
theorem yay (dp tg : Bool) (t : Ty) (own : Bool) (x : El t) (n : Nat) : ycf (zL dp tg t own x n).2 ∧ zK [(zL dp tg t own x n).1] = yS (zL dp tg t own x n).2 ∧ (yS (zL dp tg t own x n).2).Nodup := by
 have plain : ∀ {t : Ty} {own : Bool} {x : El t}, zL dp tg t own x n = (.val t x, []) → ycf (zL dp tg t own x n).2 ∧ zK [(zL dp tg t own x n).1] = yS (zL dp tg t own x n).2 ∧ (yS (zL dp tg t own x n).2).Nodup := by
  intro t own x h
  rw [h]
  exact ⟨trivial, rfl, List.nodup_nil⟩
 cases t with
 | sl e us =>
  cases own with
  | false => exact plain rfl
  | true =>
   refine ⟨⟨fun d => ?_, trivial⟩, rfl, by simp [zL, yS]⟩
   cases dp <;> cases tg <;> cases hf : Wy us <;> simp [Ob.forget, hf]
 | int _ => exact plain (by cases own <;> rfl)
 | bool => exact plain (by cases own <;> rfl)
 | str => exact plain (by cases own <;> rfl)
theorem ybH (dp tg : Bool) : ∀ (ts : List Ty) (os : List Bool) (x : yB ts) (n : Nat), ycf (yw dp tg ts os x n).2 ∧ zK (yw dp tg ts os x n).1 = yS (yw dp tg ts os x n).2 ∧ (yS (yw dp tg ts os x n).2).Nodup := by
 intro ts
 induction ts with
 | nil => intro os x n; exact ⟨trivial, rfl, List.nodup_nil⟩
 | cons t ts ih =>
  intro os x n
  cases ts with
  | nil => exact yay dp tg t (os.headD false) x n
  | cons u r =>
   obtain ⟨a1, a2, a3⟩ := yay dp tg t (os.headD false) x.1 n
   obtain ⟨b1, b2, b3⟩ := ih os.tail x.2 (n + 1)
   have e2 : (yw dp tg (t :: u :: r) os x n).2 = (zL dp tg t (os.headD false) x.1 n).2 ++ (yw dp tg (u :: r) os.tail x.2 (n + 1)).2 := rfl
   have e1 : (yw dp tg (t :: u :: r) os x n).1 = (zL dp tg t (os.headD false) x.1 n).1 :: (yw dp tg (u :: r) os.tail x.2 (n + 1)).1 := rfl
   rw [e1, e2, WG]
   refine ⟨y3c a1 b1, ?_, List.nodup_append.2 ⟨a3, b3, fun i hi j hj he => ?_⟩⟩
   ·rw [zK, b2, ← a2]
    simp [zK]
   ·have h1 := y1l dp tg t _ x.1 n i hi
    have h2 := (y1M dp tg (u :: r) os.tail x.2 (n + 1) j hj).1
    omega
theorem y4y {t : Ty} {own : Bool} {x : El t} {n : Nat} {m : Nat} {o' : Bool} {e : Nat} {ts : List Ty} {xs : List (yB ts)} (h : yq (zL true false t own x n).2 m = some (.root o' e ts xs)) : Wy ts = true := by
 cases t with
 | sl e' us =>
  cases own with
  | false => simp [zL, yq] at h
  | true =>
   cases hf : Wy us with
   | true =>
    by_cases hm : n = m
    ·subst hm
     simp only [zL, hf, cond_true, cond_false, yq, yl, Option.some.injEq] at h
     injection h with _ _ h3 _
     subst h3
     exact hf
    ·simp [zL, yq, yt hm] at h
   | false =>
    by_cases hm : n = m
    ·subst hm
     simp [zL, hf, yq, yl] at h
    ·simp [zL, yq, yt hm] at h
 | int _ => cases own <;> simp [zL, yq] at h
 | bool => cases own <;> simp [zL, yq] at h
 | str => cases own <;> simp [zL, yq] at h
theorem yaz : ∀ (X Y : List (Nat × Ob)) (i : Nat), yq (X ++ Y) i = match yq X i with
  | some x => some x
  | none => yq Y i
 | [], _, _ => rfl
 | (j, x) :: X, Y, i => by
  by_cases hj : j = i
  ·subst hj
   simp [yq, yl]
  ·simp only [List.cons_append, yq, yt hj, cond_false, yaz X Y i]
theorem y7D : ∀ (ts : List Ty) (os : List Bool) (x : yB ts) (n m : Nat) (o' : Bool) (e : Nat) (us : List Ty) (xs : List (yB us)), yq (yw true false ts os x n).2 m = some (.root o' e us xs) → Wy us = true := by
 intro ts
 induction ts with
 | nil => intro os x n m o' e us xs h; simp [yw, yq] at h
 | cons t ts ih =>
  intro os x n m o' e us xs h
  cases ts with
  | nil => exact y4y h
  | cons u r =>
   have e2 : (yw true false (t :: u :: r) os x n).2 = (zL true false t (os.headD false) x.1 n).2 ++ (yw true false (u :: r) os.tail x.2 (n + 1)).2 := rfl
   rw [e2, yaz] at h
   cases h1 : yq (zL true false t (os.headD false) x.1 n).2 m with
   | none =>
    rw [h1] at h
    exact ih os.tail x.2 (n + 1) m o' e us xs h
   | some ob =>
    rw [h1] at h
    have h' : ob = .root o' e us xs := by simpa using h
    rw [h'] at h1
    exact y4y h1
theorem y3f : ∀ (rs : List RK) (l as rl : List A), Vi rs l = some (as, rl) → ∃ k, rl = l.drop k
 | [], l, as, rl, h => by
  simp only [Vi, Option.some.injEq, Prod.mk.injEq] at h
  exact ⟨0, by rw [h.2]; rfl⟩
 | r :: rs, l, as, rl, h => by
  simp only [Vi] at h
  cases hm : mkA r.agg (l.take r.ts.length) with
  | none => simp [hm] at h
  | some a =>
   simp only [hm] at h
   cases hs : Vi rs (l.drop r.ts.length) with
   | none => simp [hs] at h
   | some p =>
    obtain ⟨as', l2⟩ := p
    simp only [hs, Option.some.injEq, Prod.mk.injEq] at h
    obtain ⟨k, hk⟩ := y3f rs _ as' l2 hs
    exact ⟨r.ts.length + k, by rw [← h.2, hk, List.drop_drop]⟩
theorem qF : ∀ (l : List A) (k : Nat), (zK l).Nodup → (zK (l.drop k)).Nodup
 | _, 0, h => by simpa using h
 | [], k + 1, h => by simpa using h
 | a :: l, k + 1, h => by
  simp only [List.drop_succ_cons]
  exact qF l k (List.nodup_append.1 (show (a.ids ++ zK l).Nodup from h)).2.1
theorem y4z (h1 : Rel P w0 lent H0 s a w G) {gs : List Nat} {bsx : List (Nat → Prop)} (hgs : QQ s G gs bsx)
  {w' : World} (hos : w'.os = w.os) (htape : w'.tape = w.tape) (hout : w'.output = w.output) (hsz : w.heap.size ≤ w'.heap.size) (old : ∀ k, k < w.heap.size → ¬ VY bsx [] k → w'.heap[k]? = w.heap[k]?)
  {H2 : Hp} (hle : G.H.le H2) (hin : H2.le (Z7 w')) (hnew : ∀ k ob, H2 k = some ob → G.H k = some ob ∨ w.heap.size ≤ k ∨ VY bsx [] k)
  {ts : List Ty} {os : List Bool} {y : yB ts} {vs' : List Value} {bs' : List (Nat → Prop)} (hc : kp true H2 w' ts os y vs' bs') (ha : y0J bs') (hav : ∀ k, In bs' k → H2 k = none ∧ (w.heap.size ≤ k ∨ VY bsx [] k))
  {d : Nat} {sg : Sig} {cs tvs : List Value} {tg as restA : List A} (htg : RL G tg tvs) (hids : zK tg = gs) (hng : gs.Nodup) (hlkg : ∀ q ∈ gs, ∃ ob, lk q = some ob ∧ yq s.o q = some ob ∧ qz ob)
  (hB : ∀ o i c, tg = [.bor o i c] → ∃ B, TgB s w G o i c B ∧ ∀ k, In bsx k → B k) (hsh : Vi sg.rs (yw true false ts os y (1000 * (d + 1))).1 = some (as, restA)) (hsp : y0j sg.rs vs' cs tvs)
  {mv : List (Nat × Ob)} (hmv : yam lk (yw true false ts os y (1000 * (d + 1))).2 tg restA = some mv) (hdis : ∀ j ∈ yS (yw true false ts os y (1000 * (d + 1))).2, j ∉ gs) :
  ∃ G6, Rel P w0 lent H0 ((s.makeAll (yw true false ts os y (1000 * (d + 1))).2).setAll (zE gs ++ mv)) a w' G6 ∧ RL G6 as cs := by
 obtain ⟨G5, eH, e3, e4, e2, e5⟩ := yav (bs := []) h1 hgs (by simp) hos htape hout hsz old hle hin hnew hc ha hav (n := 1000 * (d + 1)) (by omega)
 obtain ⟨m1, m2, m3⟩ := ybH true false ts os y (1000 * (d + 1))
 have hfl := y7D ts os y (1000 * (d + 1))
 have hg0 : gs ++ yS ([] : List (Nat × Nat)) = gs := by simp [yS]
 rw [hg0] at e3
 generalize hobs : (yw true false ts os y (1000 * (d + 1))).2 = obs at *
 generalize hl : (yw true false ts os y (1000 * (d + 1))).1 = l at *
 rw [setAll_makeAll _ (VI _) _ _ (fun j hj => by rw [VJ]; exact hdis j hj)] at e3
 have hEpv : G5.pv = G.pv := e3.pv.trans h1.pv.symm
 obtain ⟨f1, f2⟩ := y1Q sg.rs _ as restA vs' cs tvs hsh e4 hsp
 obtain ⟨kd, hrest⟩ := y3f sg.rs _ as restA hsh
 have r1 : (zK restA).Nodup := by
  rw [hrest]
  exact qF _ _ (by rw [m2]; exact m3)
 have r2 : ∀ n ∈ zK restA, n ∈ yS obs := fun n hn => by
  rw [← m2]
  rw [hrest] at hn
  exact qD _ _ n hn
 have s1 : ∀ n ∈ zK restA, yq ((s.makeAll obs).setAll (zE gs)).o n = yq obs n := fun n hn => by
  rw [w6, if_neg (hdis n (r2 n hn)), y1T obs s n m1 m3 (r2 n hn)]
 have qo : ∀ q ∈ gs, q ∉ yS obs := fun q hq hq' => hdis q hq' hq
 have s2 : ∀ q ∈ gs, yq ((s.makeAll obs).setAll (zE gs)).o q = some .gone := fun q hq => by
  obtain ⟨ob, _, hl, how⟩ := hlkg q hq
  have hmu : ∀ d, ob.forget d = ob := by
   rcases how with ⟨_, _, _, rfl⟩ | ⟨_, _, _, _, _, rfl⟩ <;> exact fun _ => rfl
  rw [w6, if_pos hq, kz obs s q ob (qo q hq) hmu hl]
  rfl
 have htgq : ∀ q ∈ gs, TgQ lk G5 q := fun q hq => by
  obtain ⟨ob, hlq, hl, how⟩ := hlkg q hq
  obtain ⟨g1, g2, g3, g4⟩ := e2 q (qo q hq)
  have hro := h1.objs q ob hl
  refine ⟨?_, fun ob' e ts xs hob' hw => ?_, fun fin tag e ts xs hlk' ht => ?_⟩
  ·rw [g1, g2]
   rcases how with ⟨_, _, _, rfl⟩ | ⟨_, _, _, _, _, rfl⟩
   ·exact hro.2.2.elim fun _ h => h.2.2.1
   ·exact hro.2.2.2.1
  ·rw [hlq] at hob'
   injection hob' with hob'
   subst hob'
   rw [g2, g3]
   rcases hw with ⟨own, rfl⟩ | ⟨fin, tag, rfl⟩
   ·obtain ⟨k1, _, ⟨A, c, k2, _⟩, _⟩ := vD h1 hl
    exact ⟨k1, A, c, k2⟩
   ·obtain ⟨k1, _, ⟨A, c, k2, _⟩, _⟩ := K5 h1 hl
    exact ⟨k1, A, c, k2⟩
  ·rw [hlq] at hlk'
   injection hlk' with hlk'
   subst hlk'
   rw [g2, hEpv]
   exact hro.2.2.1 ht
 have htg5 : RL G5 tg tvs := by
  have h6 : RL { G with H := G5.H } tg tvs := RL.mono (G := G) (G' := { G with H := G5.H }) (by rw [eH]; exact hle) rfl rfl rfl rfl _ _ htg
  exact RL.agree (G := { G with H := G5.H }) (G' := G5) rfl _ _ h6 (fun j hj => e2 j (qo j (by rw [← hids]; exact hj)))
 have all : Vj lk obs tg restA = some mv → ∃ G6, Rel P w0 lent H0 ((s.makeAll obs).setAll (zE gs ++ mv)) a w' G6 ∧ RL G6 as cs := fun hmv => by
  obtain ⟨G6, g1, g2⟩ := y7A (fun n own e ts xs h => hfl n own e ts xs h) tg restA mv tvs _ G5 hmv e3 htg5 f2 (by rw [hids]; exact hng) r1 (fun q hq hq' => hdis q (r2 q hq') (by rw [← hids]; exact hq)) (fun q hq => ⟨s2 q (by rw [← hids]; exact hq), htgq q (by rw [← hids]; exact hq)⟩) s1
  exact ⟨G6, by rw [St.setAll_append]; exact g2, g1.rl f1⟩
 unfold yam at hmv
 split at hmv
 ·rename_i o i c n
  split at hmv
  ·rename_i tag e ts' xs yy hlo hyy
   obtain ⟨x', hx', rfl⟩ := Option.map_eq_some_iff.1 hmv
   have hgo : gs = [o] := by rw [← hids]; rfl
   subst hgo
   obtain ⟨B, ⟨tag2, e2', ts2, xs2, cells, Bs, hl2, hd, hfin, rfl, hi⟩, hBk⟩ := hB o i c rfl
   obtain ⟨ob, ho1, ho2, _⟩ := hlkg o (by simp)
   rw [hlo] at ho1
   injection ho1 with ho1
   subst ho1
   rw [hl2] at ho2
   injection ho2 with ho2
   injection ho2 with _ q1 q2 q3 q4
   subst q1 q2 q3
   have := eq_of_heq q4
   subst this
   cases hobn : yq obs n with
   | none => simp [hobn] at hyy
   | some obn =>
    have hrs : yem obn = some yy := by simpa [hobn] using hyy
    obtain ⟨en, us, ys, rfl, hrow⟩ := ycI hrs (fun own e ts xs he => hfl n own e ts xs (by rw [hobn, he]))
    have hln := (s1 n (by simp [zK, A.ids])).trans hobn
    have hro := h1.objs o _ hl2
    have hdlt : ∀ k, G.dp o k → k < w.heap.size := hro.2.1
    have hno : n ≠ o := fun he => hdis n (r2 n (by simp [zK, A.ids])) (by simp [he])
    obtain ⟨g1, g2, g3, g4⟩ := e2 o (qo o (by simp))
    have hnL : ∀ k, ¬ Bs (i.toNat * ts2.length + c) k → ¬ VY bsx [] k := fun k hk hL => by
     rcases hL with hL | ⟨p, hp, _⟩
     ·exact hk (hBk k hL)
     ·simp at hp
    have hfree : ∀ k, G.dp o k → ¬ Bs (i.toNat * ts2.length + c) k → Kl w0 lent ((s.makeAll obs).setAll (zE [o])) G5 k := fun k hk hnk => by
     have hH2 : H2 k = none := by
      cases hh : H2 k with
      | none => rfl
      | some ob =>
       rcases hnew k ob hh with h6 | h6 | h6
       ·rw [(h1.away o _ k hl2 hk).1] at h6
        cases h6
       ·have := hdlt k hk
        omega
       ·exact absurd h6 (hnL k hnk)
     have := e5 k (.inr (.inr ⟨o, _, hl2, hk, by simp⟩)) hH2 (fun hb => by
      rcases (hav k hb).2 with h6 | h6
      ·have := hdlt k hk
       omega
      ·exact hnL k hnk h6)
     rw [hg0, setAll_makeAll _ (VI _) _ _ (fun j hj => by rw [VJ]; exact hdis j hj)] at this
     exact this
    have hxi : xs2[i.toNat]? = some (rdE ts2 xs2 i) := by simp [rdE, hi]
    obtain ⟨z, hz⟩ := yhS ts2 _ c _ x' hx'
    obtain ⟨u, hu1, hu2⟩ := (wk ts2 _ _ _).1 (hd.rd i.toNat _ hxi) c _ hz
    obtain ⟨A0, n0, c0, rfl⟩ := DpT.slice hu2
    have hsvn : (.slice A0 n0 c0 : Value) = G5.sv n := by
     cases tvs with
     | nil => exact f2.elim
     | cons tv tvs =>
      have h7 : tv = G5.sv n := f2.1.1
      have h8 : tv = G.hd o (i.toNat * (G.sz o).1 + c) := htg.1.1.1
      rw [← h7, h8, hro.1]
      exact (hfin _ A0 n0 c0 hu1).symm
    have hmb := e3.moveB (n := n) (o := o) hln hrow (s2 o (by simp)) hno (wb := w) (B := G.dp o) (tag := tag2) (e := e2') (xs := xs2) (cells := cells) (Bs := Bs) (by rw [g2]; exact hd) (i := i.toNat) (c := c) hi hxi hx' (fun k hk hnk => old k (hdlt k hk) (hnL k hnk)) (fun k hk => Nat.lt_of_lt_of_le (hdlt k hk) hsz) (by rw [← hsvn]; exact hu1)
     (fun k hk hdk => by
      apply Classical.byContradiction
      intro hnk
      exact (hfree k hdk hnk).2.2 n _ hln hk) (fun k hk hnk => ⟨(hfree k hk hnk).1, (hfree k hk hnk).2.1, fun j oj _ hj => (hfree k hk hnk).2.2 j oj hj⟩) (by rw [g3]; exact hro.1) (by rw [g2, hEpv]; exact hro.2.2.1) (by rw [g2, g1]; exact hro.2.2.2.1) (by rw [g4]; exact hfin)
    exact ⟨_, by rw [St.setAll_append]; exact hmb, (EqD.setDp _ _ _).rl f1⟩
  ·cases hmv
 ·exact all hmv
end Go.Proofs.YtmapoakbdgpamaaGreat.R
