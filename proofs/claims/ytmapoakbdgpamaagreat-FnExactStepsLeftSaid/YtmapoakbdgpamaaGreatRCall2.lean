/- A call does what the evaluator says. Conditions: functions do what the evaluator says. -/
import Derived.Test.YtmapoakbdgpamaaGreatRMove
set_option linter.all false
namespace Go.Proofs.YtmapoakbdgpamaaGreat.R
open Go.RowKit
variable {P : Program} {C : Ctx} {w0 : World} {lent : Nat → Prop} {H0 : Base} {s : St} {a : Act} {w : World} {G : Gh} {o : Oper} {K : Act → World → Prop} {Q : Exit → Act → World → Prop} {R : Type} {k : Eff → Option R} {r : R} {lk : Lk} {call : C.Sem} {ct wn : Bool}
theorem kr (lk : Lk) : ∀ (is : List Nat) (i : Nat), i ∈ yS (settles lk is) → ∃ ob e ts xs, lk i = some ob ∧ Rw ob e ts xs
 | [], i, h => by simp [settles, yS] at h
 | j :: is, i, h => by
  unfold settles at h
  split at h
  ·rename_i own e ts xs hj
   simp only [yS, List.mem_cons] at h
   rcases h with rfl | h
   ·exact ⟨_, e, ts, xs, hj, .inl ⟨own, rfl⟩⟩
   ·exact kr lk is i h
  ·rename_i fin tag e ts xs hj
   simp only [yS, List.mem_cons] at h
   rcases h with rfl | h
   ·exact ⟨_, e, ts, xs, hj, .inr ⟨fin, tag, rfl⟩⟩
   ·exact kr lk is i h
  ·exact kr lk is i h
theorem yaA {G : Gh} : ∀ (os : List Bool) (l : List A) (vs : List Value), RL G l vs → RL G (Kq os l) (y7v os vs)
 | [], _, _, _ => trivial
 | o :: os, [], [], _ => trivial
 | o :: os, x :: l, v :: vs, h => by
  cases o with
  | false => exact yaA os l vs h.2
  | true => exact ⟨h.1, yaA os l vs h.2⟩
theorem yg2 (h : Rel P w0 lent H0 s a w G) : ∀ l : List Operand, RL G (l.map s.opd) (l.map a.eval)
 | [] => trivial
 | x :: l => ⟨h.opd x, yg2 h l⟩
theorem Kx : ∀ {l l' : List Nat}, QO l l' = true → ∀ i ∈ l, i ∉ l'
 | [], _, _, i, hi => by simp at hi
 | j :: l, l', h, i, hi => by
  simp only [QO, Bool.and_eq_true, Bool.not_eq_true'] at h
  rcases List.mem_cons.1 hi with rfl | hi
  ·intro hm
   rw [Zs.2 hm] at h
   exact absurd h.1 (by simp)
  ·exact Kx h.2 i hi
theorem y5k {sg : Sig} {tg : List A} {bs : List (Nat × Nat)} {is gs : List Nat} {d : Nat} {ts : List Ty} {y : yB ts} {e : Eff} (h : Vk lk sg tg bs is gs d ts y = some e) :
  ∃ ex x rest, y1e sg d (yw sg.deep false ts sg.owns y (1000 * (d + 1))).1 = some (ex, x, rest) ∧ QO (yS ((yw sg.deep false ts sg.owns y (1000 * (d + 1))).2 ++ ex)) (is ++ (gs ++ yS bs)) = true ∧ (WD ex || Nat.ble ts.length 500) = true ∧
   ((sg.back = false ∧ e = ⟨settles lk is ++ (zE gs ++ y1d bs rest), (yw sg.deep false ts sg.owns y (1000 * (d + 1))).2 ++ ex, x⟩) ∨
    (sg.back = true ∧ sg.ptr = false ∧ bs = [] ∧ sg.deep = true ∧ ∃ mv, yam lk (yw sg.deep false ts sg.owns y (1000 * (d + 1))).2 tg rest = some mv ∧ e = ⟨settles lk is ++ (zE gs ++ mv), (yw sg.deep false ts sg.owns y (1000 * (d + 1))).2 ++ ex, x⟩)) := by
 unfold Vk at h
 split at h
 rename_i l obs hsc
 split at h
 ·rename_i ex x rest hsh
  cases hd : QO (yS (obs ++ ex)) (is ++ (gs ++ yS bs)) && (WD ex || Nat.ble ts.length 500) with
  | false => simp [hd] at h
  | true =>
   simp only [hd, cond_true] at h
   simp only [Bool.and_eq_true] at hd
   refine ⟨ex, x, rest, by rw [hsc]; exact hsh, by rw [hsc]; exact hd.1, hd.2, ?_⟩
   cases hb : sg.back with
   | false =>
    simp only [hb, cond_false, Option.some.injEq] at h
    exact .inl ⟨rfl, by rw [hsc]; exact h.symm⟩
   | true =>
    simp only [hb, cond_true] at h
    cases hp : sg.ptr || !WD bs || !sg.deep with
    | true => simp [hp] at h
    | false =>
     simp only [hp, cond_false] at h
     simp only [Bool.or_eq_false_iff, Bool.not_eq_false'] at hp
     split at h
     ·rename_i mv hmv
      injection h with h
      have hbs : bs = [] := by
       cases bs with
       | nil => rfl
       | cons _ _ => simp [WD] at hp
      exact .inr ⟨rfl, hp.1.1, hbs, hp.2, mv, by rw [hsc]; exact hmv, by rw [hsc]; exact h.symm⟩
     ·cases h
 ·cases h
theorem yeI {p : Nat → Prop} {dp bk : Bool} (h1 : ∀ (own : Bool) (t : Ty) (x : A) (y : El t) (is gs : List Nat), K2 lk dp bk own t x = some (y, is, gs) → ∀ q ∈ gs, p q) : ∀ (ts : List Ty) (os : List Bool) (l : List A) (y : yB ts) (is gs : List Nat), WC lk dp bk ts os l = some (y, is, gs) → ∀ q ∈ gs, p q := by
 intro ts
 induction ts with
 | nil =>
  intro os l y is gs h
  cases l with
  | nil =>
   have h' : some ((() : yB []), ([] : List Nat), ([] : List Nat)) = some (y, is, gs) := h
   injection h' with h'
   injection h' with _ e2
   injection e2 with _ e3
   subst e3
   simp
  | cons x l => exact absurd h (by rw [show WC lk dp bk [] os (x :: l) = none from rfl]; exact fun h => by cases h)
 | cons t ts ih =>
  intro os l y is gs h
  cases ts with
  | nil =>
   cases l with
   | nil => exact absurd h (by rw [show WC lk dp bk [t] os [] = none from rfl]; exact fun h => by cases h)
   | cons x l =>
    cases l with
    | cons x2 l => exact absurd h (by rw [show WC lk dp bk [t] os (x :: x2 :: l) = none from rfl]; exact fun h => by cases h)
    | nil => exact h1 _ _ _ _ _ _ h
  | cons u r =>
   cases l with
   | nil => exact absurd h (by rw [show WC lk dp bk (t :: u :: r) os [] = none from rfl]; exact fun h => by cases h)
   | cons x l =>
    have h' : (match K2 lk dp bk (os.headD false) t x with
     | some (x, is, gs) => match WC lk dp bk (u :: r) os.tail l with
      | some (y, js, hs) => some (((x, y) : yB (t :: u :: r)), is ++ js, gs ++ hs)
      | none => none
     | none => none) = some (y, is, gs) := h
    cases h2 : K2 lk dp bk (os.headD false) t x with
    | none =>
     rw [h2] at h'
     cases h'
    | some p1 =>
     obtain ⟨x1, is1, gs1⟩ := p1
     rw [h2] at h'
     cases h3 : WC lk dp bk (u :: r) os.tail l with
     | none =>
      rw [h3] at h'
      cases h'
     | some q =>
      obtain ⟨y1, is2, gs2⟩ := q
      rw [h3] at h'
      injection h' with h'
      injection h' with e1 e2
      injection e2 with e2 e3
      subst e3
      intro q hq
      rcases List.mem_append.1 hq with hq | hq
      ·exact h1 _ _ _ _ _ _ h2 q hq
      ·exact ih os.tail l y1 is2 gs2 h3 q hq
theorem y3g {dp bk : Bool} (os : List Bool) {ts : List Ty} (l : List A) (y : yB ts) (is gs : List Nat) (h : WC lk dp bk ts os l = some (y, is, gs)) : ∀ q ∈ gs, ∃ ob, lk q = some ob ∧ qz ob := by
 refine yeI (p := fun q => ∃ ob, lk q = some ob ∧ qz ob) (fun own t x y is gs h => ?_) ts os l y is gs h
 cases own with
 | false =>
  have h' : (toT lk t x).map (fun (y, is) => (y, is, ([] : List Nat))) = some (y, is, gs) := h
  obtain ⟨p, _, he⟩ := Option.map_eq_some_iff.1 h'
  injection he with _ e2
  injection e2 with _ e3
  subst e3
  simp
 | true =>
  cases dp with
  | true =>
   have h' : (kn lk bk t x).map (fun (y, gs) => (y, ([] : List Nat), gs)) = some (y, is, gs) := h
   obtain ⟨p, hp, he⟩ := Option.map_eq_some_iff.1 h'
   obtain ⟨y', gs'⟩ := p
   injection he with _ e2
   injection e2 with _ e3
   subst e3
   exact (y7B hp).2
  | false =>
   cases x with
   | own q =>
    simp only [K2, cond_true, cond_false] at h
    cases hq : lk q with
    | none => simp [hq] at h
    | some ob =>
     cases ob with
     | root own e ts xs =>
      cases own with
      | false => simp [hq] at h
      | true =>
       simp only [hq] at h
       obtain ⟨z, _, he⟩ := Option.map_eq_some_iff.1 h
       injection he with _ e2
       injection e2 with _ e3
       subst e3
       intro p hp
       have : p = q := by simpa using hp
       subst this
       exact ⟨_, hq, .inl ⟨e, ts, xs, rfl⟩⟩
     | _ => simp [hq] at h
   | nils =>
    cases t with
    | sl e ts =>
     simp only [K2, cond_true, cond_false] at h
     cases hb : Nat.blt 0 ts.length with
     | false => simp [hb] at h
     | true =>
      simp only [hb, cond_true] at h
      injection h with h
      injection h with _ e2
      injection e2 with _ e3
      subst e3
      simp
    | _ => simp [K2] at h
   | val t' x' =>
    simp only [K2, cond_true, cond_false] at h
    cases hfl : Ty.flat t with
    | false => simp [hfl] at h
    | true =>
     simp only [hfl, cond_true] at h
     obtain ⟨z, _, he⟩ := Option.map_eq_some_iff.1 h
     injection he with _ e2
     injection e2 with _ e3
     subst e3
     simp
   | _ => cases t <;> simp [K2] at h
theorem y4A {sg : Sig} {d : Nat} {l : List A} {ex : List (Nat × Ob)} {x : A} {rest : List A} (h : y1e sg d l = some (ex, x, rest)) (hp : sg.ptr = false) : ∃ as, Vi sg.rs l = some (as, rest) ∧ ex = [] ∧ ∀ {G : Gh} {cs : List Value}, RL G as cs → RA G x (y1O cs) := by
 unfold y1e at h
 rw [hp, cond_false] at h
 split at h
 ·rename_i as r hs
  simp only [Option.some.injEq, Prod.mk.injEq] at h
  obtain ⟨rfl, rfl, rfl⟩ := h
  exact ⟨as, hs, rfl, fun hr => y7y hr⟩
 ·cases h
theorem TgB.grown {s' : St} {G' : Gh} (hg : Grown G G') {o' : Nat} {i : Int} {c : Nat} {B : Nat → Prop} (hl : yq s'.o o' = yq s.o o') (h : TgB s w G o' i c B) : TgB s' w G' o' i c B := by
 obtain ⟨tag, e, ts, xs, cells, Bs, h1, h2, h3, h4, h5⟩ := h
 exact ⟨tag, e, ts, xs, cells, Bs, hl.trans h1, by rw [hg.dp, hg.sv]; exact h2, by rw [hg.hd]; exact h3, h4, h5⟩
theorem yhT (hC : K7 H0 C P call) (h : Rel P w0 lent H0 s a w G) (hK : y1j P w0 lent H0 s o k r K) (hlk : y1H lk s) {c : Call} {f : Operand} (hop : o.op = .call c) (hc : c.callee = .value f) (he : Zn C call ct wn o s.opd lk k = some r) : o.wp P a w K Q := by
 simp only [Zn, hop, hc] at he
 have hfv := h.opd f
 cases hf : y1c (s.opd f) with
 | none => simp [hf] at he
 | some gx =>
  obtain ⟨g0, exA⟩ := gx
  simp only [hf, ycl] at he
  obtain ⟨exv, hexr, hfv⟩ := ybG hf hfv
  generalize hkey : C.key g0 (yhA lk (c.args.toList.map s.opd)) = g at he
  cases hsg : C.sig g with
  | none => simp [hsg] at he
  | some sg =>
   simp only [hsg] at he
   cases hga : jm lk sg.ps (c.args.toList.map s.opd ++ exA) with
   | none => simp [hga] at he
   | some q =>
    obtain ⟨l, bs⟩ := q
    simp only [hga] at he
    cases htk : WC lk sg.deep sg.back (C.ins g) (sg.ps.flatMap PK.ownsIn) l with
    | none => simp [htk] at he
    | some q =>
     obtain ⟨xs, is, gs⟩ := q
     simp only [htk] at he
     cases hd : o.dst with
     | none => simp [hd] at he
     | some d =>
      simp only [hd] at he
      cases hb : Vh (yS bs) && Vh gs && QO gs is && Nat.beq (C.fid g) g0 with
      | false => simp [hb] at he
      | true =>
       simp only [hb, cond_true] at he
       simp only [Bool.and_eq_true] at hb
       cases hy : call g xs with
       | none => simp [hy] at he
       | some y =>
        simp only [hy, Option.bind_some] at he
        cases hac : Vk lk sg (Kq (sg.ps.flatMap PK.ownsIn) l) bs (bif sg.hfree then [] else is) gs d (C.outs g) y with
        | none => simp [hac] at he
        | some e =>
         simp only [hac] at he
         obtain ⟨exB, xr, restA, hbv, hdj, hex, hcase⟩ := y5k hac
         have hnb := Km hb.1.1.1
         have hng := Km hb.1.1.2
         have hgi := Kx hb.1.2
         have hfid := Nat.eq_of_beq_eq_true hb.2
         have hpin5 : H0.pin (1000 * (d + 1) + 500) = none := H0.none (by omega)
         obtain ⟨vs, g1, g2, g3⟩ := y7w h hlk sg.ps _ _ l bs hga (RL.append (yg2 h c.args.toList) hexr)
         obtain ⟨G1, hgr, h1, hset⟩ := Rel.settles hlk.rows h is
         obtain ⟨bsx, t1, t2, t3, _, t5⟩ := y4s h hlk hgr sg.deep sg.back (C.ins g) _ l xs is gs htk hset hng vs g1
         have hbx : ∀ p ∈ bs, ∃ cs, yq s.o p.1 = some (.box cs) := fun p hp => by
          obtain ⟨cs, hl, _⟩ := g3 p hp
          exact ⟨cs, hl⟩
         have hroot : ∀ i ∈ yS (Go.Proofs.YtmapoakbdgpamaaGreat.R.settles lk is), ∃ ob e ts xs, yq s.o i = some ob ∧ Rw ob e ts xs := fun i hi => by
          obtain ⟨ob, e, ts, xs, hl, hw⟩ := kr lk is i hi
          exact ⟨ob, e, ts, xs, hlk i _ hl, hw⟩
         have hmem : ∀ {i : Nat} {X : List Nat}, Ki X i = false → i ∉ X := fun hm hi => by
          rw [Zs.2 hi] at hm
          cases hm
         have hmem' : ∀ {i : Nat} {X : List Nat}, i ∉ X → Ki X i = false := fun {i X} hi => by
          cases hm : Ki X i with
          | false => rfl
          | true => exact absurd (Zs.1 hm) hi
         have hbx1 : ∀ p ∈ bs, ∃ cs, yq (s.setAll (Go.Proofs.YtmapoakbdgpamaaGreat.R.settles lk is)).o p.1 = some (.box cs) := fun p hp => by
          obtain ⟨cs, hl⟩ := hbx p hp
          refine ⟨cs, ?_⟩
          rw [Yo _ _ (hmem' fun hi => ?_)]
          ·exact hl
          ·obtain ⟨ob, e, ts, xs, hr, hw⟩ := hroot _ hi
           rw [hl] at hr
           injection hr with hr
           subst hr
           rcases hw with ⟨_, hw⟩ | ⟨_, _, hw⟩ <;> cases hw
         have hgb : ∀ q ∈ gs, ∀ cs, yq s.o q = some (.box cs) → False := fun q hq cs hl => by
          obtain ⟨ob, h1, h2⟩ := y3g (sg.ps.flatMap PK.ownsIn) _ _ _ _ htk q hq
          rw [hlk q _ h1] at hl
          injection hl with hl
          subst hl
          rcases h2 with ⟨_, _, _, hw⟩ | ⟨_, _, _, _, _, hw⟩ <;> cases hw
         have hgs1 : QQ (s.setAll (Go.Proofs.YtmapoakbdgpamaaGreat.R.settles lk is)) G1 gs bsx := fun k hk => by
          obtain ⟨q, hq, ob, hl, hbq⟩ := t2 k hk
          refine ⟨q, hq, ob, ?_, by rw [Kj hgr.g hgr.sv hgr.dp]; exact hbq⟩
          rw [Yo _ _ (hmem' fun hi => ?_)]
          ·exact hl
          ·exact hgi q hq (YI lk is q hi)
         have hpw : bs.Pairwise (fun p q => p.1 ≠ q.1) := by
          rw [wm] at hnb
          exact List.pairwise_map.1 hnb
         have hpb : (bs.map fun p => G.g p.1).Pairwise (fun p q => p.1 ≠ q.1) := by
          rw [List.pairwise_map]
          exact hpw.imp_of_mem fun {p q} hp hq hne he => by
           obtain ⟨c1, l1⟩ := hbx p hp
           obtain ⟨c2, l2⟩ := hbx q hq
           exact hne (h.apart p.1 q.1 _ _ (G.g p.1).1 l1 l2 rfl (by rw [he]; rfl))
         have hL1 : ∀ k, VY bsx (bs.map fun p => G.g p.1) k → G1.H k = none := by
          rintro k (hk | ⟨p, hp, rfl⟩)
          ·obtain ⟨q, hq, ob, hl, hbq⟩ := hgs1 k hk
           exact (h1.away q _ k hl hbq).1
          ·obtain ⟨q, hq, rfl⟩ := List.mem_map.1 hp
           obtain ⟨cs, hl⟩ := hbx1 q hq
           exact (h1.away q.1 _ _ hl (by rw [← hgr.g]; rfl)).1
         have hpd : ∀ p ∈ bs.map (fun p => G.g p.1), ¬ In bsx p.1 := fun p hp hk => by
          obtain ⟨q, hq, rfl⟩ := List.mem_map.1 hp
          obtain ⟨cs, hl⟩ := hbx q hq
          obtain ⟨q2, hq2, ob, hl2, hbq⟩ := t2 _ hk
          have := h.apart q.1 q2 _ _ (G.g q.1).1 hl hl2 rfl hbq
          subst this
          exact hgb q.1 hq2 cs hl
         have hLt : ∀ k, VY bsx (bs.map fun p => G.g p.1) k → G.H k = none := fun k hk => by
          cases hH : G.H k with
          | none => rfl
          | some ob =>
           have := hgr.H k ob hH
           rw [hL1 k hk] at this
           cases this
         refine yhR hop hc hfv ?_
         have hargs : (c.args.toList.map a.eval ++ exv).toArray = c.args.map a.eval ++ exv.toArray := by
          rw [← Array.toList_map, ← List.append_toArray, Array.toArray_toList]
         rw [← hargs, ← hfid]
         refine (hC g sg xs y hsg hy w G1.H _ vs bsx _ h1.base h1.inH t1 t3 g2 hpb hL1 hpd).mono fun v w' hleft => ?_
         obtain ⟨H', vs', cs, rest, bs', hl⟩ := hleft
         have hx := Kx hdj
         have hlens := y9z sg.ps _ l bs hga
         obtain ⟨nb, hres, hnew⟩ := hl.res
         cases hfr : sg.hfree with
         | true =>
          rw [hfr] at hcase hx
          have hx : ∀ i ∈ yS ((yw sg.deep false (C.outs g) sg.owns y (1000 * (d + 1))).2 ++ exB), i ∉ gs ++ yS bs := hx
          have hfr' : y7f sg.deep (C.outs g) sg.owns = true := by
           rw [show C.outs g = sg.outs by simp [Ctx.outs, hsg]]
           exact hfr
          have hnH : ∀ k, (w.heap.size ≤ k ∨ VY bsx (bs.map fun p => G.g p.1) k) → G.H k = none := fun k ha2 => by
           rcases ha2 with ha2 | ha2
           ·cases hH : G.H k with
            | none => rfl
            | some ob => exact absurd (Array.getElem?_eq_some_iff.1 (h.inH k ob hH)).1 (Nat.not_lt.2 ha2)
           ·exact hLt k ha2
          rcases hcase with ⟨hbk, rfl⟩ | ⟨hbk, hptr, hbs, hdeep, mv, hmv, rfl⟩
          ·have hback : qE w' sg.ps (bs.map fun p => G.g p.1) rest := by
            have := hl.back
            rw [hbk] at this
            exact this
           have hcb := y7z h (d := d) (sg := sg) (nb := nb) t2 hbx hnb hl.os hl.tape hl.output hl.size hl.old (H2 := G.H) (Hp.le.refl _) (fun k ob hH => by
            have hw := h.inH k ob hH
            have hlt := (Array.getElem?_eq_some_iff.1 hw).1
            have hnl : ¬ VY bsx (bs.map fun p => G.g p.1) k := fun hk => by
             rw [hLt k hk] at hH
             cases hH
            show w'.heap[k]? = _
            rw [hl.old k hlt hnl]
            exact hw) (fun k ob hH => .inl hH) (y3d _ _ _ _ _ hfr' hl.cells) hl.apart (fun k hk => by
            obtain ⟨_, ha2, _⟩ := hl.away k hk
            exact ⟨hnH k ha2, ha2⟩) (fun p hp => ⟨hLt _ (.inr ⟨_, List.mem_map_of_mem hp, rfl⟩), fun hk => (hl.away _ hk).2.2 _ (List.mem_map_of_mem hp) rfl⟩) (fun k hk => by
            obtain ⟨_, m2, m3, m4⟩ := hnew k hk
            exact ⟨hnH k m2, m2, m3, m4⟩) hbv hex hres (fun j hj => by
            have := hx j hj
            rw [List.mem_append, not_or] at this
            exact this) hpin5 hback hlens
           obtain ⟨G5, r1, r2⟩ := hcb
           refine hK _ _ _ G5 he ?_
           have := r1.put o.dst r2
           exact this
          ·subst hbs
           obtain ⟨as, hsh, rfl, hres'⟩ := y4A hbv hptr
           have hrest : rest = y7v (sg.ps.flatMap PK.ownsIn) vs := by
            have := hl.back
            rw [hbk] at this
            exact this
           subst hrest
           unfold y7u at hres
           rw [hptr] at hres
           obtain ⟨_, hsp, rfl⟩ := hres
           rw [hdeep] at hsh hmv hx htk he
           have hcells := hl.cells
           rw [hdeep] at hcells hfr'
           rw [List.append_nil] at he hx
           obtain ⟨i1, i2⟩ := yax _ _ l xs is gs htk
           obtain ⟨G6, r1, r2⟩ := y4z h (lk := lk) (d := d) (sg := sg) t2 hl.os hl.tape hl.output hl.size hl.old (H2 := G.H) (Hp.le.refl _) (fun k ob hH => by
            have hw := h.inH k ob hH
            have hlt := (Array.getElem?_eq_some_iff.1 hw).1
            have hnl : ¬ VY bsx [] k := fun hk => by
             rw [hLt k hk] at hH
             cases hH
            show w'.heap[k]? = _
            rw [hl.old k hlt hnl]
            exact hw) (fun k ob hH => .inl hH) (y3d _ _ _ _ _ hfr' hcells) hl.apart (fun k hk => by
            obtain ⟨_, ha2, _⟩ := hl.away k hk
            exact ⟨hnH k ha2, ha2⟩) (yaA _ _ _ g1) i1 hng (fun q hq => by
            obtain ⟨ob, o1, o2⟩ := i2 q hq
            exact ⟨ob, o1, hlk q ob o1, o2⟩) t5 hsh hsp hmv (fun j hj hjg => hx j hj (List.mem_append_left _ hjg))
           refine hK _ _ _ G6 he ?_
           have := r1.put o.dst (hres' r2)
           exact this
         | false =>
          rw [hfr] at hcase hx
          simp only [cond_false] at hx
          classical
          let L := VY bsx (bs.map fun p => G.g p.1)
          let H2 : Hp := fun k => if w.heap.size ≤ k ∨ L k then H' k else G1.H k
          have hin1 : ∀ k ob, G1.H k = some ob → ¬ (w.heap.size ≤ k ∨ L k) := fun k ob hH hk => by
           rcases hk with hk | hk
           ·exact absurd (Array.getElem?_eq_some_iff.1 (h1.inH k ob hH)).1 (Nat.not_lt.2 hk)
           ·rw [hL1 k hk] at hH
            cases hH
          have hle2 : G1.H.le H2 := fun k ob hH => by
           show (if w.heap.size ≤ k ∨ L k then H' k else G1.H k) = some ob
           rw [if_neg (hin1 k ob hH)]
           exact hH
          have hin2 : H2.le (Z7 w') := fun k ob hH => by
           have hH' : (if w.heap.size ≤ k ∨ L k then H' k else G1.H k) = some ob := hH
           split at hH'
           ·exact hl.inH k ob hH'
           ·rename_i hk
            rw [not_or] at hk
            show w'.heap[k]? = _
            rw [hl.old k (Nat.lt_of_not_le hk.1) hk.2]
            exact h1.inH k ob hH'
          have hle' : H'.le H2 := fun k ob hH => by
           show (if w.heap.size ≤ k ∨ L k then H' k else G1.H k) = some ob
           split
           ·exact hH
           ·rename_i hk
            rcases hl.hnew k ob hH with h6 | h6
            ·exact h6
            ·exact absurd h6 hk
          have hnew2 : ∀ k ob, H2 k = some ob → G1.H k = some ob ∨ w.heap.size ≤ k ∨ VY bsx (bs.map fun p => G1.g p.1) k := fun k ob hH => by
           have hH' : (if w.heap.size ≤ k ∨ L k then H' k else G1.H k) = some ob := hH
           split at hH'
           ·rename_i hk
            rw [hgr.g]
            exact .inr hk
           ·exact .inl hH'
          have hno2 : ∀ k, H' k = none → (w.heap.size ≤ k ∨ L k) → H2 k = none := fun k hn hk => by
           show (if w.heap.size ≤ k ∨ L k then H' k else G1.H k) = none
           rw [if_pos hk]
           exact hn
          rcases hcase with ⟨hbk, rfl⟩ | ⟨hbk, hptr, hbs, hdeep, mv, hmv, rfl⟩
          ·have hback : qE w' sg.ps (bs.map fun p => G.g p.1) rest := by
            have := hl.back
            rw [hbk] at this
            exact this
           have hcb := y7z h1 (d := d) (sg := sg) (nb := nb) (ps := sg.ps) (H2 := H2) hgs1 hbx1 hnb hl.os hl.tape hl.output hl.size (by rw [hgr.g]; exact hl.old) hle2 hin2 hnew2 (y3e hle' _ _ _ _ _ hl.cells) hl.apart (fun k hk => by
            obtain ⟨ha1, ha2, _⟩ := hl.away k hk
            rw [hgr.g]
            exact ⟨hno2 k ha1 ha2, ha2⟩) (fun p hp => by
            rw [hgr.g]
            have hlp : L (G.g p.1).1 := .inr ⟨_, List.mem_map_of_mem hp, rfl⟩
            exact ⟨hno2 _ (hl.ptrs _ (List.mem_map_of_mem hp)) (.inr hlp), fun hk => (hl.away _ hk).2.2 _ (List.mem_map_of_mem hp) rfl⟩) (fun k hk => by
            obtain ⟨m1, m2, m3, m4⟩ := hnew k hk
            rw [hgr.g]
            exact ⟨hno2 k m1 m2, m2, m3, m4⟩) hbv hex hres (fun j hj => by
            have := hx j hj
            simp only [List.mem_append, not_or] at this
            exact this.2) hpin5 (by rw [hgr.g]; exact hback) hlens
           obtain ⟨G5, r1, r2⟩ := hcb
           refine hK _ _ _ G5 he ?_
           rw [setAll_makeAll _ (kq lk is) _ _ (fun d hd hi => by
            have := hx d hd
            simp only [List.mem_append, not_or] at this
            exact this.1 (YI lk is d hi)), ← St.setAll_append] at r1
           have := r1.put o.dst r2
           exact this
          ·subst hbs
           obtain ⟨as, hsh, rfl, hres'⟩ := y4A hbv hptr
           have hrest : rest = y7v (sg.ps.flatMap PK.ownsIn) vs := by
            have := hl.back
            rw [hbk] at this
            exact this
           subst hrest
           unfold y7u at hres
           rw [hptr] at hres
           obtain ⟨_, hsp, rfl⟩ := hres
           rw [hdeep] at hsh hmv hx htk he
           have hcells := hl.cells
           rw [hdeep] at hcells
           rw [List.append_nil] at he hx
           obtain ⟨i1, i2⟩ := yax _ _ l xs is gs htk
           have hlk1 : ∀ q ∈ gs, yq (s.setAll (Go.Proofs.YtmapoakbdgpamaaGreat.R.settles lk is)).o q = yq s.o q := fun q hq => Yo _ _ (hmem' fun hi => hgi q hq (YI lk is q hi))
           obtain ⟨G6, r1, r2⟩ := y4z h1 (lk := lk) (d := d) (sg := sg) hgs1 hl.os hl.tape hl.output hl.size hl.old (H2 := H2) hle2 hin2 hnew2 (y3e hle' _ _ _ _ _ hcells) hl.apart (fun k hk => by
            obtain ⟨ha1, ha2, _⟩ := hl.away k hk
            exact ⟨hno2 k ha1 ha2, ha2⟩) ((yaA _ _ _ g1).grown hgr) i1 hng (fun q hq => by
            obtain ⟨ob, o1, o2⟩ := i2 q hq
            exact ⟨ob, o1, (hlk1 q hq).trans (hlk q ob o1), o2⟩) (fun o' i' c' ht => by
            obtain ⟨B, b1, b2⟩ := t5 o' i' c' ht
            refine ⟨B, b1.grown hgr (hlk1 o' ?_), b2⟩
            rw [← i1, ht]
            simp [zK, A.ids]) hsh hsp hmv (fun j hj hjg => by
            have := hx j hj
            simp only [List.mem_append, not_or] at this
            exact this.2.1 hjg)
           refine hK _ _ _ G6 he ?_
           rw [setAll_makeAll _ (kq lk is) _ _ (fun d hd hi => by
            have := hx d hd
            simp only [List.mem_append, not_or] at this
            exact this.1 (YI lk is d hi)), ← St.setAll_append] at r1
           have := r1.put o.dst (hres' r2)
           exact this
end Go.Proofs.YtmapoakbdgpamaaGreat.R
