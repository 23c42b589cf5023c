/- A call does what the evaluator says. Conditions: functions do what the evaluator says. -/
import Derived.Test.YtgediecndaheiaaGreatRCall
set_option linter.all false
namespace Go.Proofs.YtgediecndaheiaaGreat.R
open Go.RowKit
variable {P : Program} {C : Ctx} {w0 : World} {lent : Nat → Prop} {H0 : Base} {s : St} {a : Act} {w : World} {G : Gh} {o : Oper} {K : Act → World → Prop} {Q : Exit → Act → World → Prop} {R : Type} {k : Eff → Option R} {r : R} {lk : Lk} {call : C.Sem} {ct wn : Bool}
theorem Vn (lk : Lk) : ∀ (is : List Nat) (i : Nat), i ∈ zh (settles lk is) → ∃ ob e ts xs, lk i = some ob ∧ Rw ob e ts xs
 | [], i, h => by simp [settles, zh] at h
 | j :: is, i, h => by
  unfold settles at h
  split at h
  ·rename_i own e ts xs hj
   simp only [zh, List.mem_cons] at h
   rcases h with rfl | h
   ·exact ⟨_, e, ts, xs, hj, .inl ⟨own, rfl⟩⟩
   ·exact Vn lk is i h
  ·exact Vn lk is i h
theorem yhX (h : Rel P w0 lent H0 s a w G) : ∀ l : List Operand, RL G (l.map s.opd) (l.map a.eval)
 | [] => trivial
 | x :: l => ⟨h.opd x, yhX h l⟩
theorem vp : ∀ {l l' : List Nat}, y0z l l' = true → ∀ i ∈ l, i ∉ l'
 | [], _, _, i, hi => by simp at hi
 | j :: l, l', h, i, hi => by
  simp only [y0z, Bool.and_eq_true, Bool.not_eq_true'] at h
  rcases List.mem_cons.1 hi with rfl | hi
  ·intro hm
   rw [JV.2 hm] at h
   exact absurd h.1 (by simp)
  ·exact vp h.2 i hi
theorem y6i {sg : Sig} {bs : List (Nat × Nat)} {is gs : List Nat} {d : Nat} {ts : List Ty} {y : z8 ts} {e : Eff} (h : VU lk sg bs is gs d ts y = some e) :
  ∃ ex x rest, y6a sg d (zb false ts sg.owns y (1000 * (d + 1))).1 = some (ex, x, rest) ∧ y0z (zh ((zb false ts sg.owns y (1000 * (d + 1))).2 ++ ex)) (is ++ (gs ++ zh bs)) = true ∧ (KZ ex || Nat.ble ts.length 500) = true ∧
   e = ⟨settles lk is ++ (Jd (bif sg.back then [] else gs) ++ y21 bs rest), (zb false ts sg.owns y (1000 * (d + 1))).2 ++ ex, x⟩ := by
 unfold VU at h
 split at h
 rename_i l obs hsc
 split at h
 ·rename_i ex x rest hsh
  cases hd : y0z (zh (obs ++ ex)) (is ++ (gs ++ zh bs)) && (KZ ex || Nat.ble ts.length 500) with
  | false => simp [hd] at h
  | true =>
   simp only [hd, cond_true] at h
   simp only [Bool.and_eq_true] at hd
   injection h with h
   exact ⟨ex, x, rest, by rw [hsc]; exact hsh, by rw [hsc]; exact hd.1, hd.2, by rw [hsc]; exact h.symm⟩
 ·cases h
theorem yg4 {p : Nat → Prop} (h1 : ∀ (own : Bool) (t : Ty) (x : A) (y : El t) (is gs : List Nat), qA lk own t x = some (y, is, gs) → ∀ q ∈ gs, p q) : ∀ (ts : List Ty) (os : List Bool) (l : List A) (y : z8 ts) (is gs : List Nat), VT lk ts os l = some (y, is, gs) → ∀ q ∈ gs, p q := by
 intro ts
 induction ts with
 | nil =>
  intro os l y is gs h
  cases l with
  | nil =>
   have h' : some ((() : z8 []), ([] : List Nat), ([] : List Nat)) = some (y, is, gs) := h
   injection h' with h'
   injection h' with _ e2
   injection e2 with _ e3
   subst e3
   simp
  | cons x l => exact absurd h (by rw [show VT lk [] os (x :: l) = none from rfl]; exact fun h => by cases h)
 | cons t ts ih =>
  intro os l y is gs h
  cases ts with
  | nil =>
   cases l with
   | nil => exact absurd h (by rw [show VT lk [t] os [] = none from rfl]; exact fun h => by cases h)
   | cons x l =>
    cases l with
    | cons x2 l => exact absurd h (by rw [show VT lk [t] os (x :: x2 :: l) = none from rfl]; exact fun h => by cases h)
    | nil => exact h1 _ _ _ _ _ _ h
  | cons u r =>
   cases l with
   | nil => exact absurd h (by rw [show VT lk (t :: u :: r) os [] = none from rfl]; exact fun h => by cases h)
   | cons x l =>
    have h' : (match qA lk (os.headD false) t x with
     | some (x, is, gs) => match VT lk (u :: r) os.tail l with
      | some (y, js, hs) => some (((x, y) : z8 (t :: u :: r)), is ++ js, gs ++ hs)
      | none => none
     | none => none) = some (y, is, gs) := h
    cases h2 : qA lk (os.headD false) t x with
    | none =>
     rw [h2] at h'
     cases h'
    | some p1 =>
     obtain ⟨x1, is1, gs1⟩ := p1
     rw [h2] at h'
     cases h3 : VT lk (u :: r) os.tail l with
     | none =>
      rw [h3] at h'
      cases h'
     | some q =>
      obtain ⟨y1, is2, gs2⟩ := q
      rw [h3] at h'
      injection h' with h'
      injection h' with e1 e2
      injection e2 with e2 e3
      subst e3
      intro q hq
      rcases List.mem_append.1 hq with hq | hq
      ·exact h1 _ _ _ _ _ _ h2 q hq
      ·exact ih os.tail l y1 is2 gs2 h3 q hq
def y28 (ob : Ob) : Prop := ∃ e ts xs, ob = .root true e ts xs
theorem y3X (os : List Bool) {ts : List Ty} (l : List A) (y : z8 ts) (is gs : List Nat) (h : VT lk ts os l = some (y, is, gs)) : ∀ q ∈ gs, ∃ ob, lk q = some ob ∧ y28 ob := by
 refine yg4 (p := fun q => ∃ ob, lk q = some ob ∧ y28 ob) (fun own t x y is gs h => ?_) ts os l y is gs h
 cases own with
 | false =>
  have h' : (toT lk t x).map (fun (y, is) => (y, is, ([] : List Nat))) = some (y, is, gs) := h
  obtain ⟨p, _, he⟩ := Option.map_eq_some_iff.1 h'
  injection he with _ e2
  injection e2 with _ e3
  subst e3
  simp
 | true =>
  cases x with
  | own q =>
   simp only [qA, cond_true] at h
   cases hq : lk q with
   | none => simp [hq] at h
   | some ob =>
    cases ob with
    | root own e ts xs =>
     cases own with
     | false => simp [hq] at h
     | true =>
      simp only [hq] at h
      obtain ⟨z, _, he⟩ := Option.map_eq_some_iff.1 h
      injection he with _ e2
      injection e2 with _ e3
      subst e3
      intro p hp
      have : p = q := by simpa using hp
      subst this
      exact ⟨_, hq, e, ts, xs, rfl⟩
    | _ => simp [hq] at h
  | nils =>
   cases t with
   | sl e ts =>
    simp only [qA, cond_true] at h
    cases hb : Nat.blt 0 ts.length with
    | false => simp [hb] at h
    | true =>
     simp only [hb, cond_true] at h
     injection h with h
     injection h with _ e2
     injection e2 with _ e3
     subst e3
     simp
   | _ => simp [qA] at h
  | val t' x' =>
   simp only [qA, cond_true] at h
   cases hfl : Ty.flat t with
   | false => simp [hfl] at h
   | true =>
    simp only [hfl, cond_true] at h
    obtain ⟨z, _, he⟩ := Option.map_eq_some_iff.1 h
    injection he with _ e2
    injection e2 with _ e3
    subst e3
    simp
  | _ => cases t <;> simp [qA] at h
theorem yjk (hC : v8 H0 C P call) (h : Rel P w0 lent H0 s a w G) (hK : y2y P w0 lent H0 s o k r K) (hlk : y4T lk s) {c : Call} {f : Operand} (hop : o.op = .call c) (hc : c.callee = .value f) (he : jG C call ct wn o s.opd lk k = some r) : o.wp P a w K Q := by
 simp only [jG, hop, hc] at he
 have hfv := h.opd f
 cases hf : y20 (s.opd f) with
 | none => simp [hf] at he
 | some gx =>
  obtain ⟨g0, exA⟩ := gx
  simp only [hf, ydC] at he
  obtain ⟨exv, hexr, hfv⟩ := ycX hf hfv
  generalize hkey : C.key g0 (yj5 lk (c.args.toList.map s.opd)) = g at he
  cases hsg : C.sig g with
  | none => simp [hsg] at he
  | some sg =>
   simp only [hsg] at he
   cases hga : Je lk sg.ps (c.args.toList.map s.opd ++ exA) with
   | none => simp [hga] at he
   | some q =>
    obtain ⟨l, bs⟩ := q
    simp only [hga] at he
    cases htk : VT lk (C.ins g) (sg.ps.flatMap PK.ownsIn) l with
    | none => simp [htk] at he
    | some q =>
     obtain ⟨xs, is, gs⟩ := q
     simp only [htk] at he
     cases hd : o.dst with
     | none => simp [hd] at he
     | some d =>
      simp only [hd] at he
      cases hb : y1h (zh bs) && y1h gs && y0z gs is && Nat.beq (C.fid g) g0 with
      | false => simp [hb] at he
      | true =>
       simp only [hb, cond_true] at he
       simp only [Bool.and_eq_true] at hb
       cases hy : call g xs with
       | none => simp [hy] at he
       | some y =>
        simp only [hy, Option.bind_some] at he
        cases hac : VU lk sg bs (bif sg.hfree then [] else is) gs d (C.outs g) y with
        | none => simp [hac] at he
        | some e =>
         simp only [hac] at he
         obtain ⟨exB, xr, restA, hbv, hdj, hex, hcase⟩ := y6i hac
         have hnb := y0k hb.1.1.1
         have hng := y0k hb.1.1.2
         have hgi := vp hb.1.2
         have hfid := Nat.eq_of_beq_eq_true hb.2
         have hpin5 : H0.pin (1000 * (d + 1) + 500) = none := H0.none (by omega)
         obtain ⟨vs, g1, g2, g3⟩ := y8g h hlk sg.ps _ _ l bs hga (RL.append (yhX h c.args.toList) hexr)
         obtain ⟨G1, hgr, h1, hset⟩ := Rel.settles hlk.rows h is
         obtain ⟨bsx, t1, t2, t3⟩ := y5u h hlk hgr (C.ins g) _ l xs is gs htk hset hng vs g1
         have hbx : ∀ p ∈ bs, ∃ cs, z4 s.o p.1 = some (.box cs) := fun p hp => by
          obtain ⟨cs, hl, _⟩ := g3 p hp
          exact ⟨cs, hl⟩
         have hroot : ∀ i ∈ zh (Go.Proofs.YtgediecndaheiaaGreat.R.settles lk is), ∃ ob e ts xs, z4 s.o i = some ob ∧ Rw ob e ts xs := fun i hi => by
          obtain ⟨ob, e, ts, xs, hl, hw⟩ := Vn lk is i hi
          exact ⟨ob, e, ts, xs, hlk i _ hl, hw⟩
         have hmem : ∀ {i : Nat} {X : List Nat}, Vi X i = false → i ∉ X := fun hm hi => by
          rw [JV.2 hi] at hm
          cases hm
         have hmem' : ∀ {i : Nat} {X : List Nat}, i ∉ X → Vi X i = false := fun {i X} hi => by
          cases hm : Vi X i with
          | false => rfl
          | true => exact absurd (JV.1 hm) hi
         have hbx1 : ∀ p ∈ bs, ∃ cs, z4 (s.setAll (Go.Proofs.YtgediecndaheiaaGreat.R.settles lk is)).o p.1 = some (.box cs) := fun p hp => by
          obtain ⟨cs, hl⟩ := hbx p hp
          refine ⟨cs, ?_⟩
          rw [ZI _ _ (hmem' fun hi => ?_)]
          ·exact hl
          ·obtain ⟨ob, e, ts, xs, hr, hw⟩ := hroot _ hi
           rw [hl] at hr
           injection hr with hr
           subst hr
           rcases hw with ⟨_, hw⟩ | hw <;> cases hw
         have hgb : ∀ q ∈ gs, ∀ cs, z4 s.o q = some (.box cs) → False := fun q hq cs hl => by
          obtain ⟨ob, h1, h2⟩ := y3X (sg.ps.flatMap PK.ownsIn) _ _ _ _ htk q hq
          rw [hlk q _ h1] at hl
          injection hl with hl
          subst hl
          obtain ⟨_, _, _, hw⟩ := h2
          cases hw
         have hgs1 : y26 (s.setAll (Go.Proofs.YtgediecndaheiaaGreat.R.settles lk is)) G1 gs bsx := fun k hk => by
          obtain ⟨q, hq, ob, hl, hbq⟩ := t2 k hk
          refine ⟨q, hq, ob, ?_, by rw [vd hgr.g hgr.sv]; exact hbq⟩
          rw [ZI _ _ (hmem' fun hi => ?_)]
          ·exact hl
          ·exact hgi q hq (W5 lk is q hi)
         have hpw : bs.Pairwise (fun p q => p.1 ≠ q.1) := by
          rw [Wn] at hnb
          exact List.pairwise_map.1 hnb
         have hpb : (bs.map fun p => G.g p.1).Pairwise (fun p q => p.1 ≠ q.1) := by
          rw [List.pairwise_map]
          exact hpw.imp_of_mem fun {p q} hp hq hne he => by
           obtain ⟨c1, l1⟩ := hbx p hp
           obtain ⟨c2, l2⟩ := hbx q hq
           exact hne (h.apart p.1 q.1 _ _ (G.g p.1).1 l1 l2 rfl (by rw [he]; rfl))
         have hL1 : ∀ k, qy bsx (bs.map fun p => G.g p.1) k → G1.H k = none := by
          rintro k (hk | ⟨p, hp, rfl⟩)
          ·obtain ⟨q, hq, ob, hl, hbq⟩ := hgs1 k hk
           exact (h1.away q _ k hl hbq).1
          ·obtain ⟨q, hq, rfl⟩ := List.mem_map.1 hp
           obtain ⟨cs, hl⟩ := hbx1 q hq
           exact (h1.away q.1 _ _ hl (by rw [← hgr.g]; rfl)).1
         have hpd : ∀ p ∈ bs.map (fun p => G.g p.1), ¬ In bsx p.1 := fun p hp hk => by
          obtain ⟨q, hq, rfl⟩ := List.mem_map.1 hp
          obtain ⟨cs, hl⟩ := hbx q hq
          obtain ⟨q2, hq2, ob, hl2, hbq⟩ := t2 _ hk
          have := h.apart q.1 q2 _ _ (G.g q.1).1 hl hl2 rfl hbq
          subst this
          exact hgb q.1 hq2 cs hl
         have hLt : ∀ k, qy bsx (bs.map fun p => G.g p.1) k → G.H k = none := fun k hk => by
          cases hH : G.H k with
          | none => rfl
          | some ob =>
           have := hgr.H k ob hH
           rw [hL1 k hk] at this
           cases this
         refine yji hop hc hfv ?_
         have hargs : (c.args.toList.map a.eval ++ exv).toArray = c.args.map a.eval ++ exv.toArray := by
          rw [← Array.toList_map, ← List.append_toArray, Array.toArray_toList]
         rw [← hargs, ← hfid]
         have hsub : ∀ k, In (W4 sg bsx) k → In bsx k := fun k hk => by
          unfold W4 at hk
          split at hk
          ·simp [In] at hk
          ·exact hk
         obtain ⟨gs2, hg2, hgsub, t22, hgs12⟩ : ∃ gs2, (bif sg.back then [] else gs) = gs2 ∧ (∀ q ∈ gs2, q ∈ gs) ∧ y26 s G gs2 (W4 sg bsx) ∧ y26 (s.setAll (Go.Proofs.YtgediecndaheiaaGreat.R.settles lk is)) G1 gs2 (W4 sg bsx) := by
          unfold W4
          cases sg.back with
          | true => exact ⟨[], rfl, by simp, fun k hk => by simp [In] at hk, fun k hk => by simp [In] at hk⟩
          | false => exact ⟨gs, rfl, fun _ h => h, t2, hgs1⟩
         have hLt2 : ∀ k, qy (W4 sg bsx) (bs.map fun p => G.g p.1) k → G.H k = none := fun k hk => hLt k (hk.imp (hsub k) id)
         have hL12 : ∀ k, qy (W4 sg bsx) (bs.map fun p => G.g p.1) k → G1.H k = none := fun k hk => hL1 k (hk.imp (hsub k) id)
         have hgo := hC g sg xs y hsg hy w G1.H _ vs bsx _ h1.base h1.inH t1 t3 g2 hpb hL1 hpd
         generalize hbk2 : W4 sg bsx = bsx2 at *
         refine hgo.mono fun v w' hleft => ?_
         obtain ⟨H', vs', cs, rest, bs', hl⟩ := hleft
         have hx := vp hdj
         have hlens := y9X sg.ps _ l bs hga
         obtain ⟨nb, hres, hnew⟩ := hl.res
         cases hfr : sg.hfree with
         | true =>
          rw [hfr] at hcase hx
          have hx : ∀ i ∈ zh ((zb false (C.outs g) sg.owns y (1000 * (d + 1))).2 ++ exB), i ∉ gs ++ zh bs := hx
          have hfr' : y80 (C.outs g) sg.owns = true := by
           rw [show C.outs g = sg.outs by simp [Ctx.outs, hsg]]
           exact hfr
          have hnH : ∀ k, (w.heap.size ≤ k ∨ qy bsx2 (bs.map fun p => G.g p.1) k) → G.H k = none := fun k ha2 => by
           rcases ha2 with ha2 | ha2
           ·cases hH : G.H k with
            | none => rfl
            | some ob => exact absurd (Array.getElem?_eq_some_iff.1 (h.inH k ob hH)).1 (Nat.not_lt.2 ha2)
           ·exact hLt2 k ha2
          ·subst hcase
           rw [hg2] at he
           have hback : y0C w' sg.ps (bs.map fun p => G.g p.1) rest := hl.back
           have hcb := y8i h (d := d) (sg := sg) (nb := nb) t22 hbx hnb hl.os hl.tape hl.output hl.size hl.old (H2 := G.H) (Hp.le.refl _) (fun k ob hH => by
            have hw := h.inH k ob hH
            have hlt := (Array.getElem?_eq_some_iff.1 hw).1
            have hnl : ¬ qy bsx2 (bs.map fun p => G.g p.1) k := fun hk => by
             rw [hLt2 k hk] at hH
             cases hH
            show w'.heap[k]? = _
            rw [hl.old k hlt hnl]
            exact hw) (fun k ob hH => .inl hH) (y9Y _ _ _ _ _ hfr' hl.cells) hl.apart (fun k hk => by
            obtain ⟨_, ha2, _⟩ := hl.away k hk
            exact ⟨hnH k ha2, ha2⟩) (fun p hp => ⟨hLt2 _ (.inr ⟨_, List.mem_map_of_mem hp, rfl⟩), fun hk => (hl.away _ hk).2.2 _ (List.mem_map_of_mem hp) rfl⟩) (fun k hk => by
            obtain ⟨_, m2, m3, m4⟩ := hnew k hk
            exact ⟨hnH k m2, m2, m3, m4⟩) hbv hex hres (fun j hj => by
            have := hx j hj
            rw [List.mem_append, not_or] at this
            exact ⟨fun hq => this.1 (hgsub _ hq), this.2⟩) hpin5 hback hlens
           obtain ⟨G5, r1, r2⟩ := hcb
           refine hK _ _ _ G5 he ?_
           have := r1.put o.dst r2
           exact this
         | false =>
          rw [hfr] at hcase hx
          simp only [cond_false] at hx
          classical
          let L := qy bsx2 (bs.map fun p => G.g p.1)
          let H2 : Hp := fun k => if w.heap.size ≤ k ∨ L k then H' k else G1.H k
          have hin1 : ∀ k ob, G1.H k = some ob → ¬ (w.heap.size ≤ k ∨ L k) := fun k ob hH hk => by
           rcases hk with hk | hk
           ·exact absurd (Array.getElem?_eq_some_iff.1 (h1.inH k ob hH)).1 (Nat.not_lt.2 hk)
           ·rw [hL12 k hk] at hH
            cases hH
          have hle2 : G1.H.le H2 := fun k ob hH => by
           show (if w.heap.size ≤ k ∨ L k then H' k else G1.H k) = some ob
           rw [if_neg (hin1 k ob hH)]
           exact hH
          have hin2 : H2.le (ZQ w') := fun k ob hH => by
           have hH' : (if w.heap.size ≤ k ∨ L k then H' k else G1.H k) = some ob := hH
           split at hH'
           ·exact hl.inH k ob hH'
           ·rename_i hk
            rw [not_or] at hk
            show w'.heap[k]? = _
            rw [hl.old k (Nat.lt_of_not_le hk.1) hk.2]
            exact h1.inH k ob hH'
          have hle' : H'.le H2 := fun k ob hH => by
           show (if w.heap.size ≤ k ∨ L k then H' k else G1.H k) = some ob
           split
           ·exact hH
           ·rename_i hk
            rcases hl.hnew k ob hH with h6 | h6
            ·exact h6
            ·exact absurd h6 hk
          have hnew2 : ∀ k ob, H2 k = some ob → G1.H k = some ob ∨ w.heap.size ≤ k ∨ qy bsx2 (bs.map fun p => G1.g p.1) k := fun k ob hH => by
           have hH' : (if w.heap.size ≤ k ∨ L k then H' k else G1.H k) = some ob := hH
           split at hH'
           ·rename_i hk
            rw [hgr.g]
            exact .inr hk
           ·exact .inl hH'
          have hno2 : ∀ k, H' k = none → (w.heap.size ≤ k ∨ L k) → H2 k = none := fun k hn hk => by
           show (if w.heap.size ≤ k ∨ L k then H' k else G1.H k) = none
           rw [if_pos hk]
           exact hn
          ·subst hcase
           rw [hg2] at he
           have hback : y0C w' sg.ps (bs.map fun p => G.g p.1) rest := hl.back
           have hcb := y8i h1 (d := d) (sg := sg) (nb := nb) (ps := sg.ps) (H2 := H2) hgs12 hbx1 hnb hl.os hl.tape hl.output hl.size (by rw [hgr.g]; exact hl.old) hle2 hin2 hnew2 (y9Z hle' _ _ _ _ _ hl.cells) hl.apart (fun k hk => by
            obtain ⟨ha1, ha2, _⟩ := hl.away k hk
            rw [hgr.g]
            exact ⟨hno2 k ha1 ha2, ha2⟩) (fun p hp => by
            rw [hgr.g]
            have hlp : L (G.g p.1).1 := .inr ⟨_, List.mem_map_of_mem hp, rfl⟩
            exact ⟨hno2 _ (hl.ptrs _ (List.mem_map_of_mem hp)) (.inr hlp), fun hk => (hl.away _ hk).2.2 _ (List.mem_map_of_mem hp) rfl⟩) (fun k hk => by
            obtain ⟨m1, m2, m3, m4⟩ := hnew k hk
            rw [hgr.g]
            exact ⟨hno2 k m1 m2, m2, m3, m4⟩) hbv hex hres (fun j hj => by
            have := hx j hj
            simp only [List.mem_append, not_or] at this
            exact ⟨fun hq => this.2.1 (hgsub _ hq), this.2.2⟩) hpin5 (by rw [hgr.g]; exact hback) hlens
           obtain ⟨G5, r1, r2⟩ := hcb
           refine hK _ _ _ G5 he ?_
           rw [setAll_makeAll _ (Qr lk is) _ _ (fun d hd hi => by
            have := hx d hd
            simp only [List.mem_append, not_or] at this
            exact this.1 (W5 lk is d hi)), ← St.setAll_append] at r1
           have := r1.put o.dst r2
           exact this
end Go.Proofs.YtgediecndaheiaaGreat.R
