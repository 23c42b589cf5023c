/- A function does what its body's evaluation says. Conditions: the types lie as the context says; the functions that it calls do what the evaluator says. -/
import Derived.Test.YtgediecndaheiaaGreatRCode
set_option linter.all false
namespace Go.Proofs.YtgediecndaheiaaGreat.R
open Go.RowKit
variable {P : Program} {C : Ctx} {w0 : World} {lent : Nat → Prop} {H0 : Base} {s : St} {a : Act} {w : World} {G : Gh} {call : C.Sem}
def y1A (tmps : Array Value) : ResultVar → Sem Value
 | .tmp t => pure (tmps.getD t undef)
 | .cell a t => do loadVar t (← asAddr (tmps.getD a undef))
theorem y8y {fn : Func} {tmps : Array Value} {cs : List Value} (h : (fn.results.toList.mapM (y1A tmps)).run P w = .ok cs w) : (results fn tmps).run P w = .ok (y2B cs) w := by
 have e : (fn.results.mapM (y1A tmps)).run P w = .ok cs.toArray w := by
  rw [Array.mapM_eq_mapM_toList]
  simp [h]
 have : results fn tmps = (do
   let vs ← fn.results.mapM (y1A tmps)
   pure (if h : vs.size = 1 then vs[0] else .tuple vs)) := by
  unfold results
  congr 2
 rw [this, Sem.run_bind, e]
 cases cs with
 | nil => rfl
 | cons c cs =>
  cases cs with
  | nil => rfl
  | cons d cs => simp [y2B]
theorem y8z {G : Gh} {agg : Bool} {x : A} {c : List A} {v : Value} (hc : J7 agg x = some c) (hr : RA G x v) : ∃ vs1, RL G c vs1 ∧ (if agg then v = .agg vs1.toArray else vs1 = [v]) := by
 cases agg with
 | true =>
  cases x with
  | agg l0 =>
   simp only [J7, Option.some.injEq] at hc
   subst hc
   obtain ⟨cs, hv, hl⟩ := hr
   exact ⟨cs, hl, hv⟩
  | _ => simp [J7] at hc
 | false =>
  have : c = [x] := by
   cases x <;> simp [J7] at hc <;> exact hc.symm
  subst this
  exact ⟨[v], ⟨hr, trivial⟩, rfl⟩
theorem yed (hT : TOk C P) (h : Rel P w0 lent H0 s a w G) {t : Nat} {ti : TI} (ht : C.info t = some ti) {p x : A} (hx : y3G (z4 s.o) ti p = some x) {v : Value} (hv : RA G p v) : ∃ u, (do loadVar t (← asAddr v) : Sem Value).run P w = .ok u w ∧ RA G x u := by
 obtain ⟨u, hu, hr⟩ := y5n hT h (fun _ _ h => h) ht hx hv
 refine ⟨u, ?_, hr⟩
 have : ∃ ad, v = .pointer (some ad) := by
  cases p with
  | box b off => exact ⟨_, hv⟩
  | rtp o i c => exact ⟨_, hv.1⟩
  | elp e ts xs i c =>
   obtain ⟨ad, hv, _⟩ := hv
   exact ⟨_, hv⟩
  | _ => simp [y3G] at hx
 obtain ⟨ad, rfl⟩ := this
 simpa [Instr.loadAt, Instr.sureAddr, asAddr] using hu
theorem y5L (hT : TOk C P) (h : Rel P w0 lent H0 s a w G) : ∀ (rs : List ResultVar) (ks : List RK) (l : List A), ybg C s rs ks = some l → ∃ cs vs, (rs.mapM (y1A a.tmps)).run P w = .ok cs w ∧ RL G l vs ∧ ∀ rest, Qq ks (vs ++ rest) cs rest := by
 intro rs
 induction rs with
 | nil =>
  intro ks l hl
  cases ks with
  | nil =>
   simp only [ybg, Option.some.injEq] at hl
   subst hl
   exact ⟨[], [], rfl, trivial, fun rest => ⟨rfl, by simp⟩⟩
  | cons _ _ => simp [ybg] at hl
 | cons r rs ih =>
  intro ks l hl
  cases ks with
  | nil => cases r <;> simp [ybg] at hl
  | cons k ks =>
   have step : ∀ (x : A) (v : Value), (y1A a.tmps r).run P w = .ok v w → RA G x v → (match J7 k.agg x, ybg C s rs ks with
     | some c, some l => bif Nat.beq c.length k.ts.length then some (c ++ l) else none
     | _, _ => none) = some l → ∃ cs vs, ((r :: rs).mapM (y1A a.tmps)).run P w = .ok cs w ∧ RL G l vs ∧ ∀ rest, Qq (k :: ks) (vs ++ rest) cs rest := by
    intro x v hv hr hl
    cases hc : J7 k.agg x with
    | none => simp [hc] at hl
    | some c =>
     cases hrl : ybg C s rs ks with
     | none => simp [hc, hrl] at hl
     | some l' =>
      simp only [hc, hrl] at hl
      cases hb : Nat.beq c.length k.ts.length with
      | false => simp [hb] at hl
      | true =>
       simp only [hb, cond_true, Option.some.injEq] at hl
       subst hl
       obtain ⟨cs, vs, h1, h2, h3⟩ := ih ks l' hrl
       obtain ⟨vs1, k1, k2⟩ := y8z hc hr
       refine ⟨v :: cs, vs1 ++ vs, ?_, RL.append k1 h2, fun rest => ⟨vs1, vs ++ rest, v, cs, by simp, by rw [← k1.length]; exact Nat.eq_of_beq_eq_true hb, rfl, k2, h3 rest⟩⟩
       rw [List.mapM_cons]
       simp only [Sem.run_bind, hv]
       simp [h1]
   cases r with
   | tmp t =>
    simp only [ybg] at hl
    exact step _ _ rfl (h.tmp t) hl
   | cell b t =>
    simp only [ybg] at hl
    cases ht : C.info t with
    | none => simp [ht] at hl
    | some ti =>
     simp only [ht] at hl
     cases hx : y3G (z4 s.o) ti (s.t.getD b .dead) with
     | none =>
      rw [hx] at hl
      cases hl
     | some x =>
      simp only [hx] at hl
      obtain ⟨u, hu, hr⟩ := yed hT h ht hx (h.tmp b)
      exact step x u hu hr hl
theorem yd6 (hT : TOk C P) (h : Rel P w0 lent H0 s a w G) {rs : List ResultVar} {ks : List RK} {l : List A} (hl : yrS C s rs ks = some l) :
  ∃ b off vs1 vs2 c2 q cs r ks', (rs.mapM (y1A a.tmps)).run P w = .ok (.pointer (some ⟨b, off, none⟩) :: c2) w ∧ RL G l (vs1 ++ vs2) ∧ ks = r :: ks' ∧ vs1.length = r.ts.length ∧ (∀ rest, Qq ks' (vs2 ++ rest) c2 rest) ∧ y3U w b off vs1 ∧ z4 s.o q = some (.box cs) ∧ G.g q = (b, off) ∧ (q < 900 ∨ 950 ≤ q) := by
 unfold yrS at hl
 split at hl
 ·rename_i t rs' k ks'
  split at hl
  ·rename_i q off hq
   split at hl
   ·rename_i cs hcs
    cases hb : Nat.beq off 0 && Nat.beq cs.length k.ts.length && (Nat.blt q 900 || Nat.ble 950 q) with
    | false => simp [hb] at hl
    | true =>
     simp only [hb, cond_true] at hl
     cases hrl : ybg C s rs' ks' with
     | none => simp [hrl] at hl
     | some l' =>
     simp only [hrl, Option.some.injEq] at hl
     subst hl
     obtain ⟨cz, vs2, d1, d2, d3⟩ := y5L hT h rs' ks' l' hrl
     simp only [Bool.and_eq_true, Bool.or_eq_true] at hb
     have ho := Nat.eq_of_beq_eq_true hb.1.1
     have hlen := Nat.eq_of_beq_eq_true hb.1.2
     subst ho
     have hro := h.objs q _ hcs
     obtain ⟨vs3, c1, c2, c3, c4⟩ := y1o (G := G) cs (fun j => w.cell? ⟨(G.g q).1, (G.g q).2 + j, none⟩) (fun j c hc => (hro.2 j c hc).2)
     refine ⟨(G.g q).1, (G.g q).2, vs3, vs2, cz, q, cs, k, ks', ?_, RL.append c4 d2, rfl, by rw [c1, hlen], d3, ⟨hro.1, fun j u hu => ?_⟩, hcs, rfl, ?_⟩
     ·have := h.tmp t
      rw [hq] at this
      have hv : a.tmps.getD t undef = .pointer (some ⟨(G.g q).1, (G.g q).2 + 0, none⟩) := this
      rw [List.mapM_cons]
      simp [y1A, hv, d1]
     ·have hj : j < cs.length := by
       have := (List.getElem?_eq_some_iff.1 hu).1
       omega
      exact ⟨(hro.2 j _ (List.getElem?_eq_getElem hj)).1, c2 j u hu, c3 u (List.mem_of_getElem? hu)⟩
     ·rcases hb.2 with h1 | h1
      ·exact .inl (kD h1)
      ·exact .inr (Nat.le_of_ble_eq_true h1)
   ·cases hl
  ·cases hl
 ·cases hl
theorem ya7 (h : Rel P w0 lent H0 s a w G) : ∀ (ps : List PK) (i : Nat) (l : List A) (args vs : List Value) (pb : List (Nat × Nat)) (w1 : World), y2V s ps i = some l → VY w1 ps args vs pb → (∀ j, 900 + i ≤ j → H0.pin j = VX ps pb i j) → ∃ vs2, RL G l vs2 ∧ y0C w ps pb vs2 := by
 intro ps
 induction ps with
 | nil =>
  intro i l args vs pb w1 hb hs hp
  simp only [y2V, Option.some.injEq] at hb
  subst hb
  obtain ⟨_, _, rfl⟩ := hs
  exact ⟨[], trivial, rfl, rfl⟩
 | cons p ps ih =>
  intro i l args vs pb w1 hb hs hp
  cases p with
  | v agg ts os =>
   obtain ⟨arg, vs1, args', vs', _, _, _, _, hs'⟩ := hs
   exact ih (i + 1) l args' vs' pb w1 hb hs' (fun j hj => hp j (by omega))
  | k f =>
   obtain ⟨args', _, hs'⟩ := hs
   exact ih (i + 1) l args' vs pb w1 hb hs' (fun j hj => hp j (by omega))
  | p wr ts os =>
   obtain ⟨b, off, vs1, args', vs', pb', _, _, _, rfl, _, hs'⟩ := hs
   simp only [y2V] at hb
   cases hl : z4 s.o (900 + i) with
   | none => simp [hl] at hb
   | some ob =>
    cases ob with
    | box cs =>
     cases hr : y2V s ps (i + 1) with
     | none => simp [hl, hr] at hb
     | some l' =>
      simp only [hl, hr] at hb
      cases hbe : Nat.beq cs.length ts.length with
      | false => simp [hbe] at hb
      | true =>
       simp only [hbe, cond_true, Option.some.injEq] at hb
       subst hb
       obtain ⟨vs2, h1, h2⟩ := ih (i + 1) l' args' vs' pb' w1 hr hs' (fun j hj => by
        rw [hp j (by omega)]
        simp [VX, show ¬ j = 900 + i by omega])
       have hpin : H0.pin (900 + i) = some (b, off) := by
        rw [hp (900 + i) (by omega)]
        simp [VX]
       have hg := h.pin (900 + i) _ _ hl hpin
       have hro := h.objs (900 + i) _ hl
       rw [RO, hg] at hro
       obtain ⟨vs3, c1, c2, c3, c4⟩ := y1o (G := G) cs (fun j => w.cell? ⟨b, off + j, none⟩) (fun j c hc => (hro.2 j c hc).2)
       refine ⟨vs3 ++ vs2, RL.append c4 h1, b, off, pb', vs3, vs2, rfl, rfl, by rw [c1]; exact Nat.eq_of_beq_eq_true hbe, ⟨hro.1, fun j u hu => ?_⟩, h2⟩
       have hj : j < cs.length := by
        have := (List.getElem?_eq_some_iff.1 hu).1
        omega
       exact ⟨(hro.2 j _ (List.getElem?_eq_getElem hj)).1, c2 j u hu, c3 u (List.mem_of_getElem? hu)⟩
    | _ => simp [hl] at hb
theorem yee (h : Rel P w0 lent H0 s a w G) : ∀ (ps : List PK) (i : Nat) (l : List A) (args vs : List Value) (pb : List (Nat × Nat)) (w1 : World), y2V s ps i = some l → VY w1 ps args vs pb → (∀ j, 900 + i ≤ j → H0.pin j = VX ps pb i j) → ∀ p ∈ pb, ∃ j cs, z4 s.o j = some (.box cs) ∧ G.g j = p ∧ 900 ≤ j ∧ j < 900 + i + ps.length := by
 intro ps
 induction ps with
 | nil =>
  intro i l args vs pb w1 hb hs hp p hpm
  obtain ⟨_, _, rfl⟩ := hs
  simp at hpm
 | cons q ps ih =>
  intro i l args vs pb w1 hb hs hp p hpm
  cases q with
  | v agg ts os =>
   obtain ⟨arg, vs1, args', vs', _, _, _, _, hs'⟩ := hs
   obtain ⟨j, cs, a1, a2, a3, a4⟩ := ih (i + 1) l args' vs' pb w1 hb hs' (fun j hj => hp j (by omega)) p hpm
   exact ⟨j, cs, a1, a2, a3, by simp only [List.length_cons]; omega⟩
  | k f =>
   obtain ⟨args', _, hs'⟩ := hs
   obtain ⟨j, cs, a1, a2, a3, a4⟩ := ih (i + 1) l args' vs pb w1 hb hs' (fun j hj => hp j (by omega)) p hpm
   exact ⟨j, cs, a1, a2, a3, by simp only [List.length_cons]; omega⟩
  | p wr ts os =>
   obtain ⟨b, off, vs1, args', vs', pb', _, _, _, rfl, _, hs'⟩ := hs
   simp only [y2V] at hb
   cases hl : z4 s.o (900 + i) with
   | none => simp [hl] at hb
   | some ob =>
    cases ob with
    | box cs =>
     cases hr : y2V s ps (i + 1) with
     | none => simp [hl, hr] at hb
     | some l' =>
      have hpin : H0.pin (900 + i) = some (b, off) := by
       rw [hp (900 + i) (by omega)]
       simp [VX]
      rcases List.mem_cons.1 hpm with rfl | hpm
      ·exact ⟨900 + i, cs, hl, h.pin (900 + i) _ _ hl hpin, by omega, by simp only [List.length_cons]; omega⟩
      ·obtain ⟨j, cs, a1, a2, a3, a4⟩ := ih (i + 1) l' args' vs' pb' w1 hr hs' (fun j hj => by
        rw [hp j (by omega)]
        simp [VX, show ¬ j = 900 + i by omega]) p hpm
       exact ⟨j, cs, a1, a2, a3, by simp only [List.length_cons]; omega⟩
    | _ => simp [hl] at hb
theorem ygf (hT : TOk C P) (hm : P.follows .mixedOrders = true) (hCA : qG C P call) {f g : Nat} (hfid : C.fid f = g) {fn : Func} {c : Code} {sg : Sig} (hfn : P.funcs[g]? = some fn) (hname : fn.name ≠ "runtime.NumGoroutine") (hbody : fn.body = some c) (hsig : C.sig f = some sg) (hout : yec c = true) {lp : Lp} (hloops : ∀ c' ∈ jn c, y2K C call lp f c')
  (hlen : sg.ps.length ≤ 50) (hnt : sg.ps.length ≤ fn.ntmps) {F : z8 (C.ins f) → Option (z8 (C.outs f))} (hF : ∀ x y, F x = some y → yfJ C call lp f fn c sg (C.ins f) (C.outs f) x = some y) : jY C P f F := by
 intro sg' x y hsig' hy w H args vs bs pb hgl hH hc ha hs hp hx hd
 rw [hsig] at hsig'
 injection hsig' with hsig'
 subst hsig'
 have he := hF x y hy
 rw [hfid]
 refine y1u hfn hname (by rw [hbody]; simp) (calls_of_wp hfn hbody ?_)
 have hal : args.length = sg.ps.length := by
  have : ∀ (ps : List PK) (args vs : List Value) (pb : List (Nat × Nat)), VY w ps args vs pb → args.length = ps.length := by
   intro ps
   induction ps with
   | nil =>
    intro args vs pb h
    rw [h.1]
    rfl
   | cons p ps ih =>
    intro args vs pb h
    cases p with
    | v agg ts os =>
     obtain ⟨arg, vs1, args', vs', rfl, _, _, _, hs'⟩ := h
     simp [ih _ _ _ hs']
    | k f =>
     obtain ⟨args', rfl, hs'⟩ := h
     simp [ih _ _ _ hs']
    | p wr ts os =>
     obtain ⟨b, off, vs1, args', vs', pb', rfl, _, _, _, _, hs'⟩ := h
     simp [ih _ _ _ hs']
  exact this _ _ _ _ hs
 obtain ⟨G, hG, hrel⟩ := y9W (P := P) sg fn.ntmps (C.ins f) x hH hc ha hs hp hx hd hlen (by omega)
 have fin : ∀ (e : Exit) (s : St) (a : Act) (w' : World) (G : Gh), (e = .normal ∨ e = .ret) → ybh C sg fn.results.toList (C.outs f) s = some y → Rel P w (qy (W4 sg bs) pb) ⟨H, VX sg.ps pb 0, fun i b h => by have := wV sg.ps pb 0 i b h; omega, y5w sg w bs⟩ s a w' G →
   bodyPost P fn (fun e w' => ∃ v, e = .returned v ∧ ∃ H' vs' cs rest bs', Left w (qy (W4 sg bs) pb) H sg (C.outs f) y pb v w' H' vs' cs rest bs') e a w' := by
  intro e s a w' G hend hfin h
  unfold ybh at hfin
  cases h1 : (bif sg.ptr then yrS C s fn.results.toList sg.rs else ybg C s fn.results.toList sg.rs) with
  | none => simp [h1] at hfin
  | some l =>
   cases h2 : y2V s sg.ps 0 with
   | none => simp [h1, h2] at hfin
   | some l2 =>
    simp only [h1, h2] at hfin
    cases h3 : VT (z4 s.o) (C.outs f) sg.owns (l ++ l2) with
    | none =>
     rw [h3] at hfin
     cases hfin
    | some q =>
     obtain ⟨y', is, gs⟩ := q
     rw [h3] at hfin
     dsimp only at hfin
     cases hb : y1h gs && y0z gs is with
     | false => simp [hb] at hfin
     | true =>
      simp only [hb, cond_true, Option.some.injEq] at hfin
      subst hfin
      simp only [Bool.and_eq_true] at hb
      have hng := y0k hb.1
      have hgi := vp hb.2
      obtain ⟨cs, vs1, r1, r2, r3⟩ : ∃ cs vs1, (fn.results.toList.mapM (y1A a.tmps)).run P w' = .ok cs w' ∧ RL G l vs1 ∧ ∀ rest, ∃ nb, ycU w' sg (vs1 ++ rest) cs rest (y2B cs) nb ∧ ∀ k, nb = some k → ∃ q cq, z4 s.o q = some (.box cq) ∧ (G.g q).1 = k ∧ (q < 900 ∨ 950 ≤ q) := by
       cases hptr : sg.ptr with
       | false =>
        rw [hptr, cond_false] at h1
        obtain ⟨cs, vs1, r1, r2, r3⟩ := y5L hT h _ _ _ h1
        refine ⟨cs, vs1, r1, r2, fun rest => ⟨none, ?_, fun k hk => by cases hk⟩⟩
        unfold ycU
        rw [hptr]
        exact ⟨rfl, r3 rest, rfl⟩
       | true =>
        rw [hptr, cond_true] at h1
        obtain ⟨b, off, vs1, vs2, c2, q, cq, r, ks', r1, r2, r3, r4, r9, r5, r6, r7, r8⟩ := yd6 hT h h1
        refine ⟨_, vs1 ++ vs2, r1, r2, fun rest => ⟨some b, ?_, fun k hk => ⟨q, cq, r6, by rw [r7]; injection hk, r8⟩⟩⟩
        unfold ycU
        rw [hptr]
        exact ⟨r, ks', b, off, vs1, vs2 ++ rest, c2, rfl, r3, by rw [List.append_assoc], r4, r9 rest, rfl, r5⟩
      obtain ⟨vs2, b1, b2⟩ := ya7 h sg.ps 0 l2 args vs pb w h2 hs (fun j _ => rfl)
      have hptr := yee h sg.ps 0 l2 args vs pb w h2 hs (fun j _ => rfl)
      obtain ⟨G1, hgr, hr1, hset⟩ := Rel.settles (y4T.rows (fun _ _ h => h)) h is
      obtain ⟨bs', t1, t2, t3⟩ := y5u h (fun _ _ h => h) hgr (C.outs f) sg.owns (l ++ l2) y' is gs h3 hset hng (vs1 ++ vs2) (RL.append r2 b1)
      have hres := y8y r1
      have hroot : ∀ i ∈ zh (Go.Proofs.YtgediecndaheiaaGreat.R.settles (z4 s.o) is), ∃ ob e ts xs, z4 s.o i = some ob ∧ Rw ob e ts xs := fun i hi => Vn _ is i hi
      have hmem' : ∀ {i : Nat} {X : List Nat}, i ∉ X → Vi X i = false := fun {i X} hi => by
       cases hm : Vi X i with
       | false => rfl
       | true => exact absurd (JV.1 hm) hi
      have hbox1 : ∀ j cs, z4 s.o j = some (.box cs) → z4 (s.setAll (Go.Proofs.YtgediecndaheiaaGreat.R.settles (z4 s.o) is)).o j = some (.box cs) := fun j cs hl => by
       rw [ZI _ _ (hmem' fun hi => ?_)]
       ·exact hl
       ·obtain ⟨ob, e, ts, xs, hr, hw⟩ := hroot _ hi
        rw [hl] at hr
        injection hr with hr
        subst hr
        rcases hw with ⟨_, hw⟩ | hw <;> cases hw
      have hptr1 : ∀ p ∈ pb, ∃ j cs, z4 (s.setAll (Go.Proofs.YtgediecndaheiaaGreat.R.settles (z4 s.o) is)).o j = some (.box cs) ∧ G1.g j = p ∧ 900 ≤ j ∧ j < 950 := fun p hpm => by
       obtain ⟨j, cs, hl, hg, hj1, hj2⟩ := hptr p hpm
       exact ⟨j, cs, hbox1 j cs hl, by rw [hgr.g]; exact hg, hj1, by omega⟩
      obtain ⟨nb, rr1, rr2⟩ := r3 vs2
      have hleft : Left w (qy (W4 sg bs) pb) H sg (C.outs f) y' pb (y2B cs) w' G1.H (vs1 ++ vs2) cs vs2 bs' := by
       refine ⟨hr1.os, hr1.tape, hr1.output, hr1.size, hr1.old, hr1.inH, hr1.hnew, t1, t3, fun k hk => ?_, fun p hpm => ?_, ⟨nb, rr1, fun k hk => ?_⟩, b2⟩
       ·obtain ⟨q, hq, obq, hl, hbq⟩ := t2 k hk
        have hl1 : z4 (s.setAll (Go.Proofs.YtgediecndaheiaaGreat.R.settles (z4 s.o) is)).o q = some obq := by
         rw [ZI _ _ (hmem' fun hi => hgi q hq (W5 _ is q hi))]
         exact hl
        have hb1 : zR G1 q obq k := by
         rw [vd hgr.g hgr.sv]
         exact hbq
        obtain ⟨a1, a2⟩ := hr1.away q _ k hl1 hb1
        refine ⟨a1, a2, fun p hpm he => ?_⟩
        obtain ⟨j, cs', hlj, hgj, _⟩ := hptr1 p hpm
        have := hr1.apart j q _ _ k hlj hl1 (by rw [← he, ← hgj]; rfl) hb1
        rw [this, hl1] at hlj
        injection hlj with hlj
        obtain ⟨ob9, o1, o2⟩ := y3X sg.owns _ _ _ _ h3 q hq
        rw [hl] at o1
        injection o1 with o1
        rw [← o1, hlj] at o2
        exact o2.box
       ·obtain ⟨j, cs', hlj, hgj, _⟩ := hptr1 p hpm
        have hb1 : zR G1 j (.box cs') p.1 := by rw [← hgj]; rfl
        exact (hr1.away j _ _ hlj hb1).1
       ·obtain ⟨q, cq, q1, q2, q3⟩ := rr2 k hk
        have q4 := hbox1 q cq q1
        have q5 : zR G1 q (.box cq) k := by
         show (G1.g q).1 = k
         rw [hgr.g, q2]
        obtain ⟨a1, a2⟩ := hr1.away q _ k q4 q5
        refine ⟨a1, a2, fun hkb => ?_, fun p hpm he => ?_⟩
        ·obtain ⟨q', hq', obq, hl, hbq⟩ := t2 k hkb
         have hl1 : z4 (s.setAll (Go.Proofs.YtgediecndaheiaaGreat.R.settles (z4 s.o) is)).o q' = some obq := by
          rw [ZI _ _ (hmem' fun hi => hgi q' hq' (W5 _ is q' hi))]
          exact hl
         have hb1 : zR G1 q' obq k := by
          rw [vd hgr.g hgr.sv]
          exact hbq
         have := hr1.apart q q' _ _ k q4 hl1 q5 hb1
         rw [this, hl1] at q4
         injection q4 with q4
         obtain ⟨ob9, o1, o2⟩ := y3X sg.owns _ _ _ _ h3 q' hq'
         rw [hl] at o1
         injection o1 with o1
         rw [← o1, q4] at o2
         exact o2.box
        ·obtain ⟨j, cs', hlj, hgj, hj1, hj2⟩ := hptr1 p hpm
         have := hr1.apart j q _ _ k hlj q4 (by rw [← he, ← hgj]; rfl) q5
         omega
      rcases hend with rfl | rfl <;> exact ⟨h.defers, _, hres, _, rfl, _, _, _, _, _, hleft⟩
 refine yd5 hT (hCA.from (H0 := ⟨H, VX sg.ps pb 0, fun i b h => by have := wV sg.ps pb 0 i b h; omega, y5w sg w bs⟩) hgl) hm c _ _ _ _ _ _ _ _ hout hloops hrel he (fun s' a' w' G' h1 h2 => fin _ s' a' w' G' (.inl rfl) h1 h2) ⟨fun i s a w G h1 _ => ?_, fun s a w G h1 h2 => fin _ s a w G (.inr rfl) h1 h2⟩
 cases h1
end Go.Proofs.YtgediecndaheiaaGreat.R
