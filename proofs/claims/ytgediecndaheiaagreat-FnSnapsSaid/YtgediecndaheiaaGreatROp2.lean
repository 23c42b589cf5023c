/- More operations. Conditions: the types lie as the context says. -/
import Derived.Test.YtgediecndaheiaaGreatRPut
set_option linter.all false
namespace Go.Proofs.YtgediecndaheiaaGreat.R
open Go.RowKit
variable {P : Program} {C : Ctx} {w0 : World} {lent : Nat → Prop} {H0 : Base} {s : St} {a : Act} {w : World} {G : Gh} {o : Oper} {K : Act → World → Prop} {Q : Exit → Act → World → Prop} {R : Type} {k : Eff → Option R} {r : R} {lk : Lk} {call : C.Sem} {ct wn : Bool}
theorem ysu (h : Rel P w0 lent H0 s a w G) {lo : Option Operand} {kk : IntKind} {l : Int} (hl : loA s.opd lo = .val (.int kk) l) : yrT (lo.map a.eval) l := by
 cases lo with
 | none =>
  simp only [loA, hiA] at hl
  injection hl with h1 h2
  injection h1 with h1
  subst h1
  exact .inl ⟨rfl, h2.symm⟩
 | some x =>
  have hx := h.opd x
  have hl' : s.opd x = .val (.int kk) l := hl
  rw [hl'] at hx
  exact .inr ⟨kk, by rw [Option.map_some, show a.eval x = .int kk l from hx]⟩
theorem yfW (h : Rel P w0 lent H0 s a w G) {hi : Option Operand} {kk : IntKind} {m : Int} {n : Int} {len : Nat} (hn : n = len) (hl : hiA s.opd hi n = .val (.int kk) m) : yrU (hi.map a.eval) m len := by
 cases hi with
 | none =>
  simp only [loA, hiA] at hl
  injection hl with h1 h2
  injection h1 with h1
  subst h1
  exact .inl ⟨rfl, by rw [← hn]; exact h2.symm⟩
 | some x =>
  have hx := h.opd x
  have hl' : s.opd x = .val (.int kk) m := hl
  rw [hl'] at hx
  exact .inr ⟨kk, by rw [Option.map_some, show a.eval x = .int kk m from hx]⟩
theorem v6 (s : St) {q d : Nat} (hne : q ≠ d) (ob : Ob) : (s.set q .gone).make d ob = (s.make d ob).set q .gone := by
 have key : ∀ l : List (Nat × Ob), Yk d (qW l q .gone) = qW (Yk d l) q .gone := by
  intro l
  induction l with
  | nil => rfl
  | cons p l ih =>
   obtain ⟨j, x⟩ := p
   by_cases hj : j = q
   ·subst hj
    simp [qW, Yk, yw, yF hne, Ob.forget]
   ·by_cases hd : j = d
    ·subst hd
     simp [qW, Yk, yw, yF hj, ih]
    ·simp [qW, Yk, yF hj, yF hd, ih]
 simp [St.set, St.make, key, qW, yF (fun e : d = q => hne e.symm)]
theorem yfX (hT : TOk C P) (h : Rel P w0 lent H0 s a w G) (hK : y2y P w0 lent H0 s o k r K) (hout : Out o) (hlk : y4T lk s) {t : Nat} {x : Operand} {lo hi : Option Operand} (hop : o.op = .slice t x lo hi none) (he : jG C call ct wn o s.opd lk k = some r) : o.wp P a w K Q := by
 have hx := h.opd x
 simp only [jG, hop] at he
 split at he
 ·rename_i l0 k1 l hlo
  have hlo' := ysu h hlo
  split at he
  ·rename_i n hn
   split at he
   ·rename_i k2 m hhi
    split at he
    ·rename_i h0
     split at he
     ·rename_i h1
      split at he
      ·rename_i h2
       split at he
       ·
        rename_i b xv ht hxa
        rw [hxa] at hx hn
        have hnn : n = (ByteArray.size xv : Nat) := by
         have := hn
         simp only [ycB, Option.some.injEq] at this
         exact this.symm
        subst hnn
        have hhi' := yfW h rfl hhi
        refine Wm h hK he (v := .string (ByteArray.extract xv (Int.toNat l) (Int.toNat m))) ?_ rfl
        simp only [execOp, hop, Option.map_none]
        rw [show a.eval x = .string xv from hx, Sem.run_bind, ydO hT ht xv hlo' hhi' h0 h1 h2]
        rfl
       ·
        rename_i e2 us b e ts xs ht hxa
        rw [hxa] at hx hn
        have hnn : n = (List.length xs : Nat) := by
         have := hn
         simp only [ycB, y9x, Option.some.injEq] at this
         exact this.symm
        subst hnn
        have hhi' := yfW h rfl hhi
        cases hb : Nat.beq us.length ts.length with
        | false => simp [hb] at he
        | true =>
         simp only [hb, cond_true] at he
         have hx' : RdT G.H (.sl e ts) xs (a.eval x) := hx
         obtain ⟨A, c, hv, hc, hm, hrd⟩ := id hx'
         rw [hv] at hx'
         have hcut := yhW hx' (l := Int.toNat l) (h := Int.toNat m) (by omega) (by omega)
         refine Wm h hK he ?_ hcut
         simp only [execOp, hop, Option.map_none]
         rw [hv, Sem.run_bind, VW hT ht A _ c hlo' hhi' h0 h1 h2 hc, Nat.eq_of_beq_eq_true hb]
         rfl
       ·
        rename_i e2 us b e ts xs ht hxa
        rw [hxa] at hx hn
        have hnn : n = (List.length xs : Nat) := by
         have := hn
         simp only [ycB, y9x, Option.some.injEq] at this
         exact this.symm
        subst hnn
        have hhi' := yfW h rfl hhi
        cases hb : Nat.beq us.length ts.length with
        | false => simp [hb] at he
        | true =>
         simp only [hb, cond_true] at he
         have hx' : RdR G.H G.pv ts xs (a.eval x) := hx
         obtain ⟨A, c, hv, hc, hm, hrd⟩ := id hx'
         rw [hv] at hx'
         have hcut := ydP hx' (l := Int.toNat l) (h := Int.toNat m) (by omega) (by omega)
         refine Wm h hK he ?_ hcut
         simp only [execOp, hop, Option.map_none]
         rw [hv, Sem.run_bind, VW hT ht A _ c hlo' hhi' h0 h1 h2 hc, Nat.eq_of_beq_eq_true hb]
         rfl
       ·
        rename_i e2 us b q ht hxa
        rw [hxa] at hx hn
        cases hq : lk q with
        | none => simp [hq] at he
        | some ob =>
         cases ob with
         | root own e ts xs =>
          simp only [hq] at he
          have hnn : n = (List.length xs : Nat) := by
           have := hn
           simp only [ycB, y9x, hq, Option.some.injEq] at this
           exact this.symm
          subst hnn
          have hhi' := yfW h rfl hhi
          cases hb : Nat.beq us.length ts.length with
          | false => simp [hb] at he
          | true =>
           simp only [hb, cond_true] at he
           obtain ⟨_, _, ⟨A, c, hsv, hc, hm, _⟩, _⟩ := qE h (hlk q _ hq)
           cases hcut0 : ct && own && yfH lo with
           | true =>
            simp only [hcut0, cond_true] at he
            simp only [Bool.and_eq_true] at hcut0
            cases hd : o.dst with
            | none => simp [hd] at he
            | some d =>
             simp only [hd] at he
             cases hqd0 : Nat.beq q d with
             | true => simp [hqd0] at he
             | false =>
              simp only [hqd0, cond_false] at he
              have hqd : q ≠ d := fun e => by
               subst e
               rw [yw] at hqd0
               cases hqd0
              have hown1 : own = true := hcut0.1.2
              subst hown1
              have hl0 : Int.toNat l = 0 := by
               cases lo with
               | none =>
                simp only [loA] at hlo
                cases hlo
                rfl
               | some _ => simp [yfH] at hcut0
              have hlq := hlk q _ hq
              obtain ⟨_, hpos, cells, hown, hone, hblk, hrd⟩ := h.objs q _ hlq
              have hgone := h.gone q
              have hfree : ∀ k, (G.sv q).ownBlock = some k → VQ w0 lent (s.set q .gone) G k := fun k hk => Kx h hlq hk
              have hmn : Int.toNat m ≤ xs.length := by omega
              have hlen : (xs.take (Int.toNat m)).length = Int.toNat m := by rw [List.length_take]; omega
              have hrow : w.ownsRow 0 e ts.length (.slice (if c = Int.toNat l then A else A.map (·.add (Int.toNat l * ts.length))) (Int.toNat m - Int.toNat l) (c - Int.toNat l)) (xs.take (Int.toNat m)).length (cells.take (Int.toNat m * ts.length)) ∧
                ∀ k, (Value.slice (if c = Int.toNat l then A else A.map (·.add (Int.toNat l * ts.length))) (Int.toNat m - Int.toNat l) (c - Int.toNat l)).ownBlock = some k → (G.sv q).ownBlock = some k := by
               rw [hlen, hl0]
               have hmm : Int.toNat m * ts.length ≤ xs.length * ts.length := Nat.mul_le_mul_right _ hmn
               have hcl := hown.1
               rcases hown.2 with ⟨hv, hn0⟩ | ⟨g, cap, cur, hv, hb0, hg, hnc, hcm, hcs, htk⟩
               ·rw [hsv] at hv
                injection hv with hA _ hc0
                subst hA hc0
                have hm0 : Int.toNat m = 0 := by omega
                rw [hm0]
                refine ⟨⟨by simp, .inl ⟨by simp, rfl⟩⟩, fun k hk => ?_⟩
                simp [Value.ownBlock] at hk
               ·rw [hsv] at hv
                injection hv with hA _ hc0
                subst hA hc0
                have hadd : (if c = 0 then (some (⟨g, 0, none⟩ : Addr)) else (some (⟨g, 0, none⟩ : Addr)).map (·.add (0 * ts.length))) = some ⟨g, 0, none⟩ := by
                 split
                 ·rfl
                 ·simp [Addr.add]
                rw [hadd]
                refine ⟨⟨by rw [List.length_take]; omega, .inr ⟨g, c, cur, by simp, hb0, hg, by omega, hcm, hcs, ?_⟩⟩, fun k hk => by rw [hsv]; exact hk⟩
                rw [← htk, List.take_take, Nat.min_eq_left hmm]
              obtain ⟨G', _, hrel, hra⟩ := hgone.newRoot d (H0.none (hout d hd)) (e := e) (ts := ts) (xs := xs.take (Int.toNat m)) (w' := w) rfl rfl rfl (Nat.le_refl _) (fun k _ => .inl rfl) hpos hrow.1 (fun u hu => hone u (List.mem_of_mem_take hu)) (fun k hk => hfree k (hrow.2 k hk))
               (fun j x hx => by
                have hj : j < Int.toNat m := by
                 have := (List.getElem?_eq_some_iff.1 hx).1
                 rw [hlen] at this
                 exact this
                rw [List.getElem?_take, if_pos hj] at hx
                refine RdE.ext ts x _ _ (fun k v hk hv => ?_) (hrd j x hx)
                have hjm : j * ts.length + k < Int.toNat m * ts.length := by
                 have := Nat.mul_le_mul_right ts.length (show j + 1 ≤ Int.toNat m by omega)
                 rw [Nat.add_mul] at this
                 omega
                rw [List.getElem?_take, if_pos hjm]
                exact hv)
              refine jo (v := .slice (if c = Int.toNat l then A else A.map (·.add (Int.toNat l * ts.length))) (Int.toNat m - Int.toNat l) (c - Int.toNat l)) (w' := w) ?_ (hK _ _ _ G' he ?_)
              ·simp only [execOp, hop, Option.map_none]
               rw [hx.1, hsv, Sem.run_bind, VW hT ht A _ c hlo' hhi' h0 h1 h2 hc, Nat.eq_of_beq_eq_true hb]
               rfl
              ·have := hrel.put o.dst hra
               rw [v6 s hqd, hd] at this
               simpa [St.apply, St.makeAll, St.setAll, hd] using this
           | false =>
           simp only [hcut0, cond_false] at he
           cases hwin : wn && own && yfH lo with
           | true =>
            simp only [hwin, cond_true] at he
            simp only [Bool.and_eq_true] at hwin
            have hl0 : Int.toNat l = 0 := by
             cases lo with
             | none =>
              simp only [loA] at hlo
              cases hlo
              rfl
             | some _ => simp [yfH] at hwin
            have hadd : (if c = 0 then A else A.map (·.add (0 * ts.length))) = A := by
             split
             ·rfl
             ·rw [Nat.zero_mul]
              cases A <;> rfl
            have hrun := VW (P := P) (w := w) hT ht A (List.length xs) c hlo' hhi' h0 h1 h2 hc
            refine Wm h hK he (v := .slice A (Int.toNat m) c) ?_ ⟨A, _, c, hsv, rfl, by omega⟩
            simp only [execOp, hop, Option.map_none]
            rw [hx.1, hsv, Sem.run_bind, hrun, Nat.eq_of_beq_eq_true hb, hl0, hadd, Nat.sub_zero, Nat.sub_zero]
            rfl
           | false =>
           simp only [hwin, cond_false] at he
           cases htl : wn && own && yfH hi with
           | true =>
            simp only [htl, cond_true] at he
            simp only [Bool.and_eq_true] at htl
            have hm0 : Int.toNat m = List.length xs := by
             cases hi with
             | none =>
              simp only [hiA] at hhi
              cases hhi
              exact Int.toNat_natCast _
             | some _ => simp [yfH] at htl
            have hszq : (G.sz q).1 = ts.length := by
             have := h.objs q _ (hlk q _ hq)
             cases own with
             | true => exact congrArg Prod.fst this.1
             | false => exact congrArg Prod.fst this.1
            have hrun := VW (P := P) (w := w) hT ht A (List.length xs) c hlo' hhi' h0 h1 h2 hc
            refine Wm h hK he (v := .slice (if c = Int.toNat l then A else A.map (·.add (Int.toNat l * (G.sz q).1))) (List.length xs - Int.toNat l) (c - Int.toNat l)) ?_ ⟨A, _, c, hsv, by omega, rfl⟩
            simp only [execOp, hop, Option.map_none]
            rw [hx.1, hsv, Sem.run_bind, hrun, Nat.eq_of_beq_eq_true hb, hm0, hszq]
            rfl
           | false =>
           simp only [htl, cond_false] at he
           have hset : ∃ G1, Grown G G1 ∧ Rel P w0 lent H0 (s.setAll (bif own then [(q, .root false e ts xs)] else [])) a w G1 ∧ RdT G1.H (.sl e ts) xs (G1.sv q) := by
            cases own with
            | true =>
             obtain ⟨G1, hg1, hr1, hrd⟩ := h.settle (hlk q _ hq)
             exact ⟨G1, hg1, by simpa [St.setAll] using hr1, hrd⟩
            | false => exact ⟨G, Grown.refl G, by simpa [St.setAll] using h, (h.objs q _ (hlk q _ hq)).2.2.1⟩
           obtain ⟨G1, hg1, hr1, hrd⟩ := hset
           rw [hg1.sv, hsv] at hrd
           have hcut := yhW hrd (l := Int.toNat l) (h := Int.toNat m) (by omega) (by omega)
           refine jo (v := .slice (if c = Int.toNat l then A else A.map (·.add (Int.toNat l * ts.length))) (Int.toNat m - Int.toNat l) (c - Int.toNat l)) (w' := w) ?_ (hK _ _ _ G1 he ?_)
           ·simp only [execOp, hop, Option.map_none]
            rw [hx.1, hsv, Sem.run_bind, VW hT ht A _ c hlo' hhi' h0 h1 h2 hc, Nat.eq_of_beq_eq_true hb]
            rfl
           ·have := hr1.put o.dst (x := .val (.sl e ts) ((xs.take (Int.toNat m)).drop (Int.toNat l))) hcut
            simpa [St.apply, St.makeAll] using this
         | _ => simp [hq] at he
       ·cases he
      ·cases he
     ·cases he
    ·cases he
   ·cases he
  ·cases he
 ·cases he
theorem ylZ (h : Rel P w0 lent H0 s a w G) (hK : y2y P w0 lent H0 s o k r K) {c : Call} {x y : Operand} (hop : o.op = .call c) (hc : c.callee = .builtin .min) (hx : c.args.toList = [x, y]) (he : jG C call ct wn o s.opd lk k = some r) : o.wp P a w K Q := by
 have h1 := h.opd x
 have h2 := h.opd y
 simp only [jG, hop, hc, hx] at he
 split at he
 ·rename_i k1 n k2 m hxa hya
  rw [hxa] at h1
  rw [hya] at h2
  split at he
  ·rename_i hk
   subst hk
   refine Wm h hK he (v := .int k1 (if (show Int from m) < (show Int from n) then m else n)) ?_ rfl
   have e1 : c.args = #[x, y] := by rw [← Array.toArray_toList (xs := c.args), hx]
   simp [execOp, hop, resolve, hc, invoke, builtin, e1, Builtin.min_, Builtin.min2, show a.eval x = .int k1 n from h1, show a.eval y = .int k1 m from h2]
  ·cases he
 ·cases he
end Go.Proofs.YtgediecndaheiaaGreat.R
