/- Structs are built; rows that are not there stand for rows without elements. Condition: the types lie as the context says. -/
import Derived.Test.YtgediecndaheiaaGreatRCall2
set_option linter.all false
namespace Go.Proofs.YtgediecndaheiaaGreat.R
open Go.RowKit
variable {P : Program} {C : Ctx} {w0 : World} {lent : Nat → Prop} {H0 : Base} {s : St} {a : Act} {w : World} {G : Gh} {o : Oper} {K : Act → World → Prop} {Q : Exit → Act → World → Prop} {R : Type} {k : Eff → Option R} {r : R} {lk : Lk} {call : C.Sem} {ct wn : Bool}
theorem ybq : ∀ (ts : List Ty) (l : List A) (n : Nat), (∀ i ∈ zh (wU ts l n).2, n ≤ i ∧ i < n + ts.length)
 | [], l, n => by cases l <;> simp [wU, zh]
 | t :: ts, [], n => by cases t <;> simp [wU, zh]
 | t :: ts, x :: l, n => by
  intro i hi
  have ih := ybq ts l (n + 1)
  have hc : i = n ∨ i ∈ zh (wU ts l (n + 1)).2 := by
   cases t <;> cases x <;> try exact .inr hi
   rename_i e us
   simp only [wU] at hi
   cases hb : y7Z us && Nat.blt 0 us.length with
   | false =>
    simp only [hb, cond_false] at hi
    exact .inr hi
   | true =>
    simp only [hb, cond_true, zh, List.mem_cons] at hi
    exact hi
  rw [List.length_cons]
  rcases hc with rfl | hc
  ·omega
  ·have := ih i hc
   omega
theorem y29 : ∀ (ts : List Ty) (l : List A) (vs : List Value) (n : Nat) (s : St) (G : Gh), Rel P w0 lent H0 s a w G → RL G l vs → 950 ≤ n → (∀ j ∈ zh (wU ts l n).2, j ∉ jk l) →
  ∃ G', G'.H = G.H ∧ Rel P w0 lent H0 (s.makeAll (wU ts l n).2) a w G' ∧ RL G' (wU ts l n).1 vs ∧ ∀ j, j ∉ zh (wU ts l n).2 → y3Q G G' j
 | [], l, vs, n, s, G, h, hr, hn, hd => by
  refine ⟨G, rfl, ?_, ?_, fun _ _ => y3Q.refl⟩
  ·cases l <;> exact h
  ·cases l <;> exact hr
 | t :: ts, [], vs, n, s, G, h, hr, hn, hd => by
  refine ⟨G, rfl, ?_, ?_, fun _ _ => y3Q.refl⟩
  ·cases t <;> exact h
  ·cases t <;> exact hr
 | t :: ts, x :: l, [], n, s, G, h, hr, hn, hd => by cases hr
 | t :: ts, x :: l, v :: vs, n, s, G, h, hr, hn, hd => by
  have plain : (wU (t :: ts) (x :: l) n) = (x :: (wU ts l (n + 1)).1, (wU ts l (n + 1)).2) → ∃ G', G'.H = G.H ∧ Rel P w0 lent H0 (s.makeAll (wU (t :: ts) (x :: l) n).2) a w G' ∧ RL G' (wU (t :: ts) (x :: l) n).1 (v :: vs) ∧ ∀ j, j ∉ zh (wU (t :: ts) (x :: l) n).2 → y3Q G G' j := by
   intro e
   rw [e] at hd ⊢
   obtain ⟨G', e1, e2, e3, e4⟩ := y29 ts l vs (n + 1) s G h hr.2 (by omega) fun j hj hm => hd j hj (by simp [jk, hm])
   exact ⟨G', e1, e2, ⟨RA.agree e1 (e2.pv.trans h.pv.symm) x v hr.1 fun j hj => e4 j fun hm => hd j hm (by simp [jk, hj]), e3⟩, e4⟩
  cases t with
  | sl e us =>
   cases x with
   | nils =>
    cases hb : y7Z us && Nat.blt 0 us.length with
    | false => exact plain (by simp only [wU, hb, cond_false])
    | true =>
     have e0 : wU (.sl e us :: ts) (.nils :: l) n = (.own n :: (wU ts l (n + 1)).1, (n, .root true e us []) :: (wU ts l (n + 1)).2) := by simp only [wU, hb, cond_true]
     rw [e0] at hd ⊢
     simp only [Bool.and_eq_true] at hb
     have hpos : 0 < us.length := by
      have := hb.2
      unfold Nat.blt at this
      exact Nat.le_of_ble_eq_true this
     have hv : v = .slice none 0 0 := hr.1
     subst hv
     obtain ⟨hrel, hra⟩ := h.newRoot' n (H0.none (.inr hn)) (e := e) (ts := us) (xs := []) (v := .slice none 0 0) (w' := w) (cells := []) rfl rfl rfl (Nat.le_refl _) (fun k hk => .inl rfl) hpos ⟨by simp, .inl ⟨rfl, rfl⟩⟩ (by simp) (fun k hk => by simp [Value.ownBlock] at hk) (fun j x hx => by simp at hx)
     have hnl : n ∉ jk l := fun hm => hd n (by simp [zh]) (by simp [jk, A.ids, hm])
     have hag := (G.upd_agree n (((Value.slice none 0 0).ownBlock).getD 0, 0) (.slice none 0 0) (us.length, ([] : List (z8 us)).length))
     have hrl := RL.agree (G := G) (G' := G.upd n (((Value.slice none 0 0).ownBlock).getD 0, 0) (.slice none 0 0) (us.length, ([] : List (z8 us)).length)) rfl rfl l vs hr.2 fun j hj => hag.same fun he => hnl (he ▸ hj)
     obtain ⟨G', e1, e2, e3, e4⟩ := y29 ts l vs (n + 1) _ _ hrel hrl (by omega) fun j hj hm => hd j (by simp [zh, hj]) (by simp [jk, hm])
     refine ⟨G', e1, e2, ⟨RA.agree e1 (e2.pv.trans hrel.pv.symm) _ _ hra fun j hj => e4 j fun hm => ?_, e3⟩, fun j hj => ?_⟩
     ·have h1 : j = n := by simpa [A.ids] using hj
      have := (ybq ts l (n + 1) j hm).1
      omega
     ·simp only [zh, List.mem_cons, not_or] at hj
      exact (hag.same hj.1).trans (e4 j hj.2)
   | _ => exact plain rfl
  | _ => exact plain (by cases x <;> rfl)
theorem yg5 (hT : TOk C P) (h : Rel P w0 lent H0 s a w G) (hK : y2y P w0 lent H0 s o k r K) (hout : Out o) {t : Nat} {parts : Array (Nat × Operand)} (hop : o.op = .build t parts) (he : jG C call ct wn o s.opd lk k = some r) : o.wp P a w K Q := by
 simp only [jG, hop] at he
 split at he
 ·rename_i fs ts b ht
  cases hp : y1i C s.opd fs (ts.map ycz) parts.toList with
  | none => simp [hp] at he
  | some l =>
   simp only [hp] at he
   obtain ⟨i, z, hi, hs, hby, hz, hzc, hpos, hbp⟩ := hT.info t _ ht
   obtain ⟨D, hD, F, rfl, hsz, hF⟩ := hT.und t _ ht
   have hm := ybl (f := fun f : Field => (P.info? f.type).map fun i => (f.offset, i.size)) (0, 0) (l := F.toList) (fun fl hfl => by
    obtain ⟨n, hn⟩ := List.mem_iff_getElem?.1 hfl
    have hlt := (List.getElem?_eq_some_iff.1 hn).1
    rw [Array.length_toList, hsz] at hlt
    obtain ⟨fl', h1, h2, h3, ti, hti, _⟩ := hF n _ _ (show fs[n]? = some (fs[n].1, fs[n].2) by rw [List.getElem?_eq_getElem hlt])
    rw [Array.getElem?_toList, h1] at hn
    injection hn with hn
    subst hn
    obtain ⟨i2, _, hi2, _⟩ := hT.info _ ti hti
    rw [h3, hi2]
    exact ⟨_, rfl⟩)
   obtain ⟨arr, h1, h2⟩ := y3N (places := (F.toList.map fun x => ((P.info? x.type).map fun i => (x.offset, i.size)).getD (0, 0)).toArray) hT h (fun n off t2 ti hf hti => by
    obtain ⟨fl, hfl, h3, h4, _⟩ := hF n off t2 hf
    obtain ⟨i2, _, hi2, hs2, _⟩ := hT.info _ ti hti
    simp [hfl, h3, h4, hi2, hs2]) parts.toList _ l z.cells hp (by rw [hzc]; exact y9M ts)
   have hb := run_build (P := P) w t (parts.map fun (i, x) => (i, a.eval x)) arr (by
    simp only [Program.built, hi, hD, hz, hm]
    rw [Array.toList_map]
    exact h1)
   have hrun : (execOp a.eval o).run P w = .ok (.value (.agg arr)) w := by
    simp only [execOp, hop]
    rw [Sem.run_bind, hb]
    rfl
   cases ct with
   | false => exact Wm h hK he (v := .agg arr) hrun ⟨arr.toList, rfl, h2⟩
   | true =>
    simp only [cond_true] at he
    cases hdst : o.dst with
    | none => simp [hdst] at he
    | some d =>
     simp only [hdst] at he
     cases hdj : y0z (zh (wU ts l (1000 * (d + 1))).2) (jk l) with
     | false => simp [hdj] at he
     | true =>
      simp only [hdj, cond_true] at he
      obtain ⟨G', e1, e2, e3, _⟩ := y29 ts l arr.toList (1000 * (d + 1)) s G h h2 (by omega) (vp hdj)
      refine jo (v := .agg arr) (w' := w) hrun (hK _ _ _ G' he ?_)
      have := e2.put o.dst (x := .agg (wU ts l (1000 * (d + 1))).1) (v := .agg arr) ⟨arr.toList, rfl, e3⟩
      simpa [St.apply, St.setAll] using this
 ·cases he
end Go.Proofs.YtgediecndaheiaaGreat.R
