/- Appending to a row of one's own. Conditions: the types lie as the context says. -/
import Derived.Test.YtmofdkmggfdciaaGreatROp2
set_option linter.all false
namespace Go.Proofs.YtmofdkmggfdciaaGreat.R
open Go.RowKit
variable {P : Program} {C : Ctx} {w0 : World} {lent : Nat → Prop} {H0 : Base} {s : St} {a : Act} {w : World} {G : Gh} {o : Oper} {K : Act → World → Prop} {Q : Exit → Act → World → Prop} {R : Type} {k : Eff → Option R} {r : R} {lk : Lk} {call : C.Sem}
theorem castR_eq {ts ts' : List Ty} {xs : List (Elts ts)} {ys : List (Elts ts')} (h : castR ts ts' xs = some ys) : ∃ e : ts = ts', ys = e ▸ xs := by
  unfold castR at h
  split at h
  · rename_i he
    exact ⟨Ty.eqbs_eq ts ts' he, by injection h with h; exact h.symm⟩
  · cases h
theorem rdE_some {H : Hp} : ∀ (ts : List Ty) (x : Elts ts) (f : Nat → Option Value), RdE H ts x f → ∀ k, k < ts.length → ∃ v, f k = some v ∧ v.oneCell' = true := by
  intro ts x f h k hk
  have hk' : k < (cellsE ts x).length := by rw [cellsE_length]; exact hk
  obtain ⟨v, hv, h1, _⟩ := rdE_get ts x f h k _ (List.getElem?_eq_getElem hk')
  exact ⟨v, hv, h1⟩
theorem row_sound (h : Rel P w0 lent H0 s a w G) (hlk : Sees lk s) {ts : List Ty} {x : A} {ys : List (Elts ts)} (hx : rowOf lk ts x = some ys) {u : Value} (hu : RA G x u) :
    ∃ A c, u = .slice A ys.length c ∧ ys.length ≤ 9223372036854775807 ∧ (0 < ys.length → ∃ ad : Addr, A = some ad ∧ ∀ (j : Nat) (y : Elts ts), ys[j]? = some y → RdE G.H ts y (fun k => if k < ts.length then w.cell? (ad.add (j * ts.length + k)) else none)) := by
  cases x with
  | nils =>
    have : ([] : List (Elts ts)) = ys := by simpa [rowOf] using hx
    subst this
    exact ⟨none, 0, hu, by simp, fun h => absurd h (by simp)⟩
  | val t xv =>
    cases t with
    | sl e ts' =>
      have hx' : castR ts' ts xv = some ys := by simpa [rowOf, rowL] using hx
      obtain ⟨e1, rfl⟩ := castR_eq hx'
      subst e1
      obtain ⟨A, c, hv, hc, hm, hr⟩ := hu
      refine ⟨A, c, hv, hm, fun hp => ?_⟩
      obtain ⟨ad, ea, hrd⟩ := hr hp
      exact ⟨ad, ea, fun j y hy => RdE.ext ts' y _ _ (fun k v hk hv => by rw [if_pos hk]; exact cellH_le h.inH hv) (hrd j y hy)⟩
    | _ => simp [rowOf, rowL] at hx
  | own q =>
    cases hq : lk q with
    | none => simp [rowOf, rowL, hq] at hx
    | some ob =>
      cases ob with
      | root own e ts' xs =>
        have hx' : castR ts' ts xs = some ys := by simpa [rowOf, rowL, hq] using hx
        obtain ⟨e1, rfl⟩ := castR_eq hx'
        subst e1
        obtain ⟨_, _, ⟨A, c, hsv, hc, hm, hA⟩, hrd⟩ := root_row h (hlk q _ hq)
        refine ⟨A, c, hu.1.trans hsv, hm, fun hp => ⟨_, hA hp, fun j y hy => ?_⟩⟩
        have := hrd j y hy
        simp only [add_plain]
        exact this
      | _ => simp [rowOf, rowL, hq] at hx
  | _ => simp [rowOf, rowL] at hx
theorem flat_cells {H : Hp} {ts : List Ty} {ys : List (Elts ts)} {f : Nat → Option Value} (hpos : 0 < ts.length) (hr : ∀ (j : Nat) (y : Elts ts), ys[j]? = some y → RdE H ts y (fun k => if k < ts.length then f (j * ts.length + k) else none)) :
    ∃ news : List Value, news.length = ys.length * ts.length ∧ (∀ j u, news[j]? = some u → f j = some u) ∧ (∀ u ∈ news, u.oneCell' = true) ∧ ∀ (j : Nat) (y : Elts ts), ys[j]? = some y → RdE H ts y (fun k => news[j * ts.length + k]?) := by
  have hcell : ∀ i, i < ys.length * ts.length → ∃ v, f i = some v ∧ v.oneCell' = true := by
    intro i hi
    have hj : i / ts.length < ys.length := Nat.div_lt_of_lt_mul (by rw [Nat.mul_comm]; exact hi)
    obtain ⟨v, hv, h1⟩ := rdE_some ts _ _ (hr (i / ts.length) _ (List.getElem?_eq_getElem hj)) (i % ts.length) (Nat.mod_lt _ hpos)
    rw [if_pos (Nat.mod_lt _ hpos), show i / ts.length * ts.length + i % ts.length = i by rw [Nat.mul_comm]; exact Nat.div_add_mod i ts.length] at hv
    exact ⟨v, hv, h1⟩
  refine ⟨(List.range (ys.length * ts.length)).map fun i => (f i).getD undef, by simp, fun j u hu => ?_, fun u hu => ?_, fun j y hy => ?_⟩
  · rw [List.getElem?_map] at hu
    obtain ⟨i, hi, rfl⟩ := Option.map_eq_some_iff.1 hu
    have hlt := (List.getElem?_eq_some_iff.1 hi).1
    have : j = i := by simpa [List.getElem?_range (by simpa using hlt)] using hi
    subst this
    obtain ⟨v, hv, _⟩ := hcell j (by simpa using hlt)
    rw [hv]
    rfl
  · obtain ⟨i, hi, rfl⟩ := List.mem_map.1 hu
    obtain ⟨v, hv, h1⟩ := hcell i (by simpa using hi)
    rw [hv]
    exact h1
  · have hjl := (List.getElem?_eq_some_iff.1 hy).1
    have hj1 : (j + 1) * ts.length ≤ ys.length * ts.length := Nat.mul_le_mul_right _ hjl
    rw [Nat.add_mul, Nat.one_mul] at hj1
    refine RdE.ext ts y _ _ (fun k v hk hv => ?_) (hr j y hy)
    rw [if_pos hk] at hv
    rw [List.getElem?_map, List.getElem?_range (by omega), Option.map_some, hv]
    rfl
theorem make_set_gone (s : St) {q d : Nat} (hne : q ≠ d) (ob : Ob) : (s.set q .gone).make d ob = (s.make d ob).set q .gone := by
  have key : ∀ l : List (Nat × Ob), forgetO d (setO l q .gone) = setO (forgetO d l) q .gone := by
    intro l
    induction l with
    | nil => rfl
    | cons p l ih =>
      obtain ⟨j, x⟩ := p
      by_cases hj : j = q
      · subst hj
        simp [setO, forgetO, beq_rfl, beq_ne hne, Ob.forget]
      · by_cases hd : j = d
        · subst hd
          simp [setO, forgetO, beq_rfl, beq_ne hj, ih]
        · simp [setO, forgetO, beq_ne hj, beq_ne hd, ih]
  simp [St.set, St.make, key, setO, beq_ne (fun e : d = q => hne e.symm)]
theorem append_none (t ty e : TypeId) (i : TypeInfo) (size c : Nat) (ht : P.underlying t = some (.slice e)) (hi : P.info? e = some i)
    (v : Value) (n : Nat) (xs : List Value) (hown : w.ownsRow 0 e size v n xs) :
    (Builtin.append_ #[t, t] ty #[v, .slice none 0 c]).run P w = .ok v w := by
  rcases hown.2 with ⟨rfl, rfl⟩ | ⟨g, cap, cur, rfl, _, _, hnc, _⟩
  · simp [Builtin.append_, run_underlying ht, sizeOf, typeInfo, hi, Builtin.lenOf, Builtin.firstCells]
  · simp [Builtin.append_, run_underlying ht, sizeOf, typeInfo, hi, Builtin.lenOf, Builtin.firstCells, hnc, storeCells]
theorem append_sound (hT : TOk C P) {t e b ty : Nat} {ts : List Ty} (ht : C.info t = some (.c (.sl e ts) b)) {te : TI} (hte : C.info e = some te) {xs ys : List (Elts ts)} {H : Hp} (hpos : 0 < ts.length) {v u : Value} {cells : List Value} (hown : w.ownsRow 0 e ts.length v xs.length cells)
    (hone : ∀ u ∈ cells, u.oneCell' = true) (hrd : ∀ (j : Nat) (x : Elts ts), xs[j]? = some x → RdE H ts x (fun k => cells[j * ts.length + k]?))
    {A : Option Addr} {c : Nat} (hu : u = .slice A ys.length c) (hy : 0 < ys.length → ∃ ad : Addr, A = some ad ∧ ∀ (j : Nat) (y : Elts ts), ys[j]? = some y → RdE H ts y (fun k => if k < ts.length then w.cell? (ad.add (j * ts.length + k)) else none))
    (hsize : (xs.length + ys.length) * te.bytes < 140737488355328) :
    ∃ v' w' cells', (Builtin.append_ #[t, t] ty #[v, u]).run P w = .ok v' w' ∧ w'.ownsRow 0 e ts.length v' (xs ++ ys).length cells' ∧ w.grownBy w' v.ownBlock ∧ (v'.ownBlock = v.ownBlock ∨ v'.ownBlock = some w.heap.size) ∧
      (∀ u ∈ cells', u.oneCell' = true) ∧ ∀ (j : Nat) (x : Elts ts), (xs ++ ys)[j]? = some x → RdE H ts x (fun k => cells'[j * ts.length + k]?) := by
  obtain ⟨D, hD, rfl, te', hte', hts⟩ := hT.und t _ ht
  rw [hte] at hte'
  injection hte' with hte'
  subst hte'
  subst hts
  obtain ⟨i, z, hi, hs, hby, hz, hzc, hp, hb0⟩ := hT.info e te hte
  subst hu
  by_cases h0 : ys.length = 0
  · have hys : ys = [] := List.length_eq_zero_iff.1 h0
    subst hys
    cases A with
    | none =>
      exact ⟨v, w, cells, append_none t ty e i te.ts.length c hD hi v xs.length cells hown, by simpa using hown, ⟨rfl, rfl, rfl, Nat.le_refl _, fun _ _ _ => rfl⟩, .inl rfl, hone, by simpa using hrd⟩
    | some ad =>
      obtain ⟨v', w', h1, h2, h3, _, h5⟩ := run_append_own_at (P := P) w 0 t ty e i z te.ts.length te.bytes hD hi hz hs hby (by rw [← Array.length_toList, hzc]; simp) hpos v xs.length cells hown ad 0 c [] (by simp) (by simp) (by simp)
        (by simp only [maxLen]; simp only [List.length_nil, Nat.add_zero] at hsize; have := Nat.le_mul_of_pos_right xs.length hb0; omega) (by simpa using Nat.le_of_lt hsize) (Nat.zero_le _)
      exact ⟨v', w', cells, h1, by simpa using h2, h3, h5, hone, by simpa using hrd⟩
  · obtain ⟨ad, rfl, hyr⟩ := hy (by omega)
    obtain ⟨news, hnl, hnc, hn1, hnr⟩ := flat_cells (f := fun i => w.cell? (ad.add i)) hpos hyr
    have hsz2 := Nat.le_mul_of_pos_right (xs.length + ys.length) hb0
    obtain ⟨v', w', h1, h2, h3, _, h5⟩ := run_append_own_at (P := P) w 0 t ty e i z te.ts.length te.bytes hD hi hz hs hby (by rw [← Array.length_toList, hzc]; simp) hpos v xs.length cells hown ad ys.length c news hnl hnc hn1
      (by simp only [maxLen]; omega) (Nat.le_of_lt hsize) (Nat.zero_le _)
    refine ⟨v', w', cells ++ news, h1, by simpa using h2, h3, h5, fun u hu => ?_, fun j x hx => ?_⟩
    · rcases List.mem_append.1 hu with hu | hu
      · exact hone u hu
      · exact hn1 u hu
    · have hcl : cells.length = xs.length * te.ts.length := hown.1
      by_cases hj : j < xs.length
      · rw [List.getElem?_append_left hj] at hx
        refine RdE.ext te.ts x _ _ (fun k v hk hv => ?_) (hrd j x hx)
        rw [List.getElem?_append_left (by exact (List.getElem?_eq_some_iff.1 hv).1)]
        exact hv
      · rw [List.getElem?_append_right (by omega)] at hx
        have hm : xs.length * te.ts.length ≤ j * te.ts.length := Nat.mul_le_mul_right _ (by omega)
        refine RdE.ext te.ts x _ _ (fun k v hk hv => ?_) (hnr _ x hx)
        rw [List.getElem?_append_right (by omega), hcl, show j * te.ts.length + k - xs.length * te.ts.length = (j - xs.length) * te.ts.length + k by rw [Nat.sub_mul]; omega]
        exact hv
theorem op_append (hT : TOk C P) (h : Rel P w0 lent H0 s a w G) (hK : Next P w0 lent H0 s o k r K) (hout : Out o) (hlk : Sees lk s) {c : Call} {x y : Operand} {t t2 : Nat} (hop : o.op = .call c) (hc : c.callee = .builtin .append) (hargs : c.args.toList = [x, y]) (htys : c.argTypes.toList = [t, t2]) (he : effK C call o s.opd lk k = some r) : o.wp P a w K Q := by
  have hx := h.opd x
  have hy := h.opd y
  simp only [effK, hop, hc, hargs, htys] at he
  split at he
  · rename_i e ts b d ht hd
    cases hte : C.info e with
    | none => simp [hte] at he
    | some te =>
      simp only [hte] at he
      cases hbt : Nat.beq t t2 with
      | false =>
        simp only [hbt, cond_false] at he
        split at he <;> simp_all
      | true =>
        simp only [hbt, cond_true] at he
        have htt := Nat.eq_of_beq_eq_true hbt
        subst htt
        have e1 : c.args = #[x, y] := by rw [← Array.toArray_toList (xs := c.args), hargs]
        have e2 : c.argTypes = #[t, t] := by rw [← Array.toArray_toList (xs := c.argTypes), htys]
        have hexec : ∀ (v : Value) (w' : World), (Builtin.append_ #[t, t] o.type #[a.eval x, a.eval y]).run P w = .ok v w' → (execOp a.eval o).run P w = .ok (.value v) w' := by
          intro v w' hr
          simp [execOp, hop, resolve, hc, invoke, builtin, e1, e2, hr]
        have hpos : 0 < ts.length := by
          obtain ⟨D, hD, rfl, te', hte', hts⟩ := hT.und t _ ht
          rw [hte] at hte'
          injection hte' with hte'
          subst hte'
          obtain ⟨_, _, _, _, _, _, _, hp, _⟩ := hT.info e te hte
          rw [← hts]
          exact hp
        split at he
        ·
          rename_i ys hxa hya
          rw [hxa] at hx
          obtain ⟨A, cc, hu, hm, hsrc⟩ := row_sound h hlk hya hy
          split at he
          · rename_i hsize
            obtain ⟨v', w', cells', h1, h2, h3, h4, h5, h6⟩ := append_sound (P := P) (ty := o.type) (xs := ([] : List (Elts ts))) (ys := ys) (H := G.H) hT ht hte hpos (World.ownsRow_nil w 0 e ts.length) (by simp) (by simp) hu hsrc (by simpa using hsize)
            have hnone : (Value.slice none 0 0).ownBlock = none := rfl
            rw [hnone] at h3 h4
            obtain ⟨G', _, hrel, hra⟩ := h.newRoot d (H0.none (hout d hd)) (xs := ys) (v := v') (w' := w') (cells := cells') h3.os h3.tape h3.output h3.size (fun k hk => .inl (h3.block k hk (by simp))) hpos (by simpa using h2) h5
              (fun k hk => by
                rcases h4 with h4 | h4
                · rw [h4] at hk
                  cases hk
                · rw [h4] at hk
                  injection hk with hk
                  subst hk
                  exact h.free_new (Nat.le_refl _)) (by simpa using h6)
            refine wp_value (hexec v' w' (by rw [show a.eval x = .slice none 0 0 from hx]; exact h1)) (hK _ _ _ G' he ?_)
            have := hrel.put o.dst hra
            simpa [St.apply, St.makeAll, St.setAll] using this
          · cases he
        ·
          rename_i q ys hxa hya
          rw [hxa] at hx
          obtain ⟨A, cc, hu, hm, hsrc⟩ := row_sound h hlk hya hy
          cases hq : lk q with
          | none => simp [hq] at he
          | some ob =>
            cases ob with
            | root own e1' ts1 xs =>
              cases own with
              | false => simp [hq] at he
              | true =>
                simp only [hq] at he
                cases hcr : castR ts1 ts xs with
                | none => simp [hcr] at he
                | some xs' =>
                  simp only [hcr] at he
                  obtain ⟨ee, rfl⟩ := castR_eq hcr
                  subst ee
                  cases hbb : Nat.beq q d || !Nat.beq e1' e with
                  | true => simp [hbb] at he
                  | false =>
                    simp only [hbb, cond_false] at he
                    simp only [Bool.or_eq_false_iff, Bool.not_eq_false'] at hbb
                    have hee := Nat.eq_of_beq_eq_true hbb.2
                    subst hee
                    have hqd : q ≠ d := fun e => by
                      subst e
                      rw [beq_rfl] at hbb
                      exact absurd hbb.1 (by simp)
                    split at he
                    · rename_i hsize
                      have hlq := hlk q _ hq
                      obtain ⟨hsz, _, cells, hown, hone, hblk, hrd⟩ := h.objs q _ hlq
                      obtain ⟨v', w', cells', h1, h2, h3, h4, h5, h6⟩ := append_sound (P := P) (ty := o.type) hT ht hte hpos hown hone hrd hu hsrc hsize
                      have hgone := h.gone q
                      have hfree : ∀ k, (G.sv q).ownBlock = some k → Free w0 lent (s.set q .gone) G k := fun k hk => free_gone h hlq hk
                      obtain ⟨G', _, hrel, hra⟩ := hgone.newRoot d (H0.none (hout d hd)) (v := v') (w' := w') (cells := cells') h3.os h3.tape h3.output h3.size (fun k hk => by
                        by_cases hkb : some k = (G.sv q).ownBlock
                        · exact .inr (hfree k hkb.symm)
                        · exact .inl (h3.block k hk hkb)) hpos h2 h5
                        (fun k hk => by
                          rcases h4 with h4 | h4
                          · rw [h4] at hk
                            exact hfree k hk
                          · rw [h4] at hk
                            injection hk with hk
                            subst hk
                            exact hgone.free_new (Nat.le_refl _)) h6
                      refine wp_value (hexec v' w' (by rw [hx.1]; exact h1)) (hK _ _ _ G' he ?_)
                      have := hrel.put o.dst hra
                      rw [make_set_gone s hqd] at this
                      simpa [St.apply, St.makeAll, St.setAll] using this
                    · cases he
            | _ => simp [hq] at he
        · cases he
  · cases he
end Go.Proofs.YtmofdkmggfdciaaGreat.R
