/- What is handed over at a call, cell by cell. No condition. -/
import Derived.Test.YtkjpediopepbkaaDoorRConv
namespace Go.Proofs.YtkjpediopepbkaaDoor.R
open Go.RowKit
set_option linter.unusedVariables false
set_option linter.unusedSimpArgs false
variable {P : Program} {C : Ctx} {w0 : World} {lent : Nat → Prop} {H0 : Base} {s : St} {a : Act} {w : World} {G : Gh} {o : Oper} {K : Act → World → Prop} {Q : Exit → Act → World → Prop} {R : Type} {k : Eff → Option R} {r : R} {lk : Lk} {call : C.Sem}

/-- A cell that is handed over: plain, or a row of one's own in block b. -/
def CellR (H : Hp) (w : World) : (t : Ty) → Bool → El t → Value → Option Nat → Prop
  | .sl e ts, true, xs, v, b => b = v.ownBlock ∧ 0 < ts.length ∧ ∃ cells, w.ownsRow 0 e ts.length v (List.length xs) cells ∧ (∀ u ∈ cells, u.oneCell' = true) ∧ ∀ (j : Nat) (x : Elts ts), (show List (Elts ts) from xs)[j]? = some x → RdE H ts x (fun k => cells[j * ts.length + k]?)
  | t, _, x, v, b => b = none ∧ RdT H t x v
def CellsR (H : Hp) (w : World) : (ts : List Ty) → List Bool → Elts ts → List Value → List (Option Nat) → Prop
  | [], _, _, vs, bs => vs = [] ∧ bs = []
  | t :: [], os, x, vs, bs => ∃ v b, vs = [v] ∧ bs = [b] ∧ CellR H w t (os.headD false) x v b
  | t :: u :: r, os, x, vs, bs => ∃ v b vs' bs', vs = v :: vs' ∧ bs = b :: bs' ∧ CellR H w t (os.headD false) x.1 v b ∧ CellsR H w (u :: r) os.tail x.2 vs' bs'
/-- No two of the blocks are one. -/
def Apart (bs : List (Option Nat)) : Prop := bs.Pairwise fun b c => ∀ k, b = some k → c ≠ some k
theorem Free.make {k d : Nat} (hf : Free w0 lent s G k) {ob : Ob} {gg : Nat × Nat} {v : Value} {z : Nat × Nat} (hb : blkOf (G.upd d gg v z) d ob ≠ some k) : Free w0 lent (s.make d ob) (G.upd d gg v z) k := by
  have h1 := hf.forget (G.upd_agree d gg v z) rfl
  refine ⟨h1.1, h1.2.1, fun j oj hj hbj => ?_⟩
  have hj' : look ((d, ob) :: (s.forget d).o) j = some oj := hj
  by_cases hjd : d = j
  · subst hjd
    simp only [look, beq_rfl, cond_true, Option.some.injEq] at hj'
    subst hj'
    exact hb hbj
  · simp only [look, beq_ne hjd, cond_false] at hj'
    exact h1.2.2 j oj hj' hbj
/-- One cell. -/
theorem scat1_sound (h : Rel P w0 lent H0 s a w G) (t : Ty) (own : Bool) (x : El t) (n : Nat) (hn : 950 ≤ n) (v : Value) (b : Option Nat) (hc : CellR G.H w t own x v b) (hf : ∀ k, b = some k → Free w0 lent s G k) :
    ∃ G', G'.H = G.H ∧ (∀ j, j ∉ fsts (scat1 t own x n).2 → G'.g j = G.g j ∧ G'.sv j = G.sv j ∧ G'.sz j = G.sz j) ∧ Rel P w0 lent H0 (s.makeAll (scat1 t own x n).2) a w G' ∧ RA G' (scat1 t own x n).1 v ∧
      ∀ k, Free w0 lent s G k → b ≠ some k → Free w0 lent (s.makeAll (scat1 t own x n).2) G' k := by
  have plain : ∀ {t : Ty} {own : Bool} {x : El t}, scat1 t own x n = (.val t x, []) → b = none ∧ RdT G.H t x v → ∃ G', G'.H = G.H ∧ (∀ j, j ∉ fsts (scat1 t own x n).2 → G'.g j = G.g j ∧ G'.sv j = G.sv j ∧ G'.sz j = G.sz j) ∧ Rel P w0 lent H0 (s.makeAll (scat1 t own x n).2) a w G' ∧ RA G' (scat1 t own x n).1 v ∧
      ∀ k, Free w0 lent s G k → b ≠ some k → Free w0 lent (s.makeAll (scat1 t own x n).2) G' k := by
    intro t own x he hr
    rw [he]
    exact ⟨G, rfl, fun _ _ => ⟨rfl, rfl, rfl⟩, h, hr.2, fun k hk _ => hk⟩
  cases t with
  | sl e ts =>
    cases own with
    | false => exact plain rfl hc
    | true =>
      obtain ⟨hb, hpos, cells, hown, hone, hrd⟩ := hc
      have hr := h.newRoot' n (H0.none (.inr hn)) (e := e) (ts := ts) (xs := x) (v := v) (w' := w) rfl rfl rfl (Nat.le_refl _) (fun _ _ => .inl rfl) hpos hown hone (fun k hk => hf k (hb.trans hk)) hrd
      refine ⟨G.upd n ((v.ownBlock).getD 0, 0) v (ts.length, List.length x), rfl, fun j hj => by
        have hj' : j ≠ n := by simpa [scat1, fsts] using hj
        exact ⟨by simp [Gh.upd, hj'], by simp [Gh.upd, hj'], by simp [Gh.upd, hj']⟩, hr.1, hr.2, fun k hk hne => hk.make ?_⟩
      intro he
      apply hne
      rw [hb]
      simpa [blkOf, Gh.upd] using he
  | int _ => exact plain (by cases own <;> rfl) (by cases own <;> exact hc)
  | bool => exact plain (by cases own <;> rfl) (by cases own <;> exact hc)
  | str => exact plain (by cases own <;> rfl) (by cases own <;> exact hc)
theorem makeAll_append : ∀ (l l' : List (Nat × Ob)) (s : St), s.makeAll (l ++ l') = (s.makeAll l).makeAll l'
  | [], _, _ => rfl
  | (i, x) :: l, l', s => makeAll_append l l' (s.make i x)
/-- A cell of a call speaks of its own number alone. -/
theorem scat1_keep {G G' : Gh} {t : Ty} {own : Bool} {x : El t} {n : Nat} {v : Value} (hH : G'.H = G.H) (hn : G'.sv n = G.sv n) (h : RA G (scat1 t own x n).1 v) : RA G' (scat1 t own x n).1 v := by
  have plain : RdT G.H t x v → RdT G'.H t x v := fun h => by rw [hH]; exact h
  cases t with
  | sl e ts =>
    cases own with
    | false => exact plain h
    | true => exact ⟨by rw [hn]; exact h.1, h.2⟩
  | int _ => cases own <;> exact plain h
  | bool => cases own <;> exact plain h
  | str => cases own <;> exact plain h
theorem fsts_append {α : Type} : ∀ (X Y : List (Nat × α)), fsts (X ++ Y) = fsts X ++ fsts Y
  | [], _ => rfl
  | (i, _) :: X, Y => by simp [fsts, fsts_append X Y]
theorem scat1_fsts (t : Ty) (own : Bool) (x : El t) (n : Nat) : ∀ j ∈ fsts (scat1 t own x n).2, j = n := by
  intro j hj
  cases t <;> cases own <;> simp [scat1, fsts] at hj <;> exact hj
theorem scatter_fsts : ∀ (ts : List Ty) (os : List Bool) (x : Elts ts) (n : Nat), ∀ j ∈ fsts (scatter ts os x n).2, n ≤ j ∧ j < n + ts.length := by
  intro ts
  induction ts with
  | nil =>
    intro os x n j hj
    exact absurd hj (by simp [scatter, fsts])
  | cons t ts ih =>
    intro os x n j hj
    cases ts with
    | nil =>
      have := scat1_fsts t (os.headD false) x n j hj
      simp only [List.length_cons, List.length_nil]
      omega
    | cons u r =>
      rw [show (scatter (t :: u :: r) os x n).2 = (scat1 t (os.headD false) x.1 n).2 ++ (scatter (u :: r) os.tail x.2 (n + 1)).2 from rfl, fsts_append] at hj
      rcases List.mem_append.1 hj with hj | hj
      · have := scat1_fsts t _ x.1 n j hj
        simp only [List.length_cons]
        omega
      · have := ih os.tail x.2 (n + 1) j hj
        simp only [List.length_cons] at this ⊢
        omega
theorem scatter_sound : ∀ (ts : List Ty) (os : List Bool) (x : Elts ts) (n : Nat) (vs : List Value) (bs : List (Option Nat)) (s : St) (G : Gh), 950 ≤ n → Rel P w0 lent H0 s a w G → CellsR G.H w ts os x vs bs → (∀ k, some k ∈ bs → Free w0 lent s G k) → Apart bs →
    ∃ G', G'.H = G.H ∧ (∀ j, j ∉ fsts (scatter ts os x n).2 → G'.g j = G.g j ∧ G'.sv j = G.sv j ∧ G'.sz j = G.sz j) ∧ Rel P w0 lent H0 (s.makeAll (scatter ts os x n).2) a w G' ∧ RL G' (scatter ts os x n).1 vs ∧
      ∀ k, Free w0 lent s G k → some k ∉ bs → Free w0 lent (s.makeAll (scatter ts os x n).2) G' k := by
  intro ts
  induction ts with
  | nil =>
    intro os x n vs bs s G hn h hc hf ha
    obtain ⟨rfl, rfl⟩ := hc
    exact ⟨G, rfl, fun _ _ => ⟨rfl, rfl, rfl⟩, h, trivial, fun k hk _ => hk⟩
  | cons t ts ih =>
    intro os x n vs bs s G hn h hc hf ha
    cases ts with
    | nil =>
      obtain ⟨v, b, rfl, rfl, hcr⟩ := hc
      obtain ⟨G', h1, h2, h3, h4, h5⟩ := scat1_sound h t (os.headD false) x n hn v b hcr (fun k hk => hf k (by simp [hk]))
      refine ⟨G', h1, fun j hj => h2 j hj, h3, ⟨h4, trivial⟩, fun k hk hne => h5 k hk (fun e => hne (by simp [e]))⟩
    | cons u r =>
      obtain ⟨v, b, vs', bs', rfl, rfl, hcr, hcs⟩ := hc
      obtain ⟨G1, h1, h2, h3, h4, h5⟩ := scat1_sound h t (os.headD false) x.1 n hn v b hcr (fun k hk => hf k (by simp [hk]))
      have ha' := List.pairwise_cons.1 ha
      obtain ⟨G', e1, e2, e3, e4, e5⟩ := ih os.tail x.2 (n + 1) vs' bs' _ G1 (by omega) h3 (by rw [h1]; exact hcs) (fun k hk => h5 k (hf k (by simp [hk])) (fun e => ha'.1 _ hk k e rfl)) ha'.2
      refine ⟨G', e1.trans h1, fun j hj => ?_, ?_, ⟨?_, e4⟩, fun k hk hne => ?_⟩
      · rw [show (scatter (t :: u :: r) os x n).2 = (scat1 t (os.headD false) x.1 n).2 ++ (scatter (u :: r) os.tail x.2 (n + 1)).2 from rfl, fsts_append, List.mem_append, not_or] at hj
        have := e2 j hj.2
        have h2' := h2 j hj.1
        exact ⟨this.1.trans h2'.1, this.2.1.trans h2'.2.1, this.2.2.trans h2'.2.2⟩
      · rw [show (scatter (t :: u :: r) os x n).2 = (scat1 t (os.headD false) x.1 n).2 ++ (scatter (u :: r) os.tail x.2 (n + 1)).2 from rfl, makeAll_append]
        exact e3
      · exact scat1_keep e1 (e2 n (fun hn => by have := (scatter_fsts (u :: r) os.tail x.2 (n + 1) n hn).1; omega)).2.1 h4
      · rw [show (scatter (t :: u :: r) os x n).2 = (scat1 t (os.headD false) x.1 n).2 ++ (scatter (u :: r) os.tail x.2 (n + 1)).2 from rfl, makeAll_append]
        exact e5 k (h5 k hk (fun e => hne (by simp [e]))) (fun e => hne (by simp [e]))
/-- The rows that are given away are there, and one's own. -/
def Given (s : St) (G : Gh) (gs : List Nat) (bs : List (Option Nat)) : Prop := ∀ k, some k ∈ bs → ∃ q ∈ gs, ∃ e ts xs, look s.o q = some (.root true e ts xs) ∧ (G.sv q).ownBlock = some k
theorem take1_sound (h : Rel P w0 lent H0 s a w G) (hlk : Sees lk s) {G1 : Gh} (hg : Grown G G1) {own : Bool} {t : Ty} {x : A} {y : El t} {is gs : List Nat} (hx : takeT lk own t x = some (y, is, gs)) (hs : Settled lk G1 is) {v : Value} (hr : RA G x v) :
    ∃ b, CellR G1.H w t own y v b ∧ Given s G gs [b] := by
  have plain : own = false ∨ t.flat = true → RdT G1.H t y v → ∃ b, CellR G1.H w t own y v b ∧ Given s G gs [b] := by
    intro ho hrd
    refine ⟨none, ?_, fun k hk => by simp at hk⟩
    cases t with
    | sl e ts =>
      rcases ho with rfl | ho
      · exact ⟨rfl, hrd⟩
      · simp [Ty.flat] at ho
    | int _ => cases own <;> exact ⟨rfl, hrd⟩
    | bool => cases own <;> exact ⟨rfl, hrd⟩
    | str => cases own <;> exact ⟨rfl, hrd⟩
  cases own with
  | false =>
    have hx' : (toT lk t x).map (fun (y, is) => (y, is, ([] : List Nat))) = some (y, is, gs) := hx
    obtain ⟨p, hp, he⟩ := Option.map_eq_some_iff.1 hx'
    obtain ⟨y', is'⟩ := p
    injection he with e1 e2
    injection e2 with e2 e3
    subst e1 e2
    exact plain (.inl rfl) (toT_sound hp hs (hr.grown hg))
  | true =>
    cases x with
    | own q =>
      simp only [takeT, cond_true] at hx
      cases hq : lk q with
      | none => simp [hq] at hx
      | some ob =>
        cases ob with
        | root own e ts xs =>
          cases own with
          | false => simp [hq] at hx
          | true =>
            simp only [hq] at hx
            obtain ⟨z, hz, he⟩ := Option.map_eq_some_iff.1 hx
            injection he with e1 e2
            injection e2 with e2 e3
            subst e1 e2 e3
            unfold castT at hz
            split at hz
            · rename_i heq
              have ht := Ty.eqb_eq _ _ heq
              subst ht
              injection hz with hz
              subst hz
              obtain ⟨hsz, hpos, cells, hown, hone, hblk, hrd⟩ := h.objs q _ (hlk q _ hq)
              refine ⟨v.ownBlock, ⟨rfl, hpos, cells, by rw [hr.1]; exact hown, hone, fun j x hj => RdE.mono hg.H _ x _ _ (fun _ _ hv => hv) (hrd j x hj)⟩, fun k hk => ⟨q, by simp, e, ts, xs, hlk q _ hq, ?_⟩⟩
              rw [← hr.1]
              have hk' : some k = v.ownBlock := by simpa using hk
              exact hk'.symm
            · cases hz
        | _ => simp [hq] at hx
    | nils =>
      cases t with
      | sl e ts =>
        simp only [takeT, cond_true] at hx
        cases hb : Nat.blt 0 ts.length with
        | false => simp [hb] at hx
        | true =>
          simp only [hb, cond_true] at hx
          injection hx with hx
          injection hx with e1 e2
          subst e1
          have hv : v = .slice none 0 0 := hr
          subst hv
          have hpos := nat_le hb
          exact ⟨none, ⟨rfl, hpos, [], World.ownsRow_nil w 0 e ts.length, by simp, fun j x hj => by simp [zeroT] at hj⟩, fun k hk => by simp at hk⟩
      | _ => simp [takeT] at hx
    | val t' x' =>
      simp only [takeT, cond_true] at hx
      cases hfl : Ty.flat t with
      | false => simp [hfl] at hx
      | true =>
        simp only [hfl, cond_true] at hx
        obtain ⟨z, hz, he⟩ := Option.map_eq_some_iff.1 hx
        injection he with e1 e2
        subst e1
        exact plain (.inr hfl) (castT_rd hz (hr.grown hg))
    | _ => cases t <;> simp [takeT] at hx
theorem memN_iff {l : List Nat} {i : Nat} : memN l i = true ↔ i ∈ l := by
  induction l with
  | nil => simp [memN]
  | cons j r ih =>
    simp only [memN, Bool.or_eq_true, ih, List.mem_cons]
    constructor
    · rintro (h | h)
      · exact .inl (Nat.eq_of_beq_eq_true h).symm
      · exact .inr h
    · rintro (rfl | h)
      · exact .inl (beq_rfl _)
      · exact .inr h
theorem nodupN_iff : ∀ {l : List Nat}, nodupN l = true → l.Nodup
  | [], _ => List.nodup_nil
  | i :: r, h => by
    simp only [nodupN, Bool.and_eq_true, Bool.not_eq_true'] at h
    refine List.nodup_cons.2 ⟨fun hi => ?_, nodupN_iff h.2⟩
    rw [memN_iff.2 hi] at h
    exact absurd h.1 (by simp)
theorem take_sound (h : Rel P w0 lent H0 s a w G) (hlk : Sees lk s) {G1 : Gh} (hg : Grown G G1) : ∀ (ts : List Ty) (os : List Bool) (l : List A) (y : Elts ts) (is gs : List Nat), takeE lk ts os l = some (y, is, gs) → Settled lk G1 is → gs.Nodup → ∀ (vs : List Value), RL G l vs →
    ∃ bs, CellsR G1.H w ts os y vs bs ∧ Given s G gs bs ∧ Apart bs := by
  intro ts
  induction ts with
  | nil =>
    intro os l y is gs hx hs hn vs hr
    cases l with
    | nil =>
      cases vs with
      | nil => exact ⟨[], ⟨rfl, rfl⟩, fun k hk => by simp at hk, List.Pairwise.nil⟩
      | cons _ _ => exact hr.elim
    | cons x l => exact absurd hx (by rw [show takeE lk [] os (x :: l) = none from rfl]; exact fun h => by cases h)
  | cons t ts ih =>
    intro os l y is gs hx hs hn vs hr
    cases ts with
    | nil =>
      cases l with
      | nil => exact absurd hx (by rw [show takeE lk [t] os [] = none from rfl]; exact fun h => by cases h)
      | cons x l =>
        cases l with
        | cons x2 l => exact absurd hx (by rw [show takeE lk [t] os (x :: x2 :: l) = none from rfl]; exact fun h => by cases h)
        | nil =>
          have hx' : takeT lk (os.headD false) t x = some (y, is, gs) := hx
          cases vs with
          | nil => exact hr.elim
          | cons v vs =>
            cases vs with
            | cons _ _ => exact hr.2.elim
            | nil =>
              obtain ⟨b, h1, h2⟩ := take1_sound h hlk hg hx' hs hr.1
              exact ⟨[b], ⟨v, b, rfl, rfl, h1⟩, h2, List.pairwise_singleton _ _⟩
    | cons u r =>
      cases l with
      | nil => exact absurd hx (by rw [show takeE lk (t :: u :: r) os [] = none from rfl]; exact fun h => by cases h)
      | cons x l =>
        have hx' : (match takeT lk (os.headD false) t x with
          | some (x, is, gs) => match takeE lk (u :: r) os.tail l with
            | some (y, js, hs) => some (((x, y) : Elts (t :: u :: r)), is ++ js, gs ++ hs)
            | none => none
          | none => none) = some (y, is, gs) := hx
        cases h1 : takeT lk (os.headD false) t x with
        | none =>
          rw [h1] at hx'
          cases hx'
        | some p =>
          obtain ⟨x1, is1, gs1⟩ := p
          rw [h1] at hx'
          cases h2 : takeE lk (u :: r) os.tail l with
          | none =>
            rw [h2] at hx'
            cases hx'
          | some q =>
            obtain ⟨y1, is2, gs2⟩ := q
            rw [h2] at hx'
            injection hx' with hx'
            injection hx' with e1 e2
            injection e2 with e2 e3
            subst e1 e2 e3
            cases vs with
            | nil => exact hr.elim
            | cons v vs =>
              obtain ⟨n1, n2, n3⟩ := List.nodup_append.1 hn
              obtain ⟨b, c1, c2⟩ := take1_sound h hlk hg h1 hs.left hr.1
              obtain ⟨bs, d1, d2, d3⟩ := ih os.tail l y1 is2 gs2 h2 hs.right n2 vs hr.2
              refine ⟨b :: bs, ⟨v, b, vs, bs, rfl, rfl, c1, d1⟩, fun k hk => ?_, List.pairwise_cons.2 ⟨fun c hc k hb hck => ?_, d3⟩⟩
              · rcases List.mem_cons.1 hk with hk | hk
                · obtain ⟨q, hq, rest⟩ := c2 k (by simp [hk])
                  exact ⟨q, by simp [hq], rest⟩
                · obtain ⟨q, hq, rest⟩ := d2 k hk
                  exact ⟨q, by simp [hq], rest⟩
              · subst hb
                subst hck
                obtain ⟨q, hq, e, ts1, xs, hl, hbq⟩ := c2 k (by simp)
                obtain ⟨q2, hq2, e2, ts2, xs2, hl2, hbq2⟩ := d2 k hc
                have := h.apart q q2 _ _ k hl hl2 hbq hbq2
                subst this
                exact n3 q hq q hq2 rfl
end Go.Proofs.YtkjpediopepbkaaDoor.R
