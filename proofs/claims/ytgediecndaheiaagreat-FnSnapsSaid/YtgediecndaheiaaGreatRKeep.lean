/- What is kept at a loop's head. No condition. -/
import Derived.Test.YtgediecndaheiaaGreatRDraw
set_option linter.all false
namespace Go.Proofs.YtgediecndaheiaaGreat.R
open Go.RowKit
variable {P : Program} {C : Ctx} {w0 : World} {lent : Nat → Prop} {H0 : Base} {s : St} {a : Act} {w : World} {G : Gh}
theorem ym6 (h : Rel P w0 lent H0 s a w G) {o e i c : Nat} {ts : List Ty} {xs : List (z8 ts)} (ho : z4 s.o o = some (.root false e ts xs)) {n : Int} {v : Value} (hr : RA G (.rtp o n c) v) : RA G (.elp e ts xs n c) v := by
 obtain ⟨hsz, hpos, hrd, hb⟩ := h.objs o _ ho
 obtain ⟨A, cap, e1, _, _, hx⟩ := hrd
 obtain ⟨hv, hlt⟩ := hr
 rw [hsz] at hlt hv
 simp only at hlt hv
 have hp : 0 < List.length xs := by omega
 obtain ⟨ad, ea, hx⟩ := hx hp
 obtain ⟨cap', e2⟩ := hb hp
 rw [e1] at e2
 injection e2 with e3
 rw [ea] at e3
 injection e3 with e3
 refine ⟨ad, ?_, hlt, hx⟩
 rw [hv, e3, Kw]
mutual
theorem RA.resolve (h : Rel P w0 lent H0 s a w G) : ∀ (x : A) (v : Value), RA G x v → RA G (x.resolve (z4 s.o)) v
 | .own o, v, hr => by
  simp only [A.resolve]
  cases ho : z4 s.o o with
  | none => trivial
  | some ob =>
   cases ob with
   | root own e ts xs =>
    cases own with
    | true => exact hr
    | false =>
     have := (h.objs o _ ho).2.2.1
     rw [← hr.1] at this
     exact this
   | _ => trivial
 | .rtp o i c, v, hr => by
  simp only [A.resolve]
  cases ho : z4 s.o o with
  | none => trivial
  | some ob =>
   cases ob with
   | root own e ts xs =>
    cases own with
    | true => exact hr
    | false => exact ym6 (i := 0) h ho hr
   | _ => trivial
 | .win o q, v, hr => trivial
 | .tl o q, v, hr => trivial
 | .top e ts xs, v, hr => trivial
 | .box b off, v, hr => by
  simp only [A.resolve]
  cases ho : z4 s.o b with
  | none => trivial
  | some ob =>
   cases ob with
   | box cs =>
    cases hb : Nat.blt b 10000000 with
    | true => exact hr
    | false => trivial
   | _ => trivial
 | .clo f b, v, hr => by
  simp only [A.resolve]
  cases ho : z4 s.o b with
  | none => trivial
  | some ob =>
   cases ob with
   | box cs =>
    cases hb : Nat.blt b 10000000 with
    | true => exact hr
    | false => trivial
   | _ => trivial
 | .agg l, v, hr => by
  obtain ⟨cs, rfl, hl⟩ := hr
  exact ⟨cs, rfl, RL.resolve h l cs hl⟩
 | .tup l, v, hr => by
  obtain ⟨cs, rfl, hl⟩ := hr
  exact ⟨cs, rfl, RL.resolve h l cs hl⟩
 | .dead, _, _ | .und, _, _ => trivial
 | .val _ _, _, hr | .nils, _, hr | .nilp, _, hr | .elp _ _ _ _ _, _, hr | .fn _, _, hr => hr
theorem RL.resolve (h : Rel P w0 lent H0 s a w G) : ∀ (l : List A) (vs : List Value), RL G l vs → RL G (Ys (z4 s.o) l) vs
 | [], [], _ => trivial
 | a :: l, v :: vs, hr => ⟨RA.resolve h a v hr.1, RL.resolve h l vs hr.2⟩
end
theorem Qt (lk : Lk) : ∀ (l : List A) (j : Nat), (Ys lk l)[j]? = (l[j]?).map (A.resolve lk)
 | [], j => by simp [Ys]
 | a :: l, 0 => by simp [Ys]
 | a :: l, j + 1 => by simpa [Ys] using Qt lk l j
theorem y6o (m : Nat → Nat) : ∀ (l : List A) (j : Nat), (y9E m l)[j]? = (l[j]?).map (A.ren m)
 | [], j => by simp [y9E]
 | a :: l, 0 => by simp [y9E]
 | a :: l, j + 1 => by simpa [y9E] using y6o m l j
theorem y8u (l : List Nat) : ∀ (t : List A) (i j : Nat), (y6b l i t)[j]? = (t[j]?).map (fun a => bif Vi l (i + j) then a else .dead)
 | [], i, j => by simp [y6b]
 | a :: t, i, 0 => by simp [y6b]
 | a :: t, i, j + 1 => by
  have := y8u l t (i + 1) j
  rw [show i + 1 + j = i + (j + 1) by omega] at this
  simpa [y6b] using this
def yge (lk : Lk) (i : Nat) : Prop := (∃ ob, lk i = some ob ∧ y28 ob) ∨ ((∃ cs, lk i = some (.box cs)) ∧ i < 10000000)
mutual
theorem A.resolve_ids (lk : Lk) : ∀ (x : A) (i : Nat), i ∈ (x.resolve lk).ids → yge lk i
 | .own o, i, h => by
  simp only [A.resolve] at h
  split at h
  ·rename_i e ts xs ho
   simp only [A.ids, List.mem_singleton] at h
   subst h
   exact .inl ⟨_, ho, e, ts, xs, rfl⟩
  ·simp [A.ids] at h
  ·simp [A.ids] at h
 | .rtp o j c, i, h => by
  simp only [A.resolve] at h
  split at h
  ·rename_i e ts xs ho
   simp only [A.ids, List.mem_singleton] at h
   subst h
   exact .inl ⟨_, ho, e, ts, xs, rfl⟩
  ·simp [A.ids] at h
  ·simp [A.ids] at h
 | .win o q, i, h => by simp [A.resolve, A.ids] at h
 | .tl o q, i, h => by simp [A.resolve, A.ids] at h
 | .top e ts xs, i, h => by simp [A.resolve, A.ids] at h
 | .box b off, i, h => by
  simp only [A.resolve] at h
  split at h
  ·rename_i cs ho
   cases hb : Nat.blt b 10000000 with
   | true =>
    rw [hb, cond_true] at h
    simp only [A.ids, List.mem_singleton] at h
    subst h
    exact .inr ⟨⟨cs, ho⟩, kD hb⟩
   | false =>
    rw [hb, cond_false] at h
    simp [A.ids] at h
  ·simp [A.ids] at h
 | .clo f b, i, h => by
  simp only [A.resolve] at h
  split at h
  ·rename_i cs ho
   cases hb : Nat.blt b 10000000 with
   | true =>
    rw [hb, cond_true] at h
    simp only [A.ids, List.mem_singleton] at h
    subst h
    exact .inr ⟨⟨cs, ho⟩, kD hb⟩
   | false =>
    rw [hb, cond_false] at h
    simp [A.ids] at h
  ·simp [A.ids] at h
 | .agg l, i, h => by
  simp only [A.resolve, A.ids] at h
  exact Ky lk l i h
 | .tup l, i, h => by
  simp only [A.resolve, A.ids] at h
  exact Ky lk l i h
 | .dead, _, h | .und, _, h | .val _ _, _, h | .nils, _, h | .nilp, _, h | .elp _ _ _ _ _, _, h | .fn _, _, h => by simp [A.resolve, A.ids] at h
theorem Ky (lk : Lk) : ∀ (l : List A) (i : Nat), i ∈ jk (Ys lk l) → yge lk i
 | [], i, h => by simp [Ys, jk] at h
 | a :: l, i, h => by
  simp only [Ys, jk, List.mem_append] at h
  exact h.elim (A.resolve_ids lk a i) (Ky lk l i)
end
def Gh.via (G : Gh) (inv : Nat → Nat) : Gh := { H := G.H, g := fun i => G.g (inv i), sv := fun i => G.sv (inv i), sz := fun i => G.sz (inv i), pv := G.pv }
mutual
theorem RA.ren {G : Gh} {m inv : Nat → Nat} : ∀ (x : A) (v : Value), RA G x v → (∀ i ∈ x.ids, inv (m i) = i) → RA (G.via inv) (x.ren m) v
 | .own o, v, hr, hi => by
  have := hi o (by simp [A.ids])
  simp only [A.ren, RA, Gh.via, this] at *
  exact hr
 | .rtp o i c, v, hr, hi => by
  have := hi o (by simp [A.ids])
  simp only [A.ren, RA, Gh.via, this] at *
  exact hr
 | .win o q, v, hr, hi => by
  have := hi o (by simp [A.ids])
  simp only [A.ren, RA, Gh.via, this] at *
  exact hr
 | .tl o q, v, hr, hi => by
  have := hi o (by simp [A.ids])
  simp only [A.ren, RA, Gh.via, this] at *
  exact hr
 | .box b off, v, hr, hi => by
  have := hi b (by simp [A.ids])
  simp only [A.ren, RA, Gh.via, this] at *
  exact hr
 | .clo f b, v, hr, hi => by
  have := hi b (by simp [A.ids])
  simp only [A.ren, RA, Gh.via, this] at *
  exact hr
 | .agg l, v, hr, hi => by
  obtain ⟨cs, rfl, hl⟩ := hr
  exact ⟨cs, rfl, RL.ren l cs hl (fun i h => hi i (by simpa [A.ids] using h))⟩
 | .tup l, v, hr, hi => by
  obtain ⟨cs, rfl, hl⟩ := hr
  exact ⟨cs, rfl, RL.ren l cs hl (fun i h => hi i (by simpa [A.ids] using h))⟩
 | .dead, _, _, _ => trivial
 | .und, _, hr, _ | .val _ _, _, hr, _ | .nils, _, hr, _ | .nilp, _, hr, _ | .elp _ _ _ _ _, _, hr, _ | .top _ _ _, _, hr, _ | .fn _, _, hr, _ => hr
theorem RL.ren {G : Gh} {m inv : Nat → Nat} : ∀ (l : List A) (vs : List Value), RL G l vs → (∀ i ∈ jk l, inv (m i) = i) → RL (G.via inv) (y9E m l) vs
 | [], [], _, _ => trivial
 | a :: l, v :: vs, hr, hi => ⟨RA.ren a v hr.1 (fun i h => hi i (by simp [jk, h])), RL.ren l vs hr.2 (fun i h => hi i (by simp [jk, h]))⟩
end
theorem y6p : ∀ (l seen : List Nat) (i : Nat), i ∈ l → i ∉ seen → i ∈ ycE seen l
 | j :: l, seen, i, h, hs => by
  rw [ycE]
  cases hm : Vi seen j with
  | true =>
   rw [cond_true]
   have hne : i ≠ j := fun e => hs (e ▸ JV.1 hm)
   exact y6p l seen i ((List.mem_cons.1 h).resolve_left hne) hs
  | false =>
   rw [cond_false]
   by_cases hij : i = j
   ·simp [hij]
   ·exact List.mem_cons_of_mem _ (y6p l (j :: seen) i ((List.mem_cons.1 h).resolve_left hij) (by simp [hij, hs]))
theorem y6q : ∀ (l seen : List Nat) (i : Nat), i ∈ ycE seen l → i ∈ l ∧ i ∉ seen
 | j :: l, seen, i, h => by
  rw [ycE] at h
  cases hm : Vi seen j with
  | true =>
   rw [hm, cond_true] at h
   obtain ⟨h1, h2⟩ := y6q l seen i h
   exact ⟨by simp [h1], h2⟩
  | false =>
   rw [hm, cond_false] at h
   rcases List.mem_cons.1 h with rfl | h
   ·refine ⟨by simp, fun hs => ?_⟩
    rw [JV.2 hs] at hm
    cases hm
   ·obtain ⟨h1, h2⟩ := y6q l (j :: seen) i h
    simp only [List.mem_cons, not_or] at h2
    exact ⟨by simp [h1], h2.2⟩
theorem y2b : ∀ (l seen : List Nat), (ycE seen l).Nodup
 | [], _ => by simp [ycE]
 | j :: l, seen => by
  rw [ycE]
  cases hm : Vi seen j with
  | true => exact y2b l seen
  | false => exact List.nodup_cons.2 ⟨fun h => (y6q l (j :: seen) j h).2 (by simp), y2b l (j :: seen)⟩
theorem y2c (lk : Lk) (i : Nat) (l : List Nat) : (∃ ob, lk i = some ob ∧ y28 ob ∧ y24 lk (i :: l) = (i, ob) :: y24 lk l) ∨ ((∀ ob, lk i = some ob → ¬ y28 ob) ∧ y24 lk (i :: l) = y24 lk l) := by
 rw [y24]
 cases hi : lk i with
 | none => exact .inr ⟨fun ob h => by (cases h), rfl⟩
 | some ob =>
  cases ob with
  | root own e ts xs =>
   cases own with
   | true => exact .inl ⟨_, rfl, ⟨e, ts, xs, rfl⟩, rfl⟩
   | false =>
    refine .inr ⟨fun ob h how => ?_, rfl⟩
    injection h with h
    subst h
    obtain ⟨_, _, _, h⟩ := how
    cases h
  | _ =>
   refine .inr ⟨fun ob h how => ?_, rfl⟩
   injection h with h
   subst h
   obtain ⟨_, _, _, h⟩ := how
   cases h
theorem y0n (lk : Lk) : ∀ (l : List Nat) (p : Nat × Ob), p ∈ y24 lk l → p.1 ∈ l ∧ lk p.1 = some p.2 ∧ y28 p.2
 | i :: l, p, h => by
  rcases y2c lk i l with ⟨ob, hi, how, he⟩ | ⟨_, he⟩
  ·rw [he] at h
   rcases List.mem_cons.1 h with rfl | h
   ·exact ⟨by simp, hi, how⟩
   ·obtain ⟨h1, h2⟩ := y0n lk l p h
    exact ⟨by simp [h1], h2⟩
  ·rw [he] at h
   obtain ⟨h1, h2⟩ := y0n lk l p h
   exact ⟨by simp [h1], h2⟩
theorem y45 (lk : Lk) : ∀ (l : List Nat) (i : Nat) (ob : Ob), i ∈ l → lk i = some ob → y28 ob → i ∈ zh (y24 lk l)
 | j :: l, i, ob, h, hi, how => by
  rcases y2c lk j l with ⟨ob', _, _, he⟩ | ⟨hno, he⟩
  ·rw [he]
   rcases List.mem_cons.1 h with rfl | h
   ·simp [zh]
   ·simp [zh, y45 lk l i ob h hi how]
  ·rw [he]
   rcases List.mem_cons.1 h with rfl | h
   ·exact absurd how (hno ob hi)
   ·exact y45 lk l i ob h hi how
theorem y11 (lk : Lk) : ∀ (l : List Nat), l.Nodup → (zh (y24 lk l)).Nodup
 | [], _ => by simp [y24, zh]
 | i :: l, h => by
  have hn := List.nodup_cons.1 h
  rcases y2c lk i l with ⟨ob', _, _, he⟩ | ⟨_, he⟩
  ·rw [he]
   refine List.nodup_cons.2 ⟨fun hm => ?_, y11 lk l hn.2⟩
   rw [Wn] at hm
   obtain ⟨p, hp, rfl⟩ := List.mem_map.1 hm
   exact hn.1 (y0n lk l p hp).1
  ·rw [he]
   exact y11 lk l hn.2
theorem y28.box {cs : List A} (h : y28 (.box cs)) : False := by obtain ⟨_, _, _, h⟩ := h; cases h
theorem y28.same {G G' : Gh} {i j : Nat} {ob : Ob} (h : y28 ob) (hg : G'.g i = G.g j) (hs : G'.sv i = G.sv j) (hz : G'.sz i = G.sz j) (hH : G'.H = G.H) {w : World} : (∀ k, zR G' i ob k → zR G j ob k) ∧ (RO G w j ob → RO G' w i ob) := by
 obtain ⟨e, ts, xs, rfl⟩ := h
 refine ⟨fun k hk => ?_, fun hro => ?_⟩
 ·have hk' : (G'.sv i).ownBlock = some k := hk
  rw [hs] at hk'
  exact hk'
 ·obtain ⟨h1, h2, cells, h3, h4, h5, h6⟩ := hro
  exact ⟨by rw [hz]; exact h1, h2, cells, by rw [hs]; exact h3, h4, by rw [hs, hg]; exact h5, by rw [hH]; exact h6⟩
theorem y2d (lk : Lk) : ∀ (l : List Nat) (p : Nat × List A), p ∈ ycD lk l → ∃ cs, lk p.1 = some (.box cs) ∧ p.2 = Ys lk cs
 | i :: l, p, h => by
  rw [ycD] at h
  split at h
  ·rename_i cs hi
   rcases List.mem_cons.1 h with rfl | h
   ·exact ⟨cs, hi, rfl⟩
   ·exact y2d lk l p h
  ·exact y2d lk l p h
theorem ybz : ∀ (l : List (Nat × List A)) (p : Nat × List A) (i : Nat), p ∈ l → i ∈ jk p.2 → i ∈ ylI l
 | (j, cs) :: l, p, i, hp, hi => by
  rw [ylI, List.mem_append]
  rcases List.mem_cons.1 hp with rfl | hp
  ·exact .inl hi
  ·exact .inr (ybz l p i hp hi)
theorem ybA : ∀ (rs : List (Nat × Ob)) (n i : Nat), i ∈ zh rs → ∃ k, y1l rs n i = n + k ∧ (zh rs)[k]? = some i
 | (j, x) :: rs, n, i, h => by
  rw [y1l]
  by_cases hj : j = i
  ·subst hj
   rw [yw, cond_true]
   exact ⟨0, rfl, rfl⟩
  ·rw [yF hj, cond_false]
   simp only [zh, List.mem_cons] at h
   obtain ⟨k, h1, h2⟩ := ybA rs (n + 1) i (h.resolve_left fun e => hj e.symm)
   exact ⟨k + 1, by omega, by simpa [zh] using h2⟩
theorem y8v : ∀ (rs : List (Nat × Ob)) (n i : Nat), i ∉ zh rs → y1l rs n i = i
 | [], _, _, _ => rfl
 | (j, x) :: rs, n, i, h => by
  simp only [zh, List.mem_cons, not_or] at h
  rw [y1l, yF (fun e : j = i => h.1 e.symm), cond_false]
  exact y8v rs (n + 1) i h.2
theorem ya5 (l l' : List (Nat × Ob)) (i : Nat) : z4 (l ++ l') i = (z4 l i).or (z4 l' i) := by
 induction l with
 | nil => rfl
 | cons p l ih =>
  obtain ⟨j, x⟩ := p
  by_cases hj : j = i
  ·subst hj
   simp [z4, yw]
  ·simp only [List.cons_append, z4, yF hj, cond_false, ih]
theorem y8w (m : Nat → Nat) : ∀ (l : List (Nat × List A)) (i : Nat) (ob : Ob), z4 (yj8 m l) i = some ob → ∃ cs, (i, cs) ∈ l ∧ ob = .box (y9E m cs)
 | (j, cs) :: l, i, ob, h => by
  rw [yj8, z4] at h
  by_cases hj : j = i
  ·subst hj
   rw [yw, cond_true] at h
   injection h with h
   exact ⟨cs, by simp, h.symm⟩
  ·rw [yF hj, cond_false] at h
   obtain ⟨cs', h1, h2⟩ := y8w m l i ob h
   exact ⟨cs', by simp [h1], h2⟩
theorem y8x : ∀ (l : List (Nat × Ob)) (n i : Nat) (ob : Ob), z4 (yj9 l n) i = some ob → ∃ k j, i = n + k ∧ l[k]? = some (j, ob)
 | (j, x) :: l, n, i, ob, h => by
  rw [yj9, z4] at h
  by_cases hj : n = i
  ·subst hj
   rw [yw, cond_true] at h
   injection h with h
   exact ⟨0, j, rfl, by simp [h]⟩
  ·rw [yF hj, cond_false] at h
   obtain ⟨k, j', h1, h2⟩ := y8x l (n + 1) i ob h
   exact ⟨k + 1, j', by omega, by simpa using h2⟩
theorem y1z {n : Nat} : ∀ {l : List Nat}, y1m n l = true → ∀ i ∈ l, i < n
 | j :: l, h, i, hi => by
  simp only [y1m, Bool.and_eq_true] at h
  rcases List.mem_cons.1 hi with rfl | hi
  ·exact kD h.1
  ·exact y1z h.2 i hi
theorem Rel.keep (h : Rel P w0 lent H0 s a w G) {l : List Nat} {s' : St} (hk : s.keep l = some s') : ∃ G', Rel P w0 lent H0 s' a w G' := by
 unfold St.keep at hk
 generalize ht : Ys (z4 s.o) (y6b l 0 s.t) = t at hk
 try simp only at hk
 generalize hbx : ycD (z4 s.o) (ycE [] (jk t)) = bx at hk
 try simp only at hk
 generalize hrs : y24 (z4 s.o) (ycE [] (jk t ++ ylI bx)) = rs at hk
 try simp only at hk
 cases hb : y1m 10000000 (zh bx) with
 | false => simp [hb] at hk
 | true =>
  rw [hb, cond_true] at hk
  injection hk with hk
  subst hk
  have hlow := y1z hb
  let inv : Nat → Nat := fun i => if 10000000 ≤ i then (zh rs).getD (i - 10000000) i else i
  have hrsp : ∀ p ∈ rs, z4 s.o p.1 = some p.2 ∧ y28 p.2 := fun p hp => by
   rw [← hrs] at hp
   exact (y0n _ _ p hp).2
  have hbxp : ∀ p ∈ bx, ∃ cs, z4 s.o p.1 = some (.box cs) ∧ p.2 = Ys (z4 s.o) cs := fun p hp => by
   rw [← hbx] at hp
   exact y2d _ _ p hp
  have hinvk : ∀ (k j : Nat), (zh rs)[k]? = some j → inv (10000000 + k) = j := fun k j hkj => by
   show (if 10000000 ≤ 10000000 + k then (zh rs).getD (10000000 + k - 10000000) (10000000 + k) else 10000000 + k) = j
   rw [if_pos (by omega), show 10000000 + k - 10000000 = k by omega, List.getD_eq_getElem?_getD, hkj]
   rfl
  have hinvl : ∀ i, i < 10000000 → inv i = i := fun i hi => if_neg (by omega)
  have hid : ∀ i, yge (z4 s.o) i → i ∈ jk t ++ ylI bx → inv (y1l rs 10000000 i) = i := fun i hkn hm => by
   rcases hkn with ⟨ob, hi, how⟩ | ⟨⟨cs, hi⟩, hlt⟩
   ·have : i ∈ zh rs := by
     rw [← hrs]
     exact y45 _ _ i ob (y6p _ _ i hm (by simp)) hi how
    obtain ⟨k, h1, h2⟩ := ybA rs 10000000 i this
    rw [h1]
    exact hinvk k i h2
   ·have : i ∉ zh rs := fun hm => by
     rw [Wn] at hm
     obtain ⟨p, hp, rfl⟩ := List.mem_map.1 hm
     obtain ⟨h1, h2⟩ := hrsp p hp
     rw [hi] at h1
     injection h1 with h1
     rw [← h1] at h2
     exact h2.box
    rw [y8v _ _ _ this]
    exact hinvl i hlt
  have hlook : ∀ (i : Nat) (ob : Ob), z4 (yj8 (y1l rs 10000000) bx ++ yj9 rs 10000000) i = some ob →
    (∃ cs, z4 s.o i = some (.box cs) ∧ i < 10000000 ∧ (i, Ys (z4 s.o) cs) ∈ bx ∧ ob = .box (y9E (y1l rs 10000000) (Ys (z4 s.o) cs))) ∨ (∃ k j, i = 10000000 + k ∧ (zh rs)[k]? = some j ∧ z4 s.o j = some ob ∧ y28 ob) := fun i ob hi => by
   rw [ya5] at hi
   cases h1 : z4 (yj8 (y1l rs 10000000) bx) i with
   | some ob' =>
    rw [h1] at hi
    have hi' : ob' = ob := by simpa using hi
    subst hi'
    obtain ⟨cs, hm, rfl⟩ := y8w _ _ _ _ h1
    obtain ⟨cs0, hc, hcs⟩ := hbxp _ hm
    simp only at hc hcs
    subst hcs
    refine .inl ⟨cs0, hc, hlow i ?_, hm, rfl⟩
    rw [Wn]
    exact List.mem_map_of_mem (f := fun p : Nat × List A => p.1) hm
   | none =>
    rw [h1] at hi
    have hi' : z4 (yj9 rs 10000000) i = some ob := by simpa using hi
    obtain ⟨k, j, h2, h3⟩ := y8x _ _ _ _ hi'
    obtain ⟨h4, h5⟩ := hrsp (j, ob) (List.mem_of_getElem? h3)
    exact .inr ⟨k, j, h2, by rw [Wn, List.getElem?_map, h3]; rfl, h4, h5⟩
  have hnd : (zh rs).Nodup := by
   rw [← hrs]
   exact y11 _ _ (y2b _ _)
  have hold : ∀ (i : Nat) (ob : Ob) (k : Nat), z4 (yj8 (y1l rs 10000000) bx ++ yj9 rs 10000000) i = some ob → zR (G.via inv) i ob k → ∃ o1, z4 s.o (inv i) = some o1 ∧ zR G (inv i) o1 k := fun i ob k hi hbk => by
   rcases hlook i ob hi with ⟨cs, h1, h2, _, rfl⟩ | ⟨k', j, rfl, h1, h2, how⟩
   ·rw [hinvl i h2]
    refine ⟨_, h1, ?_⟩
    simpa [zR, Gh.via, hinvl i h2] using hbk
   ·rw [hinvk k' j h1]
    have hv := hinvk k' j h1
    exact ⟨_, h2, (how.same (G := G) (G' := G.via inv) (i := 10000000 + k') (j := j) (w := w) (by simp [Gh.via, hv]) (by simp [Gh.via, hv]) (by simp [Gh.via, hv]) rfl).1 k hbk⟩
  have htid : ∀ i ∈ jk t, yge (z4 s.o) i := fun i hi => by
   rw [← ht] at hi
   exact Ky _ _ i hi
  refine ⟨G.via inv, { h with inH := h.inH, base := h.base, pv := h.pv, hnew := h.hnew, defers := h.defers, len := ?_, slots := fun i x hx => ?_, objs := fun i ob hi => ?_, away := fun i ob k hi hbk => ?_, apart := fun i j oi oj k hi hj hbi hbj => ?_, pin := fun i ob b hi hp => ?_ }⟩
  ·have hl := h.len
   have h1 : ∀ l : List A, (y9E (y1l rs 10000000) l).length = l.length := fun l => by
    induction l with
    | nil => rfl
    | cons a l ih => simp [y9E, ih]
   have h2 : ∀ l : List A, (Ys (z4 s.o) l).length = l.length := fun l => by
    induction l with
    | nil => rfl
    | cons a l ih => simp [Ys, ih]
   have h3 : ∀ (l : List Nat) (t : List A) (i : Nat), (y6b l i t).length = t.length := fun l t => by
    induction t with
    | nil => intro i; rfl
    | cons a t ih => intro i; simp [y6b, ih]
   simp only [h1, ← ht, h2, h3]
   exact hl
  ·have hx' : (y9E (y1l rs 10000000) t)[i]? = some x := hx
   rw [y6o] at hx'
   obtain ⟨y, hy, rfl⟩ := Option.map_eq_some_iff.1 hx'
   have hmem : ∀ j ∈ y.ids, j ∈ jk t := fun j hj => by
    have : ∀ (l : List A) (i : Nat) (y : A), l[i]? = some y → ∀ j ∈ y.ids, j ∈ jk l := by
     intro l
     induction l with
     | nil => intro i y hy; simp at hy
     | cons b l ihl =>
      intro i y hy j hj
      cases i with
      | zero =>
       simp only [List.getElem?_cons_zero, Option.some.injEq] at hy
       subst hy
       simp [jk, hj]
      | succ i => simp [jk, ihl i y (by simpa using hy) j hj]
    exact this t i y hy j hj
   refine RA.ren y _ ?_ (fun j hj => hid j (htid j (hmem j hj)) (by simp [hmem j hj]))
   rw [← ht, Qt] at hy
   obtain ⟨u, hu, rfl⟩ := Option.map_eq_some_iff.1 hy
   refine RA.resolve h u _ ?_
   rw [y8u] at hu
   obtain ⟨u', hu', rfl⟩ := Option.map_eq_some_iff.1 hu
   cases Vi l (0 + i) with
   | true => exact h.slots i u' hu'
   | false => trivial
  ·rcases hlook i ob hi with ⟨cs, h1, h2, h3, rfl⟩ | ⟨k, j, rfl, h1, h2, how⟩
   ·have hro := h.objs i _ h1
    refine ⟨by simp only [Gh.via, hinvl i h2]; exact hro.1, fun j x hx => ?_⟩
    rw [y6o] at hx
    obtain ⟨y, hy, rfl⟩ := Option.map_eq_some_iff.1 hx
    have hyy := hy
    rw [Qt] at hy
    obtain ⟨u, hu, rfl⟩ := Option.map_eq_some_iff.1 hy
    obtain ⟨f1, v, f2, f3, f4⟩ := hro.2 j u hu
    simp only [Gh.via, hinvl i h2]
    refine ⟨f1, v, f2, f3, RA.ren _ _ (RA.resolve h u v f4) (fun m hm => ?_)⟩
    have hmm : m ∈ jk (Ys (z4 s.o) cs) := by
     have : ∀ (l : List A) (i : Nat) (y : A), l[i]? = some y → ∀ j ∈ y.ids, j ∈ jk l := by
      intro l
      induction l with
      | nil => intro i y hy; simp at hy
      | cons b l ihl =>
       intro i y hy j hj
       cases i with
       | zero =>
        simp only [List.getElem?_cons_zero, Option.some.injEq] at hy
        subst hy
        simp [jk, hj]
       | succ i => simp [jk, ihl i y (by simpa using hy) j hj]
     exact this _ j _ hyy m hm
    exact hid m (Ky _ _ m hmm) (List.mem_append_right _ (ybz bx _ m h3 hmm))
   ·have hro := h.objs j _ h2
    have hv := hinvk k j h1
    exact (how.same (G := G) (G' := G.via inv) (i := 10000000 + k) (j := j) (w := w) (by simp [Gh.via, hv]) (by simp [Gh.via, hv]) (by simp [Gh.via, hv]) rfl).2 hro
  ·obtain ⟨o1, h1, h2⟩ := hold i ob k hi hbk
   exact h.away _ o1 k h1 h2
  ·obtain ⟨o1, h1, h2⟩ := hold i oi k hi hbi
   obtain ⟨o2, h3, h4⟩ := hold j oj k hj hbj
   have heq := h.apart _ _ o1 o2 k h1 h3 h2 h4
   rcases hlook i oi hi with ⟨cs, a1, a2, _, rfl⟩ | ⟨k1, j1, rfl, a1, a2, how1⟩ <;> rcases hlook j oj hj with ⟨cs', b1, b2, _, rfl⟩ | ⟨k2, j2, rfl, b1, b2, how2⟩
   ·rw [hinvl i a2, hinvl j b2] at heq
    exact heq
   ·rw [hinvl i a2, hinvk k2 j2 b1] at heq
    subst heq
    rw [a1] at b2
    injection b2 with b2
    rw [← b2] at how2
    exact how2.box.elim
   ·rw [hinvk k1 j1 a1, hinvl j b2] at heq
    subst heq
    rw [b1] at a2
    injection a2 with a2
    rw [← a2] at how1
    exact how1.box.elim
   ·rw [hinvk k1 j1 a1, hinvk k2 j2 b1] at heq
    subst heq
    have hl1 := (List.getElem?_eq_some_iff.1 a1).1
    have := (List.getElem?_inj hl1 hnd).1 (a1.trans b1.symm)
    rw [this]
  ·rcases hlook i ob hi with ⟨cs, h1, h2, _, rfl⟩ | ⟨k, j, rfl, h1, h2, _⟩
   ·simp only [Gh.via, hinvl i h2]
    exact h.pin i _ b h1 hp
   ·have := H0.ok _ b hp
    omega
end Go.Proofs.YtgediecndaheiaaGreat.R
