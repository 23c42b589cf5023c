/- What is kept at a loop's head. No condition. -/
import Derived.Test.YtjllpipmaejeoaaGreatRDraw
set_option linter.all false
namespace Go.Proofs.YtjllpipmaejeoaaGreat.R
open Go.RowKit
variable {P : Program} {C : Ctx} {w0 : World} {lent : Nat → Prop} {H0 : Base} {s : St} {a : Act} {w : World} {G : Gh}
theorem ynO (h : Rel P w0 lent H0 s a w G) {o e i c : Nat} {ts : List Ty} {xs : List (zj ts)} (ho : zb s.o o = some (.root false e ts xs)) {n : Int} {v : Value} (hr : RA G (.rtp o n c) v) : RA G (.elp e ts xs n c) v := by
 obtain ⟨hsz, hpos, hrd, hb⟩ := h.objs o _ ho
 obtain ⟨A, cap, e1, _, _, hx⟩ := hrd
 obtain ⟨hv, hlt⟩ := hr
 rw [hsz] at hlt hv
 simp only at hlt hv
 have hp : 0 < List.length xs := by omega
 obtain ⟨ad, ea, hx⟩ := hx hp
 obtain ⟨cap', e2⟩ := hb hp
 rw [e1] at e2
 injection e2 with e3
 rw [ea] at e3
 injection e3 with e3
 refine ⟨ad, ?_, hlt, hx⟩
 rw [hv, e3, Kv]
mutual
theorem RA.resolve (h : Rel P w0 lent H0 s a w G) : ∀ (x : A) (v : Value), RA G x v → RA G (x.resolve (zb s.o)) v
 | .own o, v, hr => by
  simp only [A.resolve]
  cases ho : zb s.o o with
  | none => trivial
  | some ob =>
   cases ob with
   | root own e ts xs =>
    cases own with
    | true => exact hr
    | false =>
     have := (h.objs o _ ho).2.2.1
     rw [← hr.1] at this
     exact this
   | _ => trivial
 | .rtp o i c, v, hr => by
  simp only [A.resolve]
  cases ho : zb s.o o with
  | none => trivial
  | some ob =>
   cases ob with
   | root own e ts xs =>
    cases own with
    | true => exact hr
    | false => exact ynO (i := 0) h ho hr
   | _ => trivial
 | .win o q, v, hr => trivial
 | .tl o q, v, hr => trivial
 | .top e ts xs, v, hr => trivial
 | .box b off, v, hr => by
  simp only [A.resolve]
  cases ho : zb s.o b with
  | none => trivial
  | some ob =>
   cases ob with
   | box cs =>
    cases hb : Nat.blt b 10000000 with
    | true => exact hr
    | false => trivial
   | _ => trivial
 | .clo f b, v, hr => by
  simp only [A.resolve]
  cases ho : zb s.o b with
  | none => trivial
  | some ob =>
   cases ob with
   | box cs =>
    cases hb : Nat.blt b 10000000 with
    | true => exact hr
    | false => trivial
   | _ => trivial
 | .agg l, v, hr => by
  obtain ⟨cs, rfl, hl⟩ := hr
  exact ⟨cs, rfl, RL.resolve h l cs hl⟩
 | .tup l, v, hr => by
  obtain ⟨cs, rfl, hl⟩ := hr
  exact ⟨cs, rfl, RL.resolve h l cs hl⟩
 | .dead, _, _ | .und, _, _ => trivial
 | .val _ _, _, hr | .nils, _, hr | .nilp, _, hr | .elp _ _ _ _ _, _, hr | .fn _, _, hr => hr
theorem RL.resolve (h : Rel P w0 lent H0 s a w G) : ∀ (l : List A) (vs : List Value), RL G l vs → RL G (Yr (zb s.o) l) vs
 | [], [], _ => trivial
 | a :: l, v :: vs, hr => ⟨RA.resolve h a v hr.1, RL.resolve h l vs hr.2⟩
end
theorem QH (lk : Lk) : ∀ (l : List A) (j : Nat), (Yr lk l)[j]? = (l[j]?).map (A.resolve lk)
 | [], j => by simp [Yr]
 | a :: l, 0 => by simp [Yr]
 | a :: l, j + 1 => by simpa [Yr] using QH lk l j
theorem y7a (m : Nat → Nat) : ∀ (l : List A) (j : Nat), (yb2 m l)[j]? = (l[j]?).map (A.ren m)
 | [], j => by simp [yb2]
 | a :: l, 0 => by simp [yb2]
 | a :: l, j + 1 => by simpa [yb2] using y7a m l j
theorem y9y (l : List Nat) : ∀ (t : List A) (i j : Nat), (y6W l i t)[j]? = (t[j]?).map (fun a => bif Vp l (i + j) then a else .dead)
 | [], i, j => by simp [y6W]
 | a :: t, i, 0 => by simp [y6W]
 | a :: t, i, j + 1 => by
  have := y9y l t (i + 1) j
  rw [show i + 1 + j = i + (j + 1) by omega] at this
  simpa [y6W] using this
def yhX (lk : Lk) (i : Nat) : Prop := (∃ ob, lk i = some ob ∧ y2J ob) ∨ ((∃ cs, lk i = some (.box cs)) ∧ i < 10000000)
mutual
theorem A.resolve_ids (lk : Lk) : ∀ (x : A) (i : Nat), i ∈ (x.resolve lk).ids → yhX lk i
 | .own o, i, h => by
  simp only [A.resolve] at h
  split at h
  ·rename_i e ts xs ho
   simp only [A.ids, List.mem_singleton] at h
   subst h
   exact .inl ⟨_, ho, e, ts, xs, rfl⟩
  ·simp [A.ids] at h
  ·simp [A.ids] at h
 | .rtp o j c, i, h => by
  simp only [A.resolve] at h
  split at h
  ·rename_i e ts xs ho
   simp only [A.ids, List.mem_singleton] at h
   subst h
   exact .inl ⟨_, ho, e, ts, xs, rfl⟩
  ·simp [A.ids] at h
  ·simp [A.ids] at h
 | .win o q, i, h => by simp [A.resolve, A.ids] at h
 | .tl o q, i, h => by simp [A.resolve, A.ids] at h
 | .top e ts xs, i, h => by simp [A.resolve, A.ids] at h
 | .box b off, i, h => by
  simp only [A.resolve] at h
  split at h
  ·rename_i cs ho
   cases hb : Nat.blt b 10000000 with
   | true =>
    rw [hb, cond_true] at h
    simp only [A.ids, List.mem_singleton] at h
    subst h
    exact .inr ⟨⟨cs, ho⟩, kC hb⟩
   | false =>
    rw [hb, cond_false] at h
    simp [A.ids] at h
  ·simp [A.ids] at h
 | .clo f b, i, h => by
  simp only [A.resolve] at h
  split at h
  ·rename_i cs ho
   cases hb : Nat.blt b 10000000 with
   | true =>
    rw [hb, cond_true] at h
    simp only [A.ids, List.mem_singleton] at h
    subst h
    exact .inr ⟨⟨cs, ho⟩, kC hb⟩
   | false =>
    rw [hb, cond_false] at h
    simp [A.ids] at h
  ·simp [A.ids] at h
 | .agg l, i, h => by
  simp only [A.resolve, A.ids] at h
  exact Kx lk l i h
 | .tup l, i, h => by
  simp only [A.resolve, A.ids] at h
  exact Kx lk l i h
 | .dead, _, h | .und, _, h | .val _ _, _, h | .nils, _, h | .nilp, _, h | .elp _ _ _ _ _, _, h | .fn _, _, h => by simp [A.resolve, A.ids] at h
theorem Kx (lk : Lk) : ∀ (l : List A) (i : Nat), i ∈ ji (Yr lk l) → yhX lk i
 | [], i, h => by simp [Yr, ji] at h
 | a :: l, i, h => by
  simp only [Yr, ji, List.mem_append] at h
  exact h.elim (A.resolve_ids lk a i) (Kx lk l i)
end
def Gh.via (G : Gh) (inv : Nat → Nat) : Gh := { H := G.H, g := fun i => G.g (inv i), sv := fun i => G.sv (inv i), sz := fun i => G.sz (inv i), pv := G.pv }
mutual
theorem RA.ren {G : Gh} {m inv : Nat → Nat} : ∀ (x : A) (v : Value), RA G x v → (∀ i ∈ x.ids, inv (m i) = i) → RA (G.via inv) (x.ren m) v
 | .own o, v, hr, hi => by
  have := hi o (by simp [A.ids])
  simp only [A.ren, RA, Gh.via, this] at *
  exact hr
 | .rtp o i c, v, hr, hi => by
  have := hi o (by simp [A.ids])
  simp only [A.ren, RA, Gh.via, this] at *
  exact hr
 | .win o q, v, hr, hi => by
  have := hi o (by simp [A.ids])
  simp only [A.ren, RA, Gh.via, this] at *
  exact hr
 | .tl o q, v, hr, hi => by
  have := hi o (by simp [A.ids])
  simp only [A.ren, RA, Gh.via, this] at *
  exact hr
 | .box b off, v, hr, hi => by
  have := hi b (by simp [A.ids])
  simp only [A.ren, RA, Gh.via, this] at *
  exact hr
 | .clo f b, v, hr, hi => by
  have := hi b (by simp [A.ids])
  simp only [A.ren, RA, Gh.via, this] at *
  exact hr
 | .agg l, v, hr, hi => by
  obtain ⟨cs, rfl, hl⟩ := hr
  exact ⟨cs, rfl, RL.ren l cs hl (fun i h => hi i (by simpa [A.ids] using h))⟩
 | .tup l, v, hr, hi => by
  obtain ⟨cs, rfl, hl⟩ := hr
  exact ⟨cs, rfl, RL.ren l cs hl (fun i h => hi i (by simpa [A.ids] using h))⟩
 | .dead, _, _, _ => trivial
 | .und, _, hr, _ | .val _ _, _, hr, _ | .nils, _, hr, _ | .nilp, _, hr, _ | .elp _ _ _ _ _, _, hr, _ | .top _ _ _, _, hr, _ | .fn _, _, hr, _ => hr
theorem RL.ren {G : Gh} {m inv : Nat → Nat} : ∀ (l : List A) (vs : List Value), RL G l vs → (∀ i ∈ ji l, inv (m i) = i) → RL (G.via inv) (yb2 m l) vs
 | [], [], _, _ => trivial
 | a :: l, v :: vs, hr, hi => ⟨RA.ren a v hr.1 (fun i h => hi i (by simp [ji, h])), RL.ren l vs hr.2 (fun i h => hi i (by simp [ji, h]))⟩
end
theorem y7b : ∀ (l seen : List Nat) (i : Nat), i ∈ l → i ∉ seen → i ∈ ydS seen l
 | j :: l, seen, i, h, hs => by
  rw [ydS]
  cases hm : Vp seen j with
  | true =>
   rw [cond_true]
   have hne : i ≠ j := fun e => hs (e ▸ JO.1 hm)
   exact y7b l seen i ((List.mem_cons.1 h).resolve_left hne) hs
  | false =>
   rw [cond_false]
   by_cases hij : i = j
   ·simp [hij]
   ·exact List.mem_cons_of_mem _ (y7b l (j :: seen) i ((List.mem_cons.1 h).resolve_left hij) (by simp [hij, hs]))
theorem y7c : ∀ (l seen : List Nat) (i : Nat), i ∈ ydS seen l → i ∈ l ∧ i ∉ seen
 | j :: l, seen, i, h => by
  rw [ydS] at h
  cases hm : Vp seen j with
  | true =>
   rw [hm, cond_true] at h
   obtain ⟨h1, h2⟩ := y7c l seen i h
   exact ⟨by simp [h1], h2⟩
  | false =>
   rw [hm, cond_false] at h
   rcases List.mem_cons.1 h with rfl | h
   ·refine ⟨by simp, fun hs => ?_⟩
    rw [JO.2 hs] at hm
    cases hm
   ·obtain ⟨h1, h2⟩ := y7c l (j :: seen) i h
    simp only [List.mem_cons, not_or] at h2
    exact ⟨by simp [h1], h2.2⟩
theorem y2M : ∀ (l seen : List Nat), (ydS seen l).Nodup
 | [], _ => by simp [ydS]
 | j :: l, seen => by
  rw [ydS]
  cases hm : Vp seen j with
  | true => exact y2M l seen
  | false => exact List.nodup_cons.2 ⟨fun h => (y7c l (j :: seen) j h).2 (by simp), y2M l (j :: seen)⟩
theorem y2N (lk : Lk) (i : Nat) (l : List Nat) : (∃ ob, lk i = some ob ∧ y2J ob ∧ y2F lk (i :: l) = (i, ob) :: y2F lk l) ∨ ((∀ ob, lk i = some ob → ¬ y2J ob) ∧ y2F lk (i :: l) = y2F lk l) := by
 rw [y2F]
 cases hi : lk i with
 | none => exact .inr ⟨fun ob h => by (cases h), rfl⟩
 | some ob =>
  cases ob with
  | root own e ts xs =>
   cases own with
   | true => exact .inl ⟨_, rfl, ⟨e, ts, xs, rfl⟩, rfl⟩
   | false =>
    refine .inr ⟨fun ob h how => ?_, rfl⟩
    injection h with h
    subst h
    obtain ⟨_, _, _, h⟩ := how
    cases h
  | _ =>
   refine .inr ⟨fun ob h how => ?_, rfl⟩
   injection h with h
   subst h
   obtain ⟨_, _, _, h⟩ := how
   cases h
theorem y0I (lk : Lk) : ∀ (l : List Nat) (p : Nat × Ob), p ∈ y2F lk l → p.1 ∈ l ∧ lk p.1 = some p.2 ∧ y2J p.2
 | i :: l, p, h => by
  rcases y2N lk i l with ⟨ob, hi, how, he⟩ | ⟨_, he⟩
  ·rw [he] at h
   rcases List.mem_cons.1 h with rfl | h
   ·exact ⟨by simp, hi, how⟩
   ·obtain ⟨h1, h2⟩ := y0I lk l p h
    exact ⟨by simp [h1], h2⟩
  ·rw [he] at h
   obtain ⟨h1, h2⟩ := y0I lk l p h
   exact ⟨by simp [h1], h2⟩
theorem y4I (lk : Lk) : ∀ (l : List Nat) (i : Nat) (ob : Ob), i ∈ l → lk i = some ob → y2J ob → i ∈ zr (y2F lk l)
 | j :: l, i, ob, h, hi, how => by
  rcases y2N lk j l with ⟨ob', _, _, he⟩ | ⟨hno, he⟩
  ·rw [he]
   rcases List.mem_cons.1 h with rfl | h
   ·simp [zr]
   ·simp [zr, y4I lk l i ob h hi how]
  ·rw [he]
   rcases List.mem_cons.1 h with rfl | h
   ·exact absurd how (hno ob hi)
   ·exact y4I lk l i ob h hi how
theorem y1w (lk : Lk) : ∀ (l : List Nat), l.Nodup → (zr (y2F lk l)).Nodup
 | [], _ => by simp [y2F, zr]
 | i :: l, h => by
  have hn := List.nodup_cons.1 h
  rcases y2N lk i l with ⟨ob', _, _, he⟩ | ⟨_, he⟩
  ·rw [he]
   refine List.nodup_cons.2 ⟨fun hm => ?_, y1w lk l hn.2⟩
   rw [Ws] at hm
   obtain ⟨p, hp, rfl⟩ := List.mem_map.1 hm
   exact hn.1 (y0I lk l p hp).1
  ·rw [he]
   exact y1w lk l hn.2
theorem y2J.box {cs : List A} (h : y2J (.box cs)) : False := by obtain ⟨_, _, _, h⟩ := h; cases h
theorem y2J.same {G G' : Gh} {i j : Nat} {ob : Ob} (h : y2J ob) (hg : G'.g i = G.g j) (hs : G'.sv i = G.sv j) (hz : G'.sz i = G.sz j) (hH : G'.H = G.H) {w : World} : (∀ k, zS G' i ob k → zS G j ob k) ∧ (RO G w j ob → RO G' w i ob) := by
 obtain ⟨e, ts, xs, rfl⟩ := h
 refine ⟨fun k hk => ?_, fun hro => ?_⟩
 ·have hk' : (G'.sv i).ownBlock = some k := hk
  rw [hs] at hk'
  exact hk'
 ·obtain ⟨h1, h2, cells, h3, h4, h5, h6⟩ := hro
  exact ⟨by rw [hz]; exact h1, h2, cells, by rw [hs]; exact h3, h4, by rw [hs, hg]; exact h5, by rw [hH]; exact h6⟩
theorem y2O (lk : Lk) : ∀ (l : List Nat) (p : Nat × List A), p ∈ ydR lk l → ∃ cs, lk p.1 = some (.box cs) ∧ p.2 = Yr lk cs
 | i :: l, p, h => by
  rw [ydR] at h
  split at h
  ·rename_i cs hi
   rcases List.mem_cons.1 h with rfl | h
   ·exact ⟨cs, hi, rfl⟩
   ·exact y2O lk l p h
  ·exact y2O lk l p h
theorem ycU : ∀ (l : List (Nat × List A)) (p : Nat × List A) (i : Nat), p ∈ l → i ∈ ji p.2 → i ∈ ynt l
 | (j, cs) :: l, p, i, hp, hi => by
  rw [ynt, List.mem_append]
  rcases List.mem_cons.1 hp with rfl | hp
  ·exact .inl hi
  ·exact .inr (ycU l p i hp hi)
theorem ycV : ∀ (rs : List (Nat × Ob)) (n i : Nat), i ∈ zr rs → ∃ k, y1R rs n i = n + k ∧ (zr rs)[k]? = some i
 | (j, x) :: rs, n, i, h => by
  rw [y1R]
  by_cases hj : j = i
  ·subst hj
   rw [yu, cond_true]
   exact ⟨0, rfl, rfl⟩
  ·rw [yJ hj, cond_false]
   simp only [zr, List.mem_cons] at h
   obtain ⟨k, h1, h2⟩ := ycV rs (n + 1) i (h.resolve_left fun e => hj e.symm)
   exact ⟨k + 1, by omega, by simpa [zr] using h2⟩
theorem y9z : ∀ (rs : List (Nat × Ob)) (n i : Nat), i ∉ zr rs → y1R rs n i = i
 | [], _, _, _ => rfl
 | (j, x) :: rs, n, i, h => by
  simp only [zr, List.mem_cons, not_or] at h
  rw [y1R, yJ (fun e : j = i => h.1 e.symm), cond_false]
  exact y9z rs (n + 1) i h.2
theorem ybt (l l' : List (Nat × Ob)) (i : Nat) : zb (l ++ l') i = (zb l i).or (zb l' i) := by
 induction l with
 | nil => rfl
 | cons p l ih =>
  obtain ⟨j, x⟩ := p
  by_cases hj : j = i
  ·subst hj
   simp [zb, yu]
  ·simp only [List.cons_append, zb, yJ hj, cond_false, ih]
theorem y9A (m : Nat → Nat) : ∀ (l : List (Nat × List A)) (i : Nat) (ob : Ob), zb (ykr m l) i = some ob → ∃ cs, (i, cs) ∈ l ∧ ob = .box (yb2 m cs)
 | (j, cs) :: l, i, ob, h => by
  rw [ykr, zb] at h
  by_cases hj : j = i
  ·subst hj
   rw [yu, cond_true] at h
   injection h with h
   exact ⟨cs, by simp, h.symm⟩
  ·rw [yJ hj, cond_false] at h
   obtain ⟨cs', h1, h2⟩ := y9A m l i ob h
   exact ⟨cs', by simp [h1], h2⟩
theorem y9B : ∀ (l : List (Nat × Ob)) (n i : Nat) (ob : Ob), zb (yks l n) i = some ob → ∃ k j, i = n + k ∧ l[k]? = some (j, ob)
 | (j, x) :: l, n, i, ob, h => by
  rw [yks, zb] at h
  by_cases hj : n = i
  ·subst hj
   rw [yu, cond_true] at h
   injection h with h
   exact ⟨0, j, rfl, by simp [h]⟩
  ·rw [yJ hj, cond_false] at h
   obtain ⟨k, j', h1, h2⟩ := y9B l (n + 1) i ob h
   exact ⟨k + 1, j', by omega, by simpa using h2⟩
theorem y25 {n : Nat} : ∀ {l : List Nat}, y1S n l = true → ∀ i ∈ l, i < n
 | j :: l, h, i, hi => by
  simp only [y1S, Bool.and_eq_true] at h
  rcases List.mem_cons.1 hi with rfl | hi
  ·exact kC h.1
  ·exact y25 h.2 i hi
theorem Rel.keep (h : Rel P w0 lent H0 s a w G) {l : List Nat} {s' : St} (hk : s.keep l = some s') : ∃ G', Rel P w0 lent H0 s' a w G' := by
 unfold St.keep at hk
 generalize ht : Yr (zb s.o) (y6W l 0 s.t) = t at hk
 try simp only at hk
 generalize hbx : ydR (zb s.o) (ydS [] (ji t)) = bx at hk
 try simp only at hk
 generalize hrs : y2F (zb s.o) (ydS [] (ji t ++ ynt bx)) = rs at hk
 try simp only at hk
 cases hb : y1S 10000000 (zr bx) with
 | false => simp [hb] at hk
 | true =>
  rw [hb, cond_true] at hk
  injection hk with hk
  subst hk
  have hlow := y25 hb
  let inv : Nat → Nat := fun i => if 10000000 ≤ i then (zr rs).getD (i - 10000000) i else i
  have hrsp : ∀ p ∈ rs, zb s.o p.1 = some p.2 ∧ y2J p.2 := fun p hp => by
   rw [← hrs] at hp
   exact (y0I _ _ p hp).2
  have hbxp : ∀ p ∈ bx, ∃ cs, zb s.o p.1 = some (.box cs) ∧ p.2 = Yr (zb s.o) cs := fun p hp => by
   rw [← hbx] at hp
   exact y2O _ _ p hp
  have hinvk : ∀ (k j : Nat), (zr rs)[k]? = some j → inv (10000000 + k) = j := fun k j hkj => by
   show (if 10000000 ≤ 10000000 + k then (zr rs).getD (10000000 + k - 10000000) (10000000 + k) else 10000000 + k) = j
   rw [if_pos (by omega), show 10000000 + k - 10000000 = k by omega, List.getD_eq_getElem?_getD, hkj]
   rfl
  have hinvl : ∀ i, i < 10000000 → inv i = i := fun i hi => if_neg (by omega)
  have hid : ∀ i, yhX (zb s.o) i → i ∈ ji t ++ ynt bx → inv (y1R rs 10000000 i) = i := fun i hkn hm => by
   rcases hkn with ⟨ob, hi, how⟩ | ⟨⟨cs, hi⟩, hlt⟩
   ·have : i ∈ zr rs := by
     rw [← hrs]
     exact y4I _ _ i ob (y7b _ _ i hm (by simp)) hi how
    obtain ⟨k, h1, h2⟩ := ycV rs 10000000 i this
    rw [h1]
    exact hinvk k i h2
   ·have : i ∉ zr rs := fun hm => by
     rw [Ws] at hm
     obtain ⟨p, hp, rfl⟩ := List.mem_map.1 hm
     obtain ⟨h1, h2⟩ := hrsp p hp
     rw [hi] at h1
     injection h1 with h1
     rw [← h1] at h2
     exact h2.box
    rw [y9z _ _ _ this]
    exact hinvl i hlt
  have hlook : ∀ (i : Nat) (ob : Ob), zb (ykr (y1R rs 10000000) bx ++ yks rs 10000000) i = some ob →
    (∃ cs, zb s.o i = some (.box cs) ∧ i < 10000000 ∧ (i, Yr (zb s.o) cs) ∈ bx ∧ ob = .box (yb2 (y1R rs 10000000) (Yr (zb s.o) cs))) ∨ (∃ k j, i = 10000000 + k ∧ (zr rs)[k]? = some j ∧ zb s.o j = some ob ∧ y2J ob) := fun i ob hi => by
   rw [ybt] at hi
   cases h1 : zb (ykr (y1R rs 10000000) bx) i with
   | some ob' =>
    rw [h1] at hi
    have hi' : ob' = ob := by simpa using hi
    subst hi'
    obtain ⟨cs, hm, rfl⟩ := y9A _ _ _ _ h1
    obtain ⟨cs0, hc, hcs⟩ := hbxp _ hm
    simp only at hc hcs
    subst hcs
    refine .inl ⟨cs0, hc, hlow i ?_, hm, rfl⟩
    rw [Ws]
    exact List.mem_map_of_mem (f := fun p : Nat × List A => p.1) hm
   | none =>
    rw [h1] at hi
    have hi' : zb (yks rs 10000000) i = some ob := by simpa using hi
    obtain ⟨k, j, h2, h3⟩ := y9B _ _ _ _ hi'
    obtain ⟨h4, h5⟩ := hrsp (j, ob) (List.mem_of_getElem? h3)
    exact .inr ⟨k, j, h2, by rw [Ws, List.getElem?_map, h3]; rfl, h4, h5⟩
  have hnd : (zr rs).Nodup := by
   rw [← hrs]
   exact y1w _ _ (y2M _ _)
  have hold : ∀ (i : Nat) (ob : Ob) (k : Nat), zb (ykr (y1R rs 10000000) bx ++ yks rs 10000000) i = some ob → zS (G.via inv) i ob k → ∃ o1, zb s.o (inv i) = some o1 ∧ zS G (inv i) o1 k := fun i ob k hi hbk => by
   rcases hlook i ob hi with ⟨cs, h1, h2, _, rfl⟩ | ⟨k', j, rfl, h1, h2, how⟩
   ·rw [hinvl i h2]
    refine ⟨_, h1, ?_⟩
    simpa [zS, Gh.via, hinvl i h2] using hbk
   ·rw [hinvk k' j h1]
    have hv := hinvk k' j h1
    exact ⟨_, h2, (how.same (G := G) (G' := G.via inv) (i := 10000000 + k') (j := j) (w := w) (by simp [Gh.via, hv]) (by simp [Gh.via, hv]) (by simp [Gh.via, hv]) rfl).1 k hbk⟩
  have htid : ∀ i ∈ ji t, yhX (zb s.o) i := fun i hi => by
   rw [← ht] at hi
   exact Kx _ _ i hi
  refine ⟨G.via inv, { h with inH := h.inH, base := h.base, pv := h.pv, hnew := h.hnew, defers := h.defers, len := ?_, slots := fun i x hx => ?_, objs := fun i ob hi => ?_, away := fun i ob k hi hbk => ?_, apart := fun i j oi oj k hi hj hbi hbj => ?_, pin := fun i ob b hi hp => ?_ }⟩
  ·have hl := h.len
   have h1 : ∀ l : List A, (yb2 (y1R rs 10000000) l).length = l.length := fun l => by
    induction l with
    | nil => rfl
    | cons a l ih => simp [yb2, ih]
   have h2 : ∀ l : List A, (Yr (zb s.o) l).length = l.length := fun l => by
    induction l with
    | nil => rfl
    | cons a l ih => simp [Yr, ih]
   have h3 : ∀ (l : List Nat) (t : List A) (i : Nat), (y6W l i t).length = t.length := fun l t => by
    induction t with
    | nil => intro i; rfl
    | cons a t ih => intro i; simp [y6W, ih]
   simp only [h1, ← ht, h2, h3]
   exact hl
  ·have hx' : (yb2 (y1R rs 10000000) t)[i]? = some x := hx
   rw [y7a] at hx'
   obtain ⟨y, hy, rfl⟩ := Option.map_eq_some_iff.1 hx'
   have hmem : ∀ j ∈ y.ids, j ∈ ji t := fun j hj => by
    have : ∀ (l : List A) (i : Nat) (y : A), l[i]? = some y → ∀ j ∈ y.ids, j ∈ ji l := by
     intro l
     induction l with
     | nil => intro i y hy; simp at hy
     | cons b l ihl =>
      intro i y hy j hj
      cases i with
      | zero =>
       simp only [List.getElem?_cons_zero, Option.some.injEq] at hy
       subst hy
       simp [ji, hj]
      | succ i => simp [ji, ihl i y (by simpa using hy) j hj]
    exact this t i y hy j hj
   refine RA.ren y _ ?_ (fun j hj => hid j (htid j (hmem j hj)) (by simp [hmem j hj]))
   rw [← ht, QH] at hy
   obtain ⟨u, hu, rfl⟩ := Option.map_eq_some_iff.1 hy
   refine RA.resolve h u _ ?_
   rw [y9y] at hu
   obtain ⟨u', hu', rfl⟩ := Option.map_eq_some_iff.1 hu
   cases Vp l (0 + i) with
   | true => exact h.slots i u' hu'
   | false => trivial
  ·rcases hlook i ob hi with ⟨cs, h1, h2, h3, rfl⟩ | ⟨k, j, rfl, h1, h2, how⟩
   ·have hro := h.objs i _ h1
    refine ⟨by simp only [Gh.via, hinvl i h2]; exact hro.1, fun j x hx => ?_⟩
    rw [y7a] at hx
    obtain ⟨y, hy, rfl⟩ := Option.map_eq_some_iff.1 hx
    have hyy := hy
    rw [QH] at hy
    obtain ⟨u, hu, rfl⟩ := Option.map_eq_some_iff.1 hy
    obtain ⟨f1, v, f2, f3, f4⟩ := hro.2 j u hu
    simp only [Gh.via, hinvl i h2]
    refine ⟨f1, v, f2, f3, RA.ren _ _ (RA.resolve h u v f4) (fun m hm => ?_)⟩
    have hmm : m ∈ ji (Yr (zb s.o) cs) := by
     have : ∀ (l : List A) (i : Nat) (y : A), l[i]? = some y → ∀ j ∈ y.ids, j ∈ ji l := by
      intro l
      induction l with
      | nil => intro i y hy; simp at hy
      | cons b l ihl =>
       intro i y hy j hj
       cases i with
       | zero =>
        simp only [List.getElem?_cons_zero, Option.some.injEq] at hy
        subst hy
        simp [ji, hj]
       | succ i => simp [ji, ihl i y (by simpa using hy) j hj]
     exact this _ j _ hyy m hm
    exact hid m (Kx _ _ m hmm) (List.mem_append_right _ (ycU bx _ m h3 hmm))
   ·have hro := h.objs j _ h2
    have hv := hinvk k j h1
    exact (how.same (G := G) (G' := G.via inv) (i := 10000000 + k) (j := j) (w := w) (by simp [Gh.via, hv]) (by simp [Gh.via, hv]) (by simp [Gh.via, hv]) rfl).2 hro
  ·obtain ⟨o1, h1, h2⟩ := hold i ob k hi hbk
   exact h.away _ o1 k h1 h2
  ·obtain ⟨o1, h1, h2⟩ := hold i oi k hi hbi
   obtain ⟨o2, h3, h4⟩ := hold j oj k hj hbj
   have heq := h.apart _ _ o1 o2 k h1 h3 h2 h4
   rcases hlook i oi hi with ⟨cs, a1, a2, _, rfl⟩ | ⟨k1, j1, rfl, a1, a2, how1⟩ <;> rcases hlook j oj hj with ⟨cs', b1, b2, _, rfl⟩ | ⟨k2, j2, rfl, b1, b2, how2⟩
   ·rw [hinvl i a2, hinvl j b2] at heq
    exact heq
   ·rw [hinvl i a2, hinvk k2 j2 b1] at heq
    subst heq
    rw [a1] at b2
    injection b2 with b2
    rw [← b2] at how2
    exact how2.box.elim
   ·rw [hinvk k1 j1 a1, hinvl j b2] at heq
    subst heq
    rw [b1] at a2
    injection a2 with a2
    rw [← a2] at how1
    exact how1.box.elim
   ·rw [hinvk k1 j1 a1, hinvk k2 j2 b1] at heq
    subst heq
    have hl1 := (List.getElem?_eq_some_iff.1 a1).1
    have := (List.getElem?_inj hl1 hnd).1 (a1.trans b1.symm)
    rw [this]
  ·rcases hlook i ob hi with ⟨cs, h1, h2, _, rfl⟩ | ⟨k, j, rfl, h1, h2, _⟩
   ·simp only [Gh.via, hinvl i h2]
    exact h.pin i _ b h1 hp
   ·have := H0.ok _ b hp
    omega
end Go.Proofs.YtjllpipmaejeoaaGreat.R
