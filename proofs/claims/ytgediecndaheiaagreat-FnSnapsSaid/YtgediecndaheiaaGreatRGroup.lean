/- What the evaluator makes of guarded groups is what their steps make, one by one. No condition. -/
import Derived.Test.YtgediecndaheiaaGreatRFlat
set_option linter.all false
namespace Go.Proofs.YtgediecndaheiaaGreat.R
open Go.RowKit
variable {C : Ctx} {call : C.Sem}
mutual
theorem A.forget_comm (i j : Nat) : ∀ x : A, (x.forget i).forget j = (x.forget j).forget i
 | .own o => by by_cases h1 : o = i <;> by_cases h2 : o = j <;> simp [A.forget, h1, h2, yw, yF] <;> (repeat' (first | rfl | (split <;> simp_all [A.forget, yw]))) <;> (cases hb : Nat.beq i j <;> cases hb' : Nat.beq j i <;> simp_all [A.forget, yw, yF])
 | .box b off => by by_cases h1 : b = i <;> by_cases h2 : b = j <;> simp [A.forget, h1, h2, yw, yF] <;> (cases hb : Nat.beq i j <;> cases hb' : Nat.beq j i <;> simp_all [A.forget, yw, yF])
 | .rtp o _ _ => by by_cases h1 : o = i <;> by_cases h2 : o = j <;> simp [A.forget, h1, h2, yw, yF] <;> (cases hb : Nat.beq i j <;> cases hb' : Nat.beq j i <;> simp_all [A.forget, yw, yF])
 | .win o _ => by by_cases h1 : o = i <;> by_cases h2 : o = j <;> simp [A.forget, h1, h2, yw, yF] <;> (cases hb : Nat.beq i j <;> cases hb' : Nat.beq j i <;> simp_all [A.forget, yw, yF])
 | .tl o _ => by by_cases h1 : o = i <;> by_cases h2 : o = j <;> simp [A.forget, h1, h2, yw, yF] <;> (cases hb : Nat.beq i j <;> cases hb' : Nat.beq j i <;> simp_all [A.forget, yw, yF])
 | .clo _ b => by by_cases h1 : b = i <;> by_cases h2 : b = j <;> simp [A.forget, h1, h2, yw, yF] <;> (cases hb : Nat.beq i j <;> cases hb' : Nat.beq j i <;> simp_all [A.forget, yw, yF])
 | .agg l => by simp [A.forget, W6 i j l]
 | .tup l => by simp [A.forget, W6 i j l]
 | .dead | .und | .val _ _ | .nils | .nilp | .elp _ _ _ _ _ | .top _ _ _ | .fn _ => rfl
theorem W6 (i j : Nat) : ∀ l : List A, za j (za i l) = za i (za j l)
 | [] => rfl
 | a :: l => by simp [za, A.forget_comm i j a, W6 i j l]
end
mutual
theorem A.forget_idem (i : Nat) : ∀ x : A, (x.forget i).forget i = x.forget i
 | .own o => by by_cases h1 : o = i <;> simp [A.forget, h1, yw, yF]
 | .box b off => by by_cases h1 : b = i <;> simp [A.forget, h1, yw, yF]
 | .rtp o _ _ => by by_cases h1 : o = i <;> simp [A.forget, h1, yw, yF]
 | .win o _ => by by_cases h1 : o = i <;> simp [A.forget, h1, yw, yF]
 | .tl o _ => by by_cases h1 : o = i <;> simp [A.forget, h1, yw, yF]
 | .clo _ b => by by_cases h1 : b = i <;> simp [A.forget, h1, yw, yF]
 | .agg l => by simp [A.forget, W7 i l]
 | .tup l => by simp [A.forget, W7 i l]
 | .dead | .und | .val _ _ | .nils | .nilp | .elp _ _ _ _ _ | .top _ _ _ | .fn _ => rfl
theorem W7 (i : Nat) : ∀ l : List A, za i (za i l) = za i l
 | [] => rfl
 | a :: l => by simp [za, A.forget_idem i a, W7 i l]
end
theorem Ob.forget_comm (i j : Nat) (x : Ob) : (x.forget i).forget j = (x.forget j).forget i := by cases x <;> simp [Ob.forget, W6 i j]
theorem Ob.forget_idem (i : Nat) (x : Ob) : (x.forget i).forget i = x.forget i := by cases x <;> simp [Ob.forget, W7 i]
theorem y40 (i d : Nat) (a : A) : ∀ l : List A, za i (l.set d a) = (za i l).set d (a.forget i) := by
 intro l
 induction l generalizing d with
 | nil => simp [za]
 | cons b l ih => cases d <;> simp [za, ih]
theorem FS.forget_comm (z : FS) (i j : Nat) : (z.forget i).forget j = (z.forget j).forget i := by
 refine FS.ext (W6 i j z.t) (funext fun m => ?_)
 show (if m = j then none else (if m = i then none else (z.lk m).map (·.forget i)).map (·.forget j)) = (if m = i then none else (if m = j then none else (z.lk m).map (·.forget j)).map (·.forget i))
 by_cases h1 : m = j <;> by_cases h2 : m = i <;> simp [h1, h2]
 cases z.lk m with
 | none => rfl
 | some x => simp [Ob.forget_comm i j x]
theorem FS.forget_idem (z : FS) (i : Nat) : (z.forget i).forget i = z.forget i := by
 refine FS.ext (W7 i z.t) (funext fun m => ?_)
 show (if m = i then none else (if m = i then none else (z.lk m).map (·.forget i)).map (·.forget i)) = (if m = i then none else (z.lk m).map (·.forget i))
 by_cases h2 : m = i <;> simp [h2]
 cases z.lk m with
 | none => rfl
 | some x => simp [Ob.forget_idem i x]
theorem FS.forgetAll_in : ∀ (M : List Nat) (z : FS) (i : Nat), i ∈ M → (z.forget i).forgetAll M = z.forgetAll M
 | j :: M, z, i, h => by
  rcases List.mem_cons.1 h with rfl | h
  ·rw [FS.forgetAll, FS.forget_idem, FS.forgetAll]
  ·rw [FS.forgetAll, FS.forget_comm, FS.forgetAll_in M _ i h, FS.forgetAll]
theorem FS.forget_put (z : FS) (i : Nat) (d : Option Nat) (a : A) : (z.put d a).forget i = (z.forget i).put d (a.forget i) := by
 cases d with
 | none => rfl
 | some d => exact FS.ext (y40 i d a z.t) rfl
theorem FS.forget_make (z : FS) (i : Nat) (x : Ob) : (z.make i x).forget i = z.forget i := by
 refine FS.ext (W7 i z.t) (funext fun m => ?_)
 show (if m = i then none else (if m = i then some x else (z.lk m).map (·.forget i)).map (·.forget i)) = (if m = i then none else (z.lk m).map (·.forget i))
 by_cases h2 : m = i <;> simp [h2]
 cases z.lk m with
 | none => rfl
 | some x => simp [Ob.forget_idem i x]
theorem FS.forgetAll_make (M : List Nat) (z : FS) (i : Nat) (x : Ob) (h : i ∈ M) : (z.make i x).forgetAll M = z.forgetAll M := by
 rw [← FS.forgetAll_in M _ i h, FS.forget_make, FS.forgetAll_in M _ i h]
theorem FS.forgetAll_makeAll (M : List Nat) : ∀ (l : List (Nat × Ob)) (z : FS), (∀ i ∈ zh l, i ∈ M) → (z.makeAll l).forgetAll M = z.forgetAll M
 | [], _, _ => rfl
 | (i, x) :: l, z, h => by rw [FS.makeAll, FS.forgetAll_makeAll M l _ (fun j hj => h j (by simp [zh, hj])), FS.forgetAll_make M z i x (h i (by simp [zh]))]
def y6j (x : A) : List Nat → A
 | [] => x
 | i :: M => y6j (x.forget i) M
theorem FS.forgetAll_put : ∀ (M : List Nat) (z : FS) (d : Option Nat) (a : A), (z.put d a).forgetAll M = (z.forgetAll M).put d (y6j a M)
 | [], _, _, _ => rfl
 | i :: M, z, d, a => by rw [FS.forgetAll, FS.forget_put, FS.forgetAll_put M, FS.forgetAll, y6j]
theorem FS.put_put (z : FS) (d : Nat) (a b : A) : (z.put (some d) a).put (some d) b = z.put (some d) b := FS.ext (List.set_set a) rfl
theorem FS.put_comm (z : FS) {d e : Nat} (h : d ≠ e) (a b : A) : (z.put (some d) a).put (some e) b = (z.put (some e) b).put (some d) a := FS.ext (List.set_comm a b h) rfl
theorem FS.kill_in : ∀ (D : List Nat) (z : FS) (d : Nat) (a : A), d ∈ D → (z.put (some d) a).kill D = z.kill D
 | e :: D, z, d, a, h => by
  by_cases he : d = e
  ·subst he
   rw [FS.kill, FS.put_put, FS.kill]
  ·rw [FS.kill, FS.put_comm z he, FS.kill_in D _ d a ((List.mem_cons.1 h).resolve_left he), FS.kill]
theorem FS.kill_kill : ∀ (D' D : List Nat) (z : FS), (∀ d ∈ D', d ∈ D) → (z.kill D').kill D = z.kill D
 | [], _, _, _ => rfl
 | e :: D', D, z, h => by rw [FS.kill, FS.kill_kill D' D _ (fun d hd => h d (by simp [hd])), FS.kill_in D z e .dead (h e (by simp))]
def inD (D : List Nat) : Option Nat → Prop
 | none => True
 | some d => d ∈ D
theorem FS.kill_put {D : List Nat} {z : FS} {d : Option Nat} {a : A} (h : inD D d) : (z.put d a).kill D = z.kill D := by
 cases d with
 | none => rfl
 | some d => exact FS.kill_in D z d a h
theorem FS.wipe_put {M D : List Nat} {z : FS} {d : Option Nat} {a : A} (h : inD D d) : ((z.put d a).forgetAll M).kill D = (z.forgetAll M).kill D := by
 rw [FS.forgetAll_put, FS.kill_put h]
theorem FS.forgetAll_kill : ∀ (D M : List Nat) (z : FS), (z.kill D).forgetAll M = (z.forgetAll M).kill D := by
 intro D M
 have hd : ∀ M : List Nat, y6j .dead M = .dead := fun M => by
  induction M with
  | nil => rfl
  | cons i M ih => exact ih
 induction D with
 | nil => intro z; rfl
 | cons d D ih => intro z; rw [FS.kill, ih, FS.forgetAll_put, hd, FS.kill]
theorem FS.wipe_kill {M D D' : List Nat} {z : FS} (h : ∀ d ∈ D', d ∈ D) : ((z.kill D').forgetAll M).kill D = (z.forgetAll M).kill D := by
 rw [FS.forgetAll_kill, FS.kill_kill D' D _ h]
theorem FS.wipe_forgetAll {M M' D : List Nat} {z : FS} (h : ∀ i ∈ M', i ∈ M) : ((z.forgetAll M').forgetAll M).kill D = (z.forgetAll M).kill D := by
 congr 1
 revert z
 induction M' with
 | nil => intro z; rfl
 | cons i M' ih =>
  intro z
  rw [FS.forgetAll, ih (fun j hj => h j (by simp [hj])), FS.forgetAll_in M z i (h i (by simp))]
theorem FS.wipe_apply {M D : List Nat} {z : FS} {d : Option Nat} {e : Eff} (hs : KZ e.sets = true) (hm : ∀ i ∈ zh e.adds, i ∈ M) (hd : inD D d) : ((z.apply d e).forgetAll M).kill D = (z.forgetAll M).kill D := by
 have : e.sets = [] := by
  cases h : e.sets with
  | nil => rfl
  | cons _ _ => simp [h, KZ] at hs
 rw [FS.apply, this, FS.wipe_put hd]
 show ((z.makeAll e.adds).forgetAll M).kill D = _
 rw [FS.forgetAll_makeAll M _ _ hm]
def YP (ctx : List (Nat × Bool)) (x : Dop) : Dop := match x.g with
 | some p => if p ∈ ctx then { x with g := none } else x
 | none => x
theorem y0Z (ctx : List (Nat × Bool)) (x : Dop) : (YP ctx x).o = x.o := by unfold YP; (repeat' split) <;> rfl
theorem ycY (ctx : List (Nat × Bool)) (x : Dop) : (YP ctx x).mine = x.mine := by unfold YP; (repeat' split) <;> rfl
theorem ybs (ctx : List (Nat × Bool)) (x : Dop) : (YP ctx x).hn = x.hn := by unfold YP; (repeat' split) <;> rfl
theorem y8k (ctx : List (Nat × Bool)) (x : Dop) : (YP ctx x).see = x.see := by unfold YP; (repeat' split) <;> rfl
theorem ybt (ctx : List (Nat × Bool)) (x : Dop) : (YP ctx x).ok = x.ok := by unfold YP; (repeat' split) <;> rfl
theorem ycZ {ctx : List (Nat × Bool)} {x : Dop} {p : Nat × Bool} (h : (YP ctx x).g = some p) : x.g = some p ∧ p ∉ ctx := by
 unfold YP at h
 split at h
 ·rename_i q hq
  split at h
  ·cases h
  ·rename_i hn
   rw [hq] at h ⊢
   injection h with h
   subst h
   exact ⟨rfl, hn⟩
 ·rename_i hq
  rw [hq] at h
  cases h
theorem y5B {ctx : List (Nat × Bool)} {x : Dop} (h : (YP ctx x).g = none) : x.g = none ∨ ∃ p ∈ ctx, x.g = some p := by
 unfold YP at h
 split at h
 ·rename_i q hq
  split at h
  ·rename_i hm
   exact .inr ⟨q, hm, hq⟩
  ·rw [hq] at h
   cases h
 ·rename_i hq
  exact .inl hq
theorem ya1 (ctx : List (Nat × Bool)) (c : Nat) (b : Bool) (x : Dop) : (match (YP ctx x).g with
  | some (c', b') => bif Nat.beq c c' && (b == b') then { YP ctx x with g := none } else YP ctx x
  | none => YP ctx x) = YP ((c, b) :: ctx) x := by
 obtain ⟨o, g, vis, cls, bad, later, mine⟩ := x
 cases g with
 | none => rfl
 | some p =>
  obtain ⟨c', b'⟩ := p
  by_cases hm : (c', b') ∈ ctx
  ·simp [YP, hm]
  ·by_cases hc : c' = c
   ·subst hc
    by_cases hb : b' = b
    ·subst hb
     simp [YP, hm, yw]
    ·have hbb : (b == b') = false := by cases b <;> cases b' <;> simp_all
     simp [YP, hm, yw, hb, hbb]
   ·simp [YP, hm, hc, yF (fun e : c = c' => hc e.symm)]
theorem y5C (ctx : List (Nat × Bool)) (c : Nat) (b : Bool) : ∀ l : List Dop, yj6 c b (l.map (YP ctx)) = l.map (YP ((c, b) :: ctx))
 | [] => rfl
 | x :: l => by
  rw [List.map_cons, List.map_cons, yj6, y5C ctx c b l, ← ya1]
  rfl
theorem y2G (ctx : List (Nat × Bool)) : ∀ l : List Dop, yR (l.map (YP ctx)) = yR l
 | [] => rfl
 | x :: l => by simp only [List.map_cons, yR, y0Z, y2G ctx l]
theorem y1w (ctx : List (Nat × Bool)) : ∀ l : List Dop, ZH (l.map (YP ctx)) = ZH l
 | [] => rfl
 | x :: l => by simp only [List.map_cons, ZH, ycY, y1w ctx l]
theorem Wo : ∀ l l' : List Dop, yR (l ++ l') = yR l ++ yR l'
 | [], _ => rfl
 | x :: l, l' => by
  simp only [List.cons_append, yR, Wo l l']
  split <;> rfl
theorem y0D : ∀ l l' : List Dop, ZH (l ++ l') = ZH l ++ ZH l'
 | [], _ => rfl
 | x :: l, l' => by simp [ZH, y0D l l']
theorem y0E (c : Nat) : ∀ (l acc grp rest : List Dop) (p : Dop) (a b : Operand), Kv c acc l = some (grp, p, a, b, rest) → acc.reverse ++ l = grp ++ p :: rest ∧ p.o.op = .pick (.tmp c) a b ∧ p.g = none
 | [], _, _, _, _, _, _, h => by simp [Kv] at h
 | x :: l, acc, grp, rest, p, a, b, h => by
  have next : Kv c (x :: acc) l = some (grp, p, a, b, rest) → acc.reverse ++ x :: l = grp ++ p :: rest ∧ p.o.op = .pick (.tmp c) a b ∧ p.g = none := fun h => by
   have := y0E c l (x :: acc) grp rest p a b h
   simpa using this
  unfold Kv at h
  split at h
  ·rename_i j a' b' hop hg
   cases hb : Nat.beq j c with
   | false =>
    simp only [hb, cond_false] at h
    exact next h
   | true =>
    simp only [hb, cond_true, Option.some.injEq, Prod.mk.injEq] at h
    obtain ⟨rfl, rfl, rfl, rfl, rfl⟩ := h
    have := Nat.eq_of_beq_eq_true hb
    subst this
    exact ⟨rfl, hop, hg⟩
  ·exact next h
theorem y6k {s : St} {c : Nat} {v : Bool} (h : z6 s (.tmp c) = some v) {d : Option Nat} {a : A} (hd : d ≠ some c) : z6 (s.put d a) (.tmp c) = some v := by
 cases d with
 | none => exact h
 | some d =>
  have hne : d ≠ c := fun e => hd (by rw [e])
  have : (s.put (some d) a).opd (.tmp c) = s.opd (.tmp c) := by simp [St.put, St.opd, List.getD_eq_getElem?_getD, List.getElem?_set_ne hne]
  rw [z6, this]
  exact h
theorem y3h {s : St} {c : Nat} {v : Bool} : z6 s (.tmp c) = some v ↔ s.t[c]? = some (.val .bool v) := by
 unfold z6
 simp only [St.opd, List.getD_eq_getElem?_getD]
 constructor
 ·intro h
  split at h
  ·rename_i b hb
   injection h with h
   subst h
   cases ht : s.t[c]? with
   | none => simp [ht] at hb
   | some x => simpa [ht] using hb
  ·cases h
 ·intro h
  simp [h]
theorem y41 {s : St} {c : Nat} {v : Bool} (h : z6 s (.tmp c) = some v) (i : Nat) : z6 (s.forget i) (.tmp c) = some v := by
 rw [y3h] at *
 show (za i s.t)[c]? = _
 rw [kG, h]
 rfl
theorem y0F {c : Nat} {v : Bool} : ∀ (M : List Nat) {s : St}, z6 s (.tmp c) = some v → z6 (s.forgetAll M) (.tmp c) = some v
 | [], _, h => h
 | i :: M, s, h => y0F M (y41 h i)
theorem y8l {c : Nat} {v : Bool} : ∀ (D : List Nat) {s : St}, z6 s (.tmp c) = some v → c ∉ D → z6 (Y0 s D) (.tmp c) = some v
 | [], _, h, _ => h
 | d :: D, s, h, hc => by
  simp only [List.mem_cons, not_or] at hc
  exact y8l D (y6k h (fun e => hc.1 (by injection e with e; exact e.symm))) hc.2
theorem ye2 {s : St} {c : Nat} {v : Bool} (h : z6 s (.tmp c) = some v) (i : Nat) (x : Ob) : z6 (s.make i x) (.tmp c) = some v := y41 h i
theorem y2H {c : Nat} {v : Bool} : ∀ (l : List (Nat × Ob)) {s : St}, z6 s (.tmp c) = some v → z6 (s.makeAll l) (.tmp c) = some v
 | [], _, h => h
 | (i, x) :: l, s, h => y2H l (ye2 h i x)
theorem y42 {c : Nat} {v : Bool} : ∀ (l : List (Nat × Ob)) {s : St}, z6 s (.tmp c) = some v → z6 (s.setAll l) (.tmp c) = some v
 | [], _, h => h
 | (i, x) :: l, s, h => y42 l (s := s.set i x) h
theorem y5D {s : St} {c : Nat} {v : Bool} (h : z6 s (.tmp c) = some v) {d : Option Nat} (e : Eff) (hd : d ≠ some c) : z6 (s.apply d e) (.tmp c) = some v := y6k (y42 _ (y2H _ h)) hd
theorem ya2 (s : St) (d : Option Nat) (a : A) : (s.put d a).t.length = s.t.length := by cases d <;> simp [St.put]
theorem ybu : ∀ (D : List Nat) (s : St), (Y0 s D).t.length = s.t.length
 | [], _ => rfl
 | d :: D, s => by rw [Y0, ybu D, ya2]
theorem y1x : ∀ (M : List Nat) (s : St), (s.forgetAll M).t.length = s.t.length
 | [], _ => rfl
 | i :: M, s => by rw [St.forgetAll, y1x M]; exact Kf i s.t
theorem y43 : ∀ (l : List (Nat × Ob)) (s : St), (s.makeAll l).t.length = s.t.length
 | [], _ => rfl
 | (i, x) :: l, s => by rw [St.makeAll, y43 l]; exact Kf i s.t
theorem ye3 (s : St) (d : Option Nat) (e : Eff) : (s.apply d e).t.length = s.t.length := by
 rw [St.apply, ya2, y6g, y43]
theorem yhY {s : St} {ctx : List (Nat × Bool)} (hctx : ∀ p ∈ ctx, z6 s (.tmp p.1) = some p.2) {x : Dop} (hg : (YP ctx x).g = none) : met s.F x.g = true := by
 rcases y5B hg with h | ⟨p, hp, h⟩
 ·rw [h]
  rfl
 ·rw [h]
  have := hctx p hp
  simp [met, y3Y, this]
def FS.undAll (z : FS) : List Nat → FS
 | [] => z
 | d :: r => (z.put (some d) .und).undAll r
theorem FS.wipe_und {M D : List Nat} : ∀ (D' : List Nat) (z : FS), (∀ d ∈ D', d ∈ D) → ((z.undAll D').forgetAll M).kill D = (z.forgetAll M).kill D
 | [], _, _ => rfl
 | d :: D', z, h => by
  rw [FS.undAll, FS.wipe_und D' _ (fun e he => h e (by simp [he])), FS.wipe_put]
  exact h d (by simp)
theorem FS.bool_undAll {x : Operand} : ∀ (D : List Nat) (z : FS), (∀ j ∈ D, x ≠ .tmp j) → (z.undAll D).bool x = z.bool x
 | [], _, _ => rfl
 | d :: D, z, h => by
  rw [FS.undAll, FS.bool_undAll D _ (fun j hj => h j (by simp [hj]))]
  have : (z.put (some d) .und).opd x = z.opd x := by
   cases x with
   | tmp j =>
    have hne : d ≠ j := fun e => h d (by simp) (by rw [e])
    simp [FS.opd, FS.put, List.getD_eq_getElem?_getD, List.getElem?_set_ne hne]
   | _ => rfl
  unfold FS.bool
  rw [this]
theorem yg9 {s : St} {u : Bool} {x : Operand} : ∀ {D : List Nat}, z6 (Y0 s D) x = some u → (∀ j ∈ D, x ≠ .tmp j) ∧ z6 s x = some u := by
 intro D
 induction D generalizing s with
 | nil => exact fun h => ⟨fun j hj => by simp at hj, h⟩
 | cons d D ih =>
  intro h
  obtain ⟨h1, h2⟩ := ih h
  have hd : x ≠ .tmp d := by
   rintro rfl
   rw [y3h] at h2
   simp only [St.put] at h2
   by_cases hl : d < s.t.length
   ·rw [List.getElem?_set_self hl] at h2
    injection h2 with h2
    cases h2
   ·rw [List.getElem?_eq_none (by simpa using Nat.le_of_not_lt hl)] at h2
    cases h2
  refine ⟨fun j hj => ?_, ?_⟩
  ·rcases List.mem_cons.1 hj with rfl | hj
   ·exact hd
   ·exact h1 j hj
  ·cases x with
   | tmp j =>
    have hne : d ≠ j := fun e => hd (by rw [e])
    have : (s.put (some d) .dead).opd (.tmp j) = s.opd (.tmp j) := by simp [St.put, St.opd, List.getD_eq_getElem?_getD, List.getElem?_set_ne hne]
    rw [z6, this] at h2
    exact h2
   | _ => exact h2
theorem ysw {n c : Nat} {want v : Bool} (hv : v ≠ want) (ctx : List (Nat × Bool)) : ∀ (grp : List Dop) (ds : List Nat) (z : FS), Vk n c want ds (grp.map (YP ctx)) = true → z.t.length = n → z.opd (.tmp c) = .val .bool v → (∀ d ∈ ds, z.opd (.tmp d) = .und) →
  wo C call (grp.map TS.skip) z = some (z.undAll (yR grp)) ∧ c ∉ yR grp := by
 intro grp
 induction grp with
 | nil => intro ds z _ _ _ _; exact ⟨rfl, by simp [yR]⟩
 | cons x grp ih =>
  intro ds z h hn hc hds
  simp only [List.map_cons, Vk, Bool.and_eq_true, y0Z] at h
  obtain ⟨h1, h2⟩ := h
  have hun : y3Z z x.g = true := by
   cases hg : (YP ctx x).g with
   | none => simp [hg] at h1
   | some p =>
    obtain ⟨c', b'⟩ := p
    rw [(ycZ hg).1]
    simp only [hg, Bool.or_eq_true, Bool.and_eq_true] at h1
    rcases h1 with ⟨h3, h4⟩ | h3
    ·have := Nat.eq_of_beq_eq_true h3
     subst this
     have : want = b' := by simpa using h4
     subst this
     simp only [y3Z, hc]
     simpa using hv
    ·simp only [y3Z, hds c' (JV.1 h3)]
  have hstep : kI C call (.skip x) z = some (z.put x.o.dst .und) := by simp [kI, hun]
  rw [List.map_cons, wo, hstep, Option.bind_some]
  cases hd : x.o.dst with
  | none =>
   simp only [hd] at h2
   obtain ⟨i1, i2⟩ := ih ds z h2 hn hc hds
   simp only [yR, hd]
   exact ⟨i1, i2⟩
  | some d =>
   simp only [hd, Bool.and_eq_true, Bool.not_eq_true'] at h2
   have hdc : d ≠ c := fun e => by
    rw [e, yw] at h2
    exact absurd h2.1 (by simp)
   have hold : ∀ j, j ≠ d → (z.put (some d) .und).opd (.tmp j) = z.opd (.tmp j) := fun j hj => by simp [FS.opd, FS.put, List.getD_eq_getElem?_getD, List.getElem?_set_ne (Ne.symm hj)]
   obtain ⟨i1, i2⟩ := ih _ (z.put (some d) .und) h2.2 (by simpa [FS.put] using hn) (by rw [hold c (Ne.symm hdc)]; exact hc) (fun j hj => by
    have new : d < n → (z.put (some d) .und).opd (.tmp d) = .und := fun hlt => by
     simp [FS.opd, FS.put, List.getD_eq_getElem?_getD, List.getElem?_set_self (show d < z.t.length from hn ▸ hlt)]
    cases hb : Nat.blt d n with
    | false =>
     simp only [hb, cond_false] at hj
     by_cases hjd : j = d
     ·subst hjd
      by_cases hlt : j < z.t.length
      ·exact new (hn ▸ hlt)
      ·have := hds j hj
       simp [FS.opd, List.getD_eq_getElem?_getD, List.getElem?_eq_none (Nat.le_of_not_lt hlt)] at this
     ·rw [hold j hjd]
      exact hds j hj
    | true =>
     simp only [hb, cond_true] at hj
     have hlt : d < n := kD hb
     by_cases hjd : j = d
     ·subst hjd
      exact new hlt
     ·rw [hold j hjd]
      exact hds j ((List.mem_cons.1 hj).resolve_left hjd))
   simp only [yR, hd]
   exact ⟨i1, by simp [i2, Ne.symm hdc]⟩
structure Found (C : Ctx) (call : C.Sem) (pu : Bool) (l0 : List Dop) (s : St) (T : List TS) (s' : St) : Prop where
 x : T.map TS.x = l0
 steps : wo C call T s.F = some s'.F
 len : s'.t.length = s.t.length
 keep : ∀ c b, c ∉ yR l0 → z6 s (.tmp c) = some b → z6 s' (.tmp c) = some b
 pure : pu = true → ∀ M D, (∀ i ∈ ZH l0, i ∈ M) → (∀ d ∈ yR l0, d ∈ D) → (s'.F.forgetAll M).kill D = (s.F.forgetAll M).kill D
theorem ye4 : ∀ (n : Nat) (pu : Bool) (l0 : List Dop) (ctx : List (Nat × Bool)) {R : Type} (s : St) (k : St → Option R) (r : R), kE C call pu n (l0.map (YP ctx)) s k = some r → (∀ p ∈ ctx, z6 s (.tmp p.1) = some p.2 ∧ p.1 ∉ yR l0) →
  ∃ T s', Found C call pu l0 s T s' ∧ k s' = some r := by
 intro n
 induction n with
 | zero =>
  intro pu l0 ctx R s k r h hctx
  cases l0 with
  | nil => exact ⟨[], s, ⟨rfl, rfl, rfl, fun _ _ _ h => h, fun _ _ _ _ _ => rfl⟩, h⟩
  | cons x l0 => simp [kE] at h
 | succ n ih =>
  intro pu l0 ctx R s k r h hctx
  cases l0 with
  | nil => exact ⟨[], s, ⟨rfl, rfl, rfl, fun _ _ _ h => h, fun _ _ _ _ _ => rfl⟩, h⟩
  | cons x0 r0 =>
   rw [List.map_cons, kE] at h
   cases hg : (YP ctx x0).g with
   | none =>
    simp only [hg] at h
    have hmet := yhY (fun p hp => (hctx p hp).1) hg
    have key : ∃ e, jG C call (Nat.beq x0.hn 2) (Nat.beq x0.hn 3) x0.o s.opd (x0.see (z4 s.o)) some = some e ∧ x0.ok (x0.see (z4 s.o)) e = true ∧ (pu = true → KZ e.sets = true) ∧ kE C call pu n (r0.map (YP ctx)) (s.apply x0.o.dst e) k = some r := by
     cases pu with
     | true =>
      simp only [cond_true, yxn, y0Z, ybs, y8k, ybt] at h
      rw [y3T] at h
      cases he : jG C call (Nat.beq x0.hn 2) (Nat.beq x0.hn 3) x0.o s.opd (x0.see (z4 s.o)) some with
      | none => simp [he] at h
      | some e =>
       simp only [he, Option.bind_some] at h
       cases hok : KZ e.sets && x0.ok (x0.see (z4 s.o)) e with
       | false => simp [hok] at h
       | true =>
        simp only [hok, cond_true] at h
        simp only [Bool.and_eq_true] at hok
        exact ⟨e, rfl, hok.2, fun _ => hok.1, h⟩
     | false =>
      simp only [cond_false, yxm, y0Z, ybs, y8k, ybt] at h
      rw [y3T] at h
      cases he : jG C call (Nat.beq x0.hn 2) (Nat.beq x0.hn 3) x0.o s.opd (x0.see (z4 s.o)) some with
      | none => simp [he] at h
      | some e =>
       simp only [he, Option.bind_some] at h
       cases hok : x0.ok (x0.see (z4 s.o)) e with
       | false => simp [hok] at h
       | true =>
        simp only [hok, cond_true] at h
        exact ⟨e, rfl, hok, fun hp => (by cases hp), h⟩
    obtain ⟨e, he, hok, hnil, h'⟩ := key
    have hd0 : ∀ c, c ∉ yR (x0 :: r0) → x0.o.dst ≠ some c ∧ c ∉ yR r0 := fun c hc => by
     simp only [yR] at hc
     split at hc
     ·rename_i d hd
      simp only [List.mem_cons, not_or] at hc
      exact ⟨fun h => hc.1 (by rw [hd] at h; injection h with h; exact h.symm), hc.2⟩
     ·rename_i hd
      exact ⟨fun h => (by rw [hd] at h; cases h), hc⟩
    obtain ⟨T, s', hf, hk⟩ := ih pu r0 ctx (s.apply x0.o.dst e) k r h' (fun p hp => ⟨y5D (hctx p hp).1 e (hd0 _ (hctx p hp).2).1, (hd0 _ (hctx p hp).2).2⟩)
    refine ⟨.run x0 :: T, s', ⟨by simp [TS.x, hf.x], ?_, hf.len.trans (ye3 s _ e), fun c b hc hb => hf.keep c b (hd0 c hc).2 (y5D hb e (hd0 c hc).1), fun hp M D hM hD => ?_⟩, hk⟩
    ·have : kI C call (.run x0) s.F = some (s.apply x0.o.dst e).F := by
      simp only [kI, hmet, if_true, yg7]
      rw [show s.F.lk = z4 s.o from rfl, he, Option.bind_some, if_pos hok, ya0]
     rw [wo, this, Option.bind_some]
     exact hf.steps
    ·have hsub := hf.pure hp M D (fun i hi => hM i (by simp [ZH, hi])) (fun d hd => hD d (by simp only [yR]; split <;> simp [hd]))
     rw [hsub, ya0]
     refine FS.wipe_apply (hnil hp) (fun i hi => hM i ?_) ?_
     ·have hs : yhS (zh e.adds) x0.mine = true := by
       unfold Dop.ok at hok
       simp only [Bool.and_eq_true] at hok
       exact hok.1.2
      have : ∀ (X Y : List Nat), yhS X Y = true → ∀ i ∈ X, i ∈ Y := by
       intro X
       induction X with
       | nil => intro Y _ i hi; simp at hi
       | cons j X ihX =>
        intro Y h i hi
        simp only [yhS, Bool.and_eq_true] at h
        rcases List.mem_cons.1 hi with rfl | hi
        ·exact JV.1 h.1
        ·exact ihX Y h.2 i hi
      simp [ZH, this _ _ hs i hi]
     ·cases hd : x0.o.dst with
      | none => trivial
      | some d => exact hD d (by simp [yR, hd])
   | some p =>
    obtain ⟨c, want⟩ := p
    simp only [hg] at h
    cases hv : z6 s (.tmp c) with
    | none => simp [hv] at h
    | some v =>
     cases hsp : Kv c [] (YP ctx x0 :: r0.map (YP ctx)) with
     | none => simp [hv, hsp] at h
     | some q =>
      obtain ⟨grp, p, a, b, rest⟩ := q
      simp only [hv, hsp] at h
      obtain ⟨hsplit, hop, hpg⟩ := y0E c _ _ _ _ _ _ _ hsp
      rw [List.reverse_nil, List.nil_append, ← List.map_cons] at hsplit
      obtain ⟨grp0, l1, hl0, rfl, hl1⟩ := List.map_eq_append_iff.1 hsplit
      obtain ⟨p0, rest0, rfl, rfl, rfl⟩ := List.map_eq_cons_iff.1 hl1
      cases hau : Vk s.t.length c want [] (grp0.map (YP ctx)) with
      | false => simp [hau] at h
      | true =>
       simp only [hau, cond_true, y2G, y1w, y0Z, y5C] at h
       rw [hl0]
       rw [hl0] at hctx
       have hopd : s.opd (.tmp c) = .val .bool v := by
        have := y3h.1 hv
        simp [St.opd, this]
       have hcD : c ∉ yR grp0 := by
        have : ∀ (ds : List Nat) (l : List Dop), Vk s.t.length c want ds (l.map (YP ctx)) = true → c ∉ yR l := by
         intro ds l
         induction l generalizing ds with
         | nil => intro _; simp [yR]
         | cons y l ihl =>
          intro h
          simp only [List.map_cons, Vk, Bool.and_eq_true, y0Z] at h
          cases hd : y.o.dst with
          | none =>
           simp only [hd] at h
           simp only [yR, hd]
           exact ihl _ h.2
          | some d =>
           simp only [hd, Bool.and_eq_true, Bool.not_eq_true'] at h
           simp only [yR, hd, List.mem_cons, not_or]
           refine ⟨fun e => ?_, ihl _ h.2.2⟩
           rw [e, yw] at h
           exact absurd h.2.1 (by simp)
        exact this [] grp0 hau
       have hin : ∀ d, d ∉ yR (grp0 ++ p0 :: rest0) → d ∉ yR grp0 ∧ p0.o.dst ≠ some d ∧ d ∉ yR rest0 := fun d hd => by
        rw [Wo, List.mem_append, not_or] at hd
        refine ⟨hd.1, ?_⟩
        have := hd.2
        simp only [yR] at this
        split at this
        ·rename_i e he
         simp only [List.mem_cons, not_or] at this
         exact ⟨fun h => this.1 (by rw [he] at h; injection h with h; exact h.symm), this.2⟩
        ·rename_i he
         exact ⟨fun h => (by rw [he] at h; cases h), this⟩
       have hmine : ZH (grp0 ++ p0 :: rest0) = ZH grp0 ++ (p0.mine ++ ZH rest0) := by rw [y0D]; rfl
       have hpD : ∀ D : List Nat, (∀ d ∈ yR (grp0 ++ p0 :: rest0), d ∈ D) → inD D p0.o.dst := fun D hD => by
        cases hd : p0.o.dst with
        | none => trivial
        | some d => exact hD d (by rw [Wo]; simp [yR, hd])
       rw [y0Z] at hop
       have join : ∀ (M : List Nat) (T1 : List TS) (z1 : FS) (u : Bool) (s2 : St), (∀ i ∈ M, i ∈ ZH grp0) → T1.map TS.x = grp0 → wo C call T1 s.F = some z1 → met z1 p0.g = true → z1.bool (.tmp c) = some v → z1.bool (if v then a else b) = some u → s2.F = ((z1.forgetAll M).kill (yR grp0)).put p0.o.dst (.val .bool u) → s2.t.length = s.t.length →
         (∀ c b, c ∉ yR (grp0 ++ p0 :: rest0) → z6 s (.tmp c) = some b → z6 s2 (.tmp c) = some b) → (pu = true → ∀ M' D, (∀ i ∈ ZH grp0, i ∈ M') → (∀ d ∈ yR grp0, d ∈ D) → (z1.forgetAll M').kill D = (s.F.forgetAll M').kill D) →
         kE C call pu n (rest0.map (YP ctx)) s2 k = some r → ∃ T s', Found C call pu (grp0 ++ p0 :: rest0) s T s' ∧ k s' = some r := by
        intro M T1 z1 u s2 hM hx hst hm hbc hbu hs2 hlen hkeep hpure hev
        obtain ⟨T, s', hf, hk⟩ := ih pu rest0 ctx s2 k r hev (fun q hq => ⟨hkeep _ _ (hctx q hq).2 (hctx q hq).1, (hin _ (hctx q hq).2).2.2⟩)
        refine ⟨T1 ++ .pick p0 M (yR grp0) :: T, s', ⟨by simp [hx, TS.x, hf.x], ?_, hf.len.trans hlen, fun c' b' hc' hb' => hf.keep c' b' (hin c' hc').2.2 (hkeep c' b' hc' hb'), fun hp M' D hM' hD => ?_⟩, hk⟩
        ·rw [y1v, hst, Option.bind_some, wo]
         have : kI C call (.pick p0 M (yR grp0)) z1 = some s2.F := by
          simp only [kI, hm, if_true, hop, hbc, hbu, Option.bind_some]
          rw [hs2]
         rw [this, Option.bind_some]
         exact hf.steps
        ·have hD1 : ∀ d ∈ yR grp0, d ∈ D := fun d hd => hD d (by rw [Wo]; simp [hd])
         rw [hf.pure hp M' D (fun i hi => hM' i (by rw [hmine]; simp [hi])) (fun d hd => hD d (by rw [Wo]; simp only [yR]; split <;> simp [hd])), hs2, FS.wipe_put (hpD D hD), FS.wipe_kill hD1, FS.wipe_forgetAll (fun i hi => hM' i (by rw [hmine]; simp [hM i hi]))]
         exact hpure hp M' D (fun i hi => hM' i (by rw [hmine]; simp [hi])) hD1
       have hctx1 : ∀ p ∈ (c, v) :: ctx, z6 s (.tmp p.1) = some p.2 ∧ p.1 ∉ yR grp0 := fun p hp => by
        rcases List.mem_cons.1 hp with rfl | hp
        ·exact ⟨hv, hcD⟩
        ·exact ⟨(hctx p hp).1, (hin _ (hctx p hp).2).1⟩
       have hlen2 : ∀ (M : List Nat) (s1 : St) (u : Bool), s1.t.length = s.t.length → ((Y0 (s1.forgetAll M) (yR grp0)).put p0.o.dst (.val .bool u)).t.length = s.t.length := fun M s1 u h => by rw [ya2, ybu, y1x, h]
       have hF2 : ∀ (M : List Nat) (s1 : St) (u : Bool), ((Y0 (s1.forgetAll M) (yR grp0)).put p0.o.dst (.val .bool u)).F = ((s1.F.forgetAll M).kill (yR grp0)).put p0.o.dst (.val .bool u) := fun M s1 u => by rw [ye0, ye1, qH]
       have hkeep2 : ∀ (M : List Nat) (s1 : St) (u : Bool), (∀ c b, c ∉ yR grp0 → z6 s (.tmp c) = some b → z6 s1 (.tmp c) = some b) → ∀ c b, c ∉ yR (grp0 ++ p0 :: rest0) → z6 s (.tmp c) = some b → z6 ((Y0 (s1.forgetAll M) (yR grp0)).put p0.o.dst (.val .bool u)) (.tmp c) = some b := fun M s1 u h c' b' hc' hb' =>
        y6k (y8l _ (y0F M (h c' b' (hin c' hc').1 hb')) (hin c' hc').1) (hin c' hc').2.1
       have meet : ∀ (M : List Nat) (pu1 : Bool) (T1 : List TS) (s1 s2 : St) (u : Bool), (∀ i ∈ M, i ∈ ZH grp0) → (pu = true → pu1 = true) → Found C call pu1 grp0 s T1 s1 → z6 s1 (if v then a else b) = some u → s2.F = ((s1.F.forgetAll M).kill (yR grp0)).put p0.o.dst (.val .bool u) → s2.t.length = s.t.length → (∀ c b, c ∉ yR (grp0 ++ p0 :: rest0) → z6 s (.tmp c) = some b → z6 s2 (.tmp c) = some b) →
         kE C call pu n (rest0.map (YP ctx)) s2 k = some r → ∃ T s', Found C call pu (grp0 ++ p0 :: rest0) s T s' ∧ k s' = some r := by
        intro M pu1 T1 s1 s2 u hM hpp hf hbu hs2 hl2 hk2 hev
        refine join M T1 s1.F u s2 hM hf.x hf.steps (yhY (fun p hp => hf.keep _ _ (hin _ (hctx p hp).2).1 (hctx p hp).1) hpg) (by rw [y3Y]; exact hf.keep _ _ hcD hv) (by rw [y3Y]; exact hbu) hs2 hl2 hk2 (fun hp M' D hM' hD => hf.pure (hpp hp) M' D hM' hD) hev
       have miss : ∀ (M : List Nat) (u : Bool), v ≠ want → (∀ i ∈ M, i ∈ ZH grp0) → z6 (Y0 s (yR grp0)) (if v then a else b) = some u → kE C call pu n (rest0.map (YP ctx)) ((Y0 (s.forgetAll M) (yR grp0)).put p0.o.dst (.val .bool u)) k = some r → ∃ T s', Found C call pu (grp0 ++ p0 :: rest0) s T s' ∧ k s' = some r := by
        intro M u hvw hM hbu hev
        obtain ⟨hs, _⟩ := ysw (C := C) (call := call) hvw ctx grp0 [] s.F hau rfl (by rw [yg7]; exact hopd) (by simp)
        obtain ⟨hn, hb0⟩ := yg9 hbu
        have hbk : ∀ c' b', c' ∉ yR grp0 → z6 s (.tmp c') = some b' → (s.F.undAll (yR grp0)).bool (.tmp c') = some b' := fun c' b' hc' hb' => by
         rw [FS.bool_undAll _ _ (fun j hj e => hc' (by injection e with e; rw [e]; exact hj)), y3Y]
         exact hb'
        refine join M (grp0.map TS.skip) (s.F.undAll (yR grp0)) u _ hM (by simp [List.map_map, Function.comp_def, TS.x]) hs ?_ (hbk c v hcD hv) (by rw [FS.bool_undAll _ _ hn, y3Y]; exact hb0) ?_ (hlen2 M s u rfl) (hkeep2 M s u fun _ _ _ h => h) (fun hp M' D hM' hD => FS.wipe_und _ _ hD) hev
        ·rcases y5B hpg with h | ⟨q, hq, h⟩
         ·rw [h]
          rfl
         ·rw [h]
          have := hbk q.1 q.2 (hin _ (hctx q hq).2).1 (hctx q hq).1
          simp [met, this]
        ·rw [hF2, FS.wipe_und _ _ (fun d hd => hd)]
       have sets : ∀ (x y : Operand), (v = want → (if v then a else b) = x) → (v ≠ want → (if v then a else b) = y) → (bif v == want then kE C call pu n (grp0.map (YP ((c, want) :: ctx))) s fun s1 => match z6 s1 x with
          | some u => kE C call pu n (rest0.map (YP ctx)) ((Y0 s1 (yR grp0)).put p0.o.dst (.val .bool u)) k
          | none => none
         else match z6 (Y0 s (yR grp0)) y with
          | some u => kE C call pu n (rest0.map (YP ctx)) ((Y0 s (yR grp0)).put p0.o.dst (.val .bool u)) k
          | none => none) = some r → ∃ T s', Found C call pu (grp0 ++ p0 :: rest0) s T s' ∧ k s' = some r := by
        intro x y hx hy h
        by_cases hvw : v = want
        ·subst hvw
         simp only [beq_self_eq_true, cond_true] at h
         obtain ⟨T1, s1, hf, hk⟩ := ih pu grp0 ((c, v) :: ctx) s _ r h hctx1
         cases hbu : z6 s1 x with
         | none => simp [hbu] at hk
         | some u =>
          simp only [hbu] at hk
          exact meet [] pu T1 s1 _ u (by simp) id hf (by rw [hx rfl]; exact hbu) (hF2 [] s1 u) (hlen2 [] s1 u hf.len) (hkeep2 [] s1 u hf.keep) hk
        ·have hb : (v == want) = false := by simpa using hvw
         simp only [hb, cond_false] at h
         cases hbu : z6 (Y0 s (yR grp0)) y with
         | none => simp [hbu] at h
         | some u =>
          simp only [hbu] at h
          exact miss [] u hvw (by simp) (by rw [hy hvw]; exact hbu) h
       have pure : ∀ (x y : Operand), (v = want → (if v then a else b) = x) → (v ≠ want → (if v then a else b) = y) → ((bif v == want then kE C call true n (grp0.map (YP ((c, want) :: ctx))) s fun s1 => z6 s1 x else z6 (Y0 s (yR grp0)) y).bind fun u =>
          kE C call pu n (rest0.map (YP ctx)) ((Y0 (s.forgetAll (ZH grp0)) (yR grp0)).put p0.o.dst (.val .bool u)) k) = some r → ∃ T s', Found C call pu (grp0 ++ p0 :: rest0) s T s' ∧ k s' = some r := by
        intro x y hx hy h
        by_cases hvw : v = want
        ·subst hvw
         simp only [beq_self_eq_true, cond_true] at h
         cases hu : (kE C call true n (grp0.map (YP ((c, v) :: ctx))) s fun s1 => z6 s1 x) with
         | none =>
          rw [hu] at h
          cases h
         | some u =>
          rw [hu, Option.bind_some] at h
          obtain ⟨T1, s1, hf, hk⟩ := ih true grp0 ((c, v) :: ctx) s _ u hu hctx1
          exact meet (ZH grp0) true T1 s1 _ u (fun _ h => h) (fun _ => rfl) hf (by rw [hx rfl]; exact hk) (by rw [hF2, hf.pure rfl _ _ (fun _ h => h) (fun _ h => h)]) (hlen2 _ s u rfl) (hkeep2 _ s u fun _ _ _ h => h) h
        ·have hb : (v == want) = false := by simpa using hvw
         simp only [hb, cond_false] at h
         cases hbu : z6 (Y0 s (yR grp0)) y with
         | none =>
          rw [hbu] at h
          cases h
         | some u =>
          rw [hbu, Option.bind_some] at h
          exact miss _ u hvw (fun _ h => h) (by rw [hy hvw]; exact hbu) h
       cases hset : (grp0.map (YP ctx)).any fun y => ylV C y.o || !Nat.beq y.hn 0 with
       | true =>
        simp only [hset, cond_true] at h
        cases want with
        | true => exact sets a b (fun e => by rw [e]; rfl) (fun e => by cases v <;> simp at e ⊢) (by cases v <;> exact h)
        | false => exact sets b a (fun e => by rw [e]; rfl) (fun e => by cases v <;> simp at e ⊢) (by cases v <;> exact h)
       | false =>
        simp only [hset, cond_false] at h
        cases want with
        | true => exact pure a b (fun e => by rw [e]; rfl) (fun e => by cases v <;> simp at e ⊢) (by cases v <;> exact h)
        | false => exact pure b a (fun e => by rw [e]; rfl) (fun e => by cases v <;> simp at e ⊢) (by cases v <;> exact h)
end Go.Proofs.YtgediecndaheiaaGreat.R
