/- What the evaluator makes of guarded groups is what their steps make, one by one. No condition. -/
import Derived.Test.YtjllpipmaejeoaaGreatRFlat
set_option linter.all false
namespace Go.Proofs.YtjllpipmaejeoaaGreat.R
open Go.RowKit
variable {C : Ctx} {call : C.Sem}
mutual
theorem A.forget_comm (i j : Nat) : ∀ x : A, (x.forget i).forget j = (x.forget j).forget i
 | .own o => by by_cases h1 : o = i <;> by_cases h2 : o = j <;> simp [A.forget, h1, h2, yu, yJ] <;> (repeat' (first | rfl | (split <;> simp_all [A.forget, yu]))) <;> (cases hb : Nat.beq i j <;> cases hb' : Nat.beq j i <;> simp_all [A.forget, yu, yJ])
 | .box b off => by by_cases h1 : b = i <;> by_cases h2 : b = j <;> simp [A.forget, h1, h2, yu, yJ] <;> (cases hb : Nat.beq i j <;> cases hb' : Nat.beq j i <;> simp_all [A.forget, yu, yJ])
 | .rtp o _ _ => by by_cases h1 : o = i <;> by_cases h2 : o = j <;> simp [A.forget, h1, h2, yu, yJ] <;> (cases hb : Nat.beq i j <;> cases hb' : Nat.beq j i <;> simp_all [A.forget, yu, yJ])
 | .win o _ => by by_cases h1 : o = i <;> by_cases h2 : o = j <;> simp [A.forget, h1, h2, yu, yJ] <;> (cases hb : Nat.beq i j <;> cases hb' : Nat.beq j i <;> simp_all [A.forget, yu, yJ])
 | .tl o _ => by by_cases h1 : o = i <;> by_cases h2 : o = j <;> simp [A.forget, h1, h2, yu, yJ] <;> (cases hb : Nat.beq i j <;> cases hb' : Nat.beq j i <;> simp_all [A.forget, yu, yJ])
 | .clo _ b => by by_cases h1 : b = i <;> by_cases h2 : b = j <;> simp [A.forget, h1, h2, yu, yJ] <;> (cases hb : Nat.beq i j <;> cases hb' : Nat.beq j i <;> simp_all [A.forget, yu, yJ])
 | .agg l => by simp [A.forget, Wb i j l]
 | .tup l => by simp [A.forget, Wb i j l]
 | .dead | .und | .val _ _ | .nils | .nilp | .elp _ _ _ _ _ | .top _ _ _ | .fn _ => rfl
theorem Wb (i j : Nat) : ∀ l : List A, zk j (zk i l) = zk i (zk j l)
 | [] => rfl
 | a :: l => by simp [zk, A.forget_comm i j a, Wb i j l]
end
mutual
theorem A.forget_idem (i : Nat) : ∀ x : A, (x.forget i).forget i = x.forget i
 | .own o => by by_cases h1 : o = i <;> simp [A.forget, h1, yu, yJ]
 | .box b off => by by_cases h1 : b = i <;> simp [A.forget, h1, yu, yJ]
 | .rtp o _ _ => by by_cases h1 : o = i <;> simp [A.forget, h1, yu, yJ]
 | .win o _ => by by_cases h1 : o = i <;> simp [A.forget, h1, yu, yJ]
 | .tl o _ => by by_cases h1 : o = i <;> simp [A.forget, h1, yu, yJ]
 | .clo _ b => by by_cases h1 : b = i <;> simp [A.forget, h1, yu, yJ]
 | .agg l => by simp [A.forget, Wc i l]
 | .tup l => by simp [A.forget, Wc i l]
 | .dead | .und | .val _ _ | .nils | .nilp | .elp _ _ _ _ _ | .top _ _ _ | .fn _ => rfl
theorem Wc (i : Nat) : ∀ l : List A, zk i (zk i l) = zk i l
 | [] => rfl
 | a :: l => by simp [zk, A.forget_idem i a, Wc i l]
end
theorem Ob.forget_comm (i j : Nat) (x : Ob) : (x.forget i).forget j = (x.forget j).forget i := by cases x <;> simp [Ob.forget, Wb i j]
theorem Ob.forget_idem (i : Nat) (x : Ob) : (x.forget i).forget i = x.forget i := by cases x <;> simp [Ob.forget, Wc i]
theorem y4D (i d : Nat) (a : A) : ∀ l : List A, zk i (l.set d a) = (zk i l).set d (a.forget i) := by
 intro l
 induction l generalizing d with
 | nil => simp [zk]
 | cons b l ih => cases d <;> simp [zk, ih]
theorem FS.forget_comm (z : FS) (i j : Nat) : (z.forget i).forget j = (z.forget j).forget i := by
 refine FS.ext (Wb i j z.t) (funext fun m => ?_)
 show (if m = j then none else (if m = i then none else (z.lk m).map (·.forget i)).map (·.forget j)) = (if m = i then none else (if m = j then none else (z.lk m).map (·.forget j)).map (·.forget i))
 by_cases h1 : m = j <;> by_cases h2 : m = i <;> simp [h1, h2]
 cases z.lk m with
 | none => rfl
 | some x => simp [Ob.forget_comm i j x]
theorem FS.forget_idem (z : FS) (i : Nat) : (z.forget i).forget i = z.forget i := by
 refine FS.ext (Wc i z.t) (funext fun m => ?_)
 show (if m = i then none else (if m = i then none else (z.lk m).map (·.forget i)).map (·.forget i)) = (if m = i then none else (z.lk m).map (·.forget i))
 by_cases h2 : m = i <;> simp [h2]
 cases z.lk m with
 | none => rfl
 | some x => simp [Ob.forget_idem i x]
theorem FS.forgetAll_in : ∀ (M : List Nat) (z : FS) (i : Nat), i ∈ M → (z.forget i).forgetAll M = z.forgetAll M
 | j :: M, z, i, h => by
  rcases List.mem_cons.1 h with rfl | h
  ·rw [FS.forgetAll, FS.forget_idem, FS.forgetAll]
  ·rw [FS.forgetAll, FS.forget_comm, FS.forgetAll_in M _ i h, FS.forgetAll]
theorem FS.forget_put (z : FS) (i : Nat) (d : Option Nat) (a : A) : (z.put d a).forget i = (z.forget i).put d (a.forget i) := by
 cases d with
 | none => rfl
 | some d => exact FS.ext (y4D i d a z.t) rfl
theorem FS.forget_make (z : FS) (i : Nat) (x : Ob) : (z.make i x).forget i = z.forget i := by
 refine FS.ext (Wc i z.t) (funext fun m => ?_)
 show (if m = i then none else (if m = i then some x else (z.lk m).map (·.forget i)).map (·.forget i)) = (if m = i then none else (z.lk m).map (·.forget i))
 by_cases h2 : m = i <;> simp [h2]
 cases z.lk m with
 | none => rfl
 | some x => simp [Ob.forget_idem i x]
theorem FS.forgetAll_make (M : List Nat) (z : FS) (i : Nat) (x : Ob) (h : i ∈ M) : (z.make i x).forgetAll M = z.forgetAll M := by
 rw [← FS.forgetAll_in M _ i h, FS.forget_make, FS.forgetAll_in M _ i h]
theorem FS.forgetAll_makeAll (M : List Nat) : ∀ (l : List (Nat × Ob)) (z : FS), (∀ i ∈ zr l, i ∈ M) → (z.makeAll l).forgetAll M = z.forgetAll M
 | [], _, _ => rfl
 | (i, x) :: l, z, h => by rw [FS.makeAll, FS.forgetAll_makeAll M l _ (fun j hj => h j (by simp [zr, hj])), FS.forgetAll_make M z i x (h i (by simp [zr]))]
def y75 (x : A) : List Nat → A
 | [] => x
 | i :: M => y75 (x.forget i) M
theorem FS.forgetAll_put : ∀ (M : List Nat) (z : FS) (d : Option Nat) (a : A), (z.put d a).forgetAll M = (z.forgetAll M).put d (y75 a M)
 | [], _, _, _ => rfl
 | i :: M, z, d, a => by rw [FS.forgetAll, FS.forget_put, FS.forgetAll_put M, FS.forgetAll, y75]
theorem FS.put_put (z : FS) (d : Nat) (a b : A) : (z.put (some d) a).put (some d) b = z.put (some d) b := FS.ext (List.set_set a) rfl
theorem FS.put_comm (z : FS) {d e : Nat} (h : d ≠ e) (a b : A) : (z.put (some d) a).put (some e) b = (z.put (some e) b).put (some d) a := FS.ext (List.set_comm a b h) rfl
theorem FS.kill_in : ∀ (D : List Nat) (z : FS) (d : Nat) (a : A), d ∈ D → (z.put (some d) a).kill D = z.kill D
 | e :: D, z, d, a, h => by
  by_cases he : d = e
  ·subst he
   rw [FS.kill, FS.put_put, FS.kill]
  ·rw [FS.kill, FS.put_comm z he, FS.kill_in D _ d a ((List.mem_cons.1 h).resolve_left he), FS.kill]
theorem FS.kill_kill : ∀ (D' D : List Nat) (z : FS), (∀ d ∈ D', d ∈ D) → (z.kill D').kill D = z.kill D
 | [], _, _, _ => rfl
 | e :: D', D, z, h => by rw [FS.kill, FS.kill_kill D' D _ (fun d hd => h d (by simp [hd])), FS.kill_in D z e .dead (h e (by simp))]
def inD (D : List Nat) : Option Nat → Prop
 | none => True
 | some d => d ∈ D
theorem FS.kill_put {D : List Nat} {z : FS} {d : Option Nat} {a : A} (h : inD D d) : (z.put d a).kill D = z.kill D := by
 cases d with
 | none => rfl
 | some d => exact FS.kill_in D z d a h
theorem FS.wipe_put {M D : List Nat} {z : FS} {d : Option Nat} {a : A} (h : inD D d) : ((z.put d a).forgetAll M).kill D = (z.forgetAll M).kill D := by
 rw [FS.forgetAll_put, FS.kill_put h]
theorem FS.forgetAll_kill : ∀ (D M : List Nat) (z : FS), (z.kill D).forgetAll M = (z.forgetAll M).kill D := by
 intro D M
 have hd : ∀ M : List Nat, y75 .dead M = .dead := fun M => by
  induction M with
  | nil => rfl
  | cons i M ih => exact ih
 induction D with
 | nil => intro z; rfl
 | cons d D ih => intro z; rw [FS.kill, ih, FS.forgetAll_put, hd, FS.kill]
theorem FS.wipe_kill {M D D' : List Nat} {z : FS} (h : ∀ d ∈ D', d ∈ D) : ((z.kill D').forgetAll M).kill D = (z.forgetAll M).kill D := by
 rw [FS.forgetAll_kill, FS.kill_kill D' D _ h]
theorem FS.wipe_forgetAll {M M' D : List Nat} {z : FS} (h : ∀ i ∈ M', i ∈ M) : ((z.forgetAll M').forgetAll M).kill D = (z.forgetAll M).kill D := by
 congr 1
 revert z
 induction M' with
 | nil => intro z; rfl
 | cons i M' ih =>
  intro z
  rw [FS.forgetAll, ih (fun j hj => h j (by simp [hj])), FS.forgetAll_in M z i (h i (by simp))]
theorem FS.wipe_apply {M D : List Nat} {z : FS} {d : Option Nat} {e : Eff} (hs : vc e.sets = true) (hm : ∀ i ∈ zr e.adds, i ∈ M) (hd : inD D d) : ((z.apply d e).forgetAll M).kill D = (z.forgetAll M).kill D := by
 have : e.sets = [] := by
  cases h : e.sets with
  | nil => rfl
  | cons _ _ => simp [h, vc] at hs
 rw [FS.apply, this, FS.wipe_put hd]
 show ((z.makeAll e.adds).forgetAll M).kill D = _
 rw [FS.forgetAll_makeAll M _ _ hm]
def YL (ctx : List (Nat × Bool)) (x : Dop) : Dop := match x.g with
 | some p => if p ∈ ctx then { x with g := none } else x
 | none => x
theorem y1u (ctx : List (Nat × Bool)) (x : Dop) : (YL ctx x).o = x.o := by unfold YL; (repeat' split) <;> rfl
theorem yeb (ctx : List (Nat × Bool)) (x : Dop) : (YL ctx x).mine = x.mine := by unfold YL; (repeat' split) <;> rfl
theorem ycN (ctx : List (Nat × Bool)) (x : Dop) : (YL ctx x).hn = x.hn := by unfold YL; (repeat' split) <;> rfl
theorem y9o (ctx : List (Nat × Bool)) (x : Dop) : (YL ctx x).see = x.see := by unfold YL; (repeat' split) <;> rfl
theorem ycO (ctx : List (Nat × Bool)) (x : Dop) : (YL ctx x).ok = x.ok := by unfold YL; (repeat' split) <;> rfl
theorem yec {ctx : List (Nat × Bool)} {x : Dop} {p : Nat × Bool} (h : (YL ctx x).g = some p) : x.g = some p ∧ p ∉ ctx := by
 unfold YL at h
 split at h
 ·rename_i q hq
  split at h
  ·cases h
  ·rename_i hn
   rw [hq] at h ⊢
   injection h with h
   subst h
   exact ⟨rfl, hn⟩
 ·rename_i hq
  rw [hq] at h
  cases h
theorem y6h {ctx : List (Nat × Bool)} {x : Dop} (h : (YL ctx x).g = none) : x.g = none ∨ ∃ p ∈ ctx, x.g = some p := by
 unfold YL at h
 split at h
 ·rename_i q hq
  split at h
  ·rename_i hm
   exact .inr ⟨q, hm, hq⟩
  ·rw [hq] at h
   cases h
 ·rename_i hq
  exact .inl hq
theorem ybp (ctx : List (Nat × Bool)) (c : Nat) (b : Bool) (x : Dop) : (match (YL ctx x).g with
  | some (c', b') => bif Nat.beq c c' && (b == b') then { YL ctx x with g := none } else YL ctx x
  | none => YL ctx x) = YL ((c, b) :: ctx) x := by
 obtain ⟨o, g, vis, cls, bad, later, mine⟩ := x
 cases g with
 | none => rfl
 | some p =>
  obtain ⟨c', b'⟩ := p
  by_cases hm : (c', b') ∈ ctx
  ·simp [YL, hm]
  ·by_cases hc : c' = c
   ·subst hc
    by_cases hb : b' = b
    ·subst hb
     simp [YL, hm, yu]
    ·have hbb : (b == b') = false := by cases b <;> cases b' <;> simp_all
     simp [YL, hm, yu, hb, hbb]
   ·simp [YL, hm, hc, yJ (fun e : c = c' => hc e.symm)]
theorem y6i (ctx : List (Nat × Bool)) (c : Nat) (b : Bool) : ∀ l : List Dop, ykp c b (l.map (YL ctx)) = l.map (YL ((c, b) :: ctx))
 | [] => rfl
 | x :: l => by
  rw [List.map_cons, List.map_cons, ykp, y6i ctx c b l, ← ybp]
  rfl
theorem y3j (ctx : List (Nat × Bool)) : ∀ l : List Dop, yU (l.map (YL ctx)) = yU l
 | [] => rfl
 | x :: l => by simp only [List.map_cons, yU, y1u, y3j ctx l]
theorem y22 (ctx : List (Nat × Bool)) : ∀ l : List Dop, ZD (l.map (YL ctx)) = ZD l
 | [] => rfl
 | x :: l => by simp only [List.map_cons, ZD, yeb, y22 ctx l]
theorem Wv : ∀ l l' : List Dop, yU (l ++ l') = yU l ++ yU l'
 | [], _ => rfl
 | x :: l, l' => by
  simp only [List.cons_append, yU, Wv l l']
  split <;> rfl
theorem y14 : ∀ l l' : List Dop, ZD (l ++ l') = ZD l ++ ZD l'
 | [], _ => rfl
 | x :: l, l' => by simp [ZD, y14 l l']
theorem y15 (c : Nat) : ∀ (l acc grp rest : List Dop) (p : Dop) (a b : Operand), Ku c acc l = some (grp, p, a, b, rest) → acc.reverse ++ l = grp ++ p :: rest ∧ p.o.op = .pick (.tmp c) a b ∧ p.g = none
 | [], _, _, _, _, _, _, h => by simp [Ku] at h
 | x :: l, acc, grp, rest, p, a, b, h => by
  have next : Ku c (x :: acc) l = some (grp, p, a, b, rest) → acc.reverse ++ x :: l = grp ++ p :: rest ∧ p.o.op = .pick (.tmp c) a b ∧ p.g = none := fun h => by
   have := y15 c l (x :: acc) grp rest p a b h
   simpa using this
  unfold Ku at h
  split at h
  ·rename_i j a' b' hop hg
   cases hb : Nat.beq j c with
   | false =>
    simp only [hb, cond_false] at h
    exact next h
   | true =>
    simp only [hb, cond_true, Option.some.injEq, Prod.mk.injEq] at h
    obtain ⟨rfl, rfl, rfl, rfl, rfl⟩ := h
    have := Nat.eq_of_beq_eq_true hb
    subst this
    exact ⟨rfl, hop, hg⟩
  ·exact next h
theorem y76 {s : St} {c : Nat} {v : Bool} (h : zh s (.tmp c) = some v) {d : Option Nat} {a : A} (hd : d ≠ some c) : zh (s.put d a) (.tmp c) = some v := by
 cases d with
 | none => exact h
 | some d =>
  have hne : d ≠ c := fun e => hd (by rw [e])
  have : (s.put (some d) a).opd (.tmp c) = s.opd (.tmp c) := by simp [St.put, St.opd, List.getD_eq_getElem?_getD, List.getElem?_set_ne hne]
  rw [zh, this]
  exact h
theorem y3W {s : St} {c : Nat} {v : Bool} : zh s (.tmp c) = some v ↔ s.t[c]? = some (.val .bool v) := by
 unfold zh
 simp only [St.opd, List.getD_eq_getElem?_getD]
 constructor
 ·intro h
  split at h
  ·rename_i b hb
   injection h with h
   subst h
   cases ht : s.t[c]? with
   | none => simp [ht] at hb
   | some x => simpa [ht] using hb
  ·cases h
 ·intro h
  simp [h]
theorem y4E {s : St} {c : Nat} {v : Bool} (h : zh s (.tmp c) = some v) (i : Nat) : zh (s.forget i) (.tmp c) = some v := by
 rw [y3W] at *
 show (zk i s.t)[c]? = _
 rw [kF, h]
 rfl
theorem y16 {c : Nat} {v : Bool} : ∀ (M : List Nat) {s : St}, zh s (.tmp c) = some v → zh (s.forgetAll M) (.tmp c) = some v
 | [], _, h => h
 | i :: M, s, h => y16 M (y4E h i)
theorem y9p {c : Nat} {v : Bool} : ∀ (D : List Nat) {s : St}, zh s (.tmp c) = some v → c ∉ D → zh (zZ s D) (.tmp c) = some v
 | [], _, h, _ => h
 | d :: D, s, h, hc => by
  simp only [List.mem_cons, not_or] at hc
  exact y9p D (y76 h (fun e => hc.1 (by injection e with e; exact e.symm))) hc.2
theorem yfl {s : St} {c : Nat} {v : Bool} (h : zh s (.tmp c) = some v) (i : Nat) (x : Ob) : zh (s.make i x) (.tmp c) = some v := y4E h i
theorem y3k {c : Nat} {v : Bool} : ∀ (l : List (Nat × Ob)) {s : St}, zh s (.tmp c) = some v → zh (s.makeAll l) (.tmp c) = some v
 | [], _, h => h
 | (i, x) :: l, s, h => y3k l (yfl h i x)
theorem y4F {c : Nat} {v : Bool} : ∀ (l : List (Nat × Ob)) {s : St}, zh s (.tmp c) = some v → zh (s.setAll l) (.tmp c) = some v
 | [], _, h => h
 | (i, x) :: l, s, h => y4F l (s := s.set i x) h
theorem y6j {s : St} {c : Nat} {v : Bool} (h : zh s (.tmp c) = some v) {d : Option Nat} (e : Eff) (hd : d ≠ some c) : zh (s.apply d e) (.tmp c) = some v := y76 (y4F _ (y3k _ h)) hd
theorem ybq (s : St) (d : Option Nat) (a : A) : (s.put d a).t.length = s.t.length := by cases d <;> simp [St.put]
theorem ycP : ∀ (D : List Nat) (s : St), (zZ s D).t.length = s.t.length
 | [], _ => rfl
 | d :: D, s => by rw [zZ, ycP D, ybq]
theorem y23 : ∀ (M : List Nat) (s : St), (s.forgetAll M).t.length = s.t.length
 | [], _ => rfl
 | i :: M, s => by rw [St.forgetAll, y23 M]; exact Ke i s.t
theorem y4G : ∀ (l : List (Nat × Ob)) (s : St), (s.makeAll l).t.length = s.t.length
 | [], _ => rfl
 | (i, x) :: l, s => by rw [St.makeAll, y4G l]; exact Ke i s.t
theorem yfm (s : St) (d : Option Nat) (e : Eff) : (s.apply d e).t.length = s.t.length := by
 rw [St.apply, ybq, y72, y4G]
theorem yjc {s : St} {ctx : List (Nat × Bool)} (hctx : ∀ p ∈ ctx, zh s (.tmp p.1) = some p.2) {x : Dop} (hg : (YL ctx x).g = none) : met s.F x.g = true := by
 rcases y6h hg with h | ⟨p, hp, h⟩
 ·rw [h]
  rfl
 ·rw [h]
  have := hctx p hp
  simp [met, y4B, this]
def FS.undAll (z : FS) : List Nat → FS
 | [] => z
 | d :: r => (z.put (some d) .und).undAll r
theorem FS.wipe_und {M D : List Nat} : ∀ (D' : List Nat) (z : FS), (∀ d ∈ D', d ∈ D) → ((z.undAll D').forgetAll M).kill D = (z.forgetAll M).kill D
 | [], _, _ => rfl
 | d :: D', z, h => by
  rw [FS.undAll, FS.wipe_und D' _ (fun e he => h e (by simp [he])), FS.wipe_put]
  exact h d (by simp)
theorem FS.bool_undAll {x : Operand} : ∀ (D : List Nat) (z : FS), (∀ j ∈ D, x ≠ .tmp j) → (z.undAll D).bool x = z.bool x
 | [], _, _ => rfl
 | d :: D, z, h => by
  rw [FS.undAll, FS.bool_undAll D _ (fun j hj => h j (by simp [hj]))]
  have : (z.put (some d) .und).opd x = z.opd x := by
   cases x with
   | tmp j =>
    have hne : d ≠ j := fun e => h d (by simp) (by rw [e])
    simp [FS.opd, FS.put, List.getD_eq_getElem?_getD, List.getElem?_set_ne hne]
   | _ => rfl
  unfold FS.bool
  rw [this]
theorem yhS {s : St} {u : Bool} {x : Operand} : ∀ {D : List Nat}, zh (zZ s D) x = some u → (∀ j ∈ D, x ≠ .tmp j) ∧ zh s x = some u := by
 intro D
 induction D generalizing s with
 | nil => exact fun h => ⟨fun j hj => by simp at hj, h⟩
 | cons d D ih =>
  intro h
  obtain ⟨h1, h2⟩ := ih h
  have hd : x ≠ .tmp d := by
   rintro rfl
   rw [y3W] at h2
   simp only [St.put] at h2
   by_cases hl : d < s.t.length
   ·rw [List.getElem?_set_self hl] at h2
    injection h2 with h2
    cases h2
   ·rw [List.getElem?_eq_none (by simpa using Nat.le_of_not_lt hl)] at h2
    cases h2
  refine ⟨fun j hj => ?_, ?_⟩
  ·rcases List.mem_cons.1 hj with rfl | hj
   ·exact hd
   ·exact h1 j hj
  ·cases x with
   | tmp j =>
    have hne : d ≠ j := fun e => hd (by rw [e])
    have : (s.put (some d) .dead).opd (.tmp j) = s.opd (.tmp j) := by simp [St.put, St.opd, List.getD_eq_getElem?_getD, List.getElem?_set_ne hne]
    rw [zh, this] at h2
    exact h2
   | _ => exact h2
theorem yuE {n c : Nat} {want v : Bool} (hv : v ≠ want) (ctx : List (Nat × Bool)) : ∀ (grp : List Dop) (ds : List Nat) (z : FS), Vr n c want ds (grp.map (YL ctx)) = true → z.t.length = n → z.opd (.tmp c) = .val .bool v → (∀ d ∈ ds, z.opd (.tmp d) = .und) →
  wm C call (grp.map TS.skip) z = some (z.undAll (yU grp)) ∧ c ∉ yU grp := by
 intro grp
 induction grp with
 | nil => intro ds z _ _ _ _; exact ⟨rfl, by simp [yU]⟩
 | cons x grp ih =>
  intro ds z h hn hc hds
  simp only [List.map_cons, Vr, Bool.and_eq_true, y1u] at h
  obtain ⟨h1, h2⟩ := h
  have hun : y4C z x.g = true := by
   cases hg : (YL ctx x).g with
   | none => simp [hg] at h1
   | some p =>
    obtain ⟨c', b'⟩ := p
    rw [(yec hg).1]
    simp only [hg, Bool.or_eq_true, Bool.and_eq_true] at h1
    rcases h1 with ⟨h3, h4⟩ | h3
    ·have := Nat.eq_of_beq_eq_true h3
     subst this
     have : want = b' := by simpa using h4
     subst this
     simp only [y4C, hc]
     simpa using hv
    ·simp only [y4C, hds c' (JO.1 h3)]
  have hstep : kI C call (.skip x) z = some (z.put x.o.dst .und) := by simp [kI, hun]
  rw [List.map_cons, wm, hstep, Option.bind_some]
  cases hd : x.o.dst with
  | none =>
   simp only [hd] at h2
   obtain ⟨i1, i2⟩ := ih ds z h2 hn hc hds
   simp only [yU, hd]
   exact ⟨i1, i2⟩
  | some d =>
   simp only [hd, Bool.and_eq_true, Bool.not_eq_true'] at h2
   have hdc : d ≠ c := fun e => by
    rw [e, yu] at h2
    exact absurd h2.1 (by simp)
   have hold : ∀ j, j ≠ d → (z.put (some d) .und).opd (.tmp j) = z.opd (.tmp j) := fun j hj => by simp [FS.opd, FS.put, List.getD_eq_getElem?_getD, List.getElem?_set_ne (Ne.symm hj)]
   obtain ⟨i1, i2⟩ := ih _ (z.put (some d) .und) h2.2 (by simpa [FS.put] using hn) (by rw [hold c (Ne.symm hdc)]; exact hc) (fun j hj => by
    have new : d < n → (z.put (some d) .und).opd (.tmp d) = .und := fun hlt => by
     simp [FS.opd, FS.put, List.getD_eq_getElem?_getD, List.getElem?_set_self (show d < z.t.length from hn ▸ hlt)]
    cases hb : Nat.blt d n with
    | false =>
     simp only [hb, cond_false] at hj
     by_cases hjd : j = d
     ·subst hjd
      by_cases hlt : j < z.t.length
      ·exact new (hn ▸ hlt)
      ·have := hds j hj
       simp [FS.opd, List.getD_eq_getElem?_getD, List.getElem?_eq_none (Nat.le_of_not_lt hlt)] at this
     ·rw [hold j hjd]
      exact hds j hj
    | true =>
     simp only [hb, cond_true] at hj
     have hlt : d < n := kC hb
     by_cases hjd : j = d
     ·subst hjd
      exact new hlt
     ·rw [hold j hjd]
      exact hds j ((List.mem_cons.1 hj).resolve_left hjd))
   simp only [yU, hd]
   exact ⟨i1, by simp [i2, Ne.symm hdc]⟩
structure Found (C : Ctx) (call : C.Sem) (pu : Bool) (l0 : List Dop) (s : St) (T : List TS) (s' : St) : Prop where
 x : T.map TS.x = l0
 steps : wm C call T s.F = some s'.F
 len : s'.t.length = s.t.length
 keep : ∀ c b, c ∉ yU l0 → zh s (.tmp c) = some b → zh s' (.tmp c) = some b
 pure : pu = true → ∀ M D, (∀ i ∈ ZD l0, i ∈ M) → (∀ d ∈ yU l0, d ∈ D) → (s'.F.forgetAll M).kill D = (s.F.forgetAll M).kill D
theorem yfn : ∀ (n : Nat) (pu : Bool) (l0 : List Dop) (ctx : List (Nat × Bool)) {R : Type} (s : St) (k : St → Option R) (r : R), kD C call pu n (l0.map (YL ctx)) s k = some r → (∀ p ∈ ctx, zh s (.tmp p.1) = some p.2 ∧ p.1 ∉ yU l0) →
  ∃ T s', Found C call pu l0 s T s' ∧ k s' = some r := by
 intro n
 induction n with
 | zero =>
  intro pu l0 ctx R s k r h hctx
  cases l0 with
  | nil => exact ⟨[], s, ⟨rfl, rfl, rfl, fun _ _ _ h => h, fun _ _ _ _ _ => rfl⟩, h⟩
  | cons x l0 => simp [kD] at h
 | succ n ih =>
  intro pu l0 ctx R s k r h hctx
  cases l0 with
  | nil => exact ⟨[], s, ⟨rfl, rfl, rfl, fun _ _ _ h => h, fun _ _ _ _ _ => rfl⟩, h⟩
  | cons x0 r0 =>
   rw [List.map_cons, kD] at h
   cases hg : (YL ctx x0).g with
   | none =>
    simp only [hg] at h
    have hmet := yjc (fun p hp => (hctx p hp).1) hg
    have key : ∃ e, jA C call (Nat.beq x0.hn 2) (Nat.beq x0.hn 3) x0.o s.opd (x0.see (zb s.o)) some = some e ∧ x0.ok (x0.see (zb s.o)) e = true ∧ (pu = true → vc e.sets = true) ∧ kD C call pu n (r0.map (YL ctx)) (s.apply x0.o.dst e) k = some r := by
     cases pu with
     | true =>
      simp only [cond_true, yz6, y1u, ycN, y9o, ycO] at h
      rw [y4w] at h
      cases he : jA C call (Nat.beq x0.hn 2) (Nat.beq x0.hn 3) x0.o s.opd (x0.see (zb s.o)) some with
      | none => simp [he] at h
      | some e =>
       simp only [he, Option.bind_some] at h
       cases hok : vc e.sets && x0.ok (x0.see (zb s.o)) e with
       | false => simp [hok] at h
       | true =>
        simp only [hok, cond_true] at h
        simp only [Bool.and_eq_true] at hok
        exact ⟨e, rfl, hok.2, fun _ => hok.1, h⟩
     | false =>
      simp only [cond_false, yz5, y1u, ycN, y9o, ycO] at h
      rw [y4w] at h
      cases he : jA C call (Nat.beq x0.hn 2) (Nat.beq x0.hn 3) x0.o s.opd (x0.see (zb s.o)) some with
      | none => simp [he] at h
      | some e =>
       simp only [he, Option.bind_some] at h
       cases hok : x0.ok (x0.see (zb s.o)) e with
       | false => simp [hok] at h
       | true =>
        simp only [hok, cond_true] at h
        exact ⟨e, rfl, hok, fun hp => (by cases hp), h⟩
    obtain ⟨e, he, hok, hnil, h'⟩ := key
    have hd0 : ∀ c, c ∉ yU (x0 :: r0) → x0.o.dst ≠ some c ∧ c ∉ yU r0 := fun c hc => by
     simp only [yU] at hc
     split at hc
     ·rename_i d hd
      simp only [List.mem_cons, not_or] at hc
      exact ⟨fun h => hc.1 (by rw [hd] at h; injection h with h; exact h.symm), hc.2⟩
     ·rename_i hd
      exact ⟨fun h => (by rw [hd] at h; cases h), hc⟩
    obtain ⟨T, s', hf, hk⟩ := ih pu r0 ctx (s.apply x0.o.dst e) k r h' (fun p hp => ⟨y6j (hctx p hp).1 e (hd0 _ (hctx p hp).2).1, (hd0 _ (hctx p hp).2).2⟩)
    refine ⟨.run x0 :: T, s', ⟨by simp [TS.x, hf.x], ?_, hf.len.trans (yfm s _ e), fun c b hc hb => hf.keep c b (hd0 c hc).2 (y6j hb e (hd0 c hc).1), fun hp M D hM hD => ?_⟩, hk⟩
    ·have : kI C call (.run x0) s.F = some (s.apply x0.o.dst e).F := by
      simp only [kI, hmet, if_true, yhQ]
      rw [show s.F.lk = zb s.o from rfl, he, Option.bind_some, if_pos hok, ybo]
     rw [wm, this, Option.bind_some]
     exact hf.steps
    ·have hsub := hf.pure hp M D (fun i hi => hM i (by simp [ZD, hi])) (fun d hd => hD d (by simp only [yU]; split <;> simp [hd]))
     rw [hsub, ybo]
     refine FS.wipe_apply (hnil hp) (fun i hi => hM i ?_) ?_
     ·have hs : yj6 (zr e.adds) x0.mine = true := by
       unfold Dop.ok at hok
       simp only [Bool.and_eq_true] at hok
       exact hok.1.2
      have : ∀ (X Y : List Nat), yj6 X Y = true → ∀ i ∈ X, i ∈ Y := by
       intro X
       induction X with
       | nil => intro Y _ i hi; simp at hi
       | cons j X ihX =>
        intro Y h i hi
        simp only [yj6, Bool.and_eq_true] at h
        rcases List.mem_cons.1 hi with rfl | hi
        ·exact JO.1 h.1
        ·exact ihX Y h.2 i hi
      simp [ZD, this _ _ hs i hi]
     ·cases hd : x0.o.dst with
      | none => trivial
      | some d => exact hD d (by simp [yU, hd])
   | some p =>
    obtain ⟨c, want⟩ := p
    simp only [hg] at h
    cases hv : zh s (.tmp c) with
    | none => simp [hv] at h
    | some v =>
     cases hsp : Ku c [] (YL ctx x0 :: r0.map (YL ctx)) with
     | none => simp [hv, hsp] at h
     | some q =>
      obtain ⟨grp, p, a, b, rest⟩ := q
      simp only [hv, hsp] at h
      obtain ⟨hsplit, hop, hpg⟩ := y15 c _ _ _ _ _ _ _ hsp
      rw [List.reverse_nil, List.nil_append, ← List.map_cons] at hsplit
      obtain ⟨grp0, l1, hl0, rfl, hl1⟩ := List.map_eq_append_iff.1 hsplit
      obtain ⟨p0, rest0, rfl, rfl, rfl⟩ := List.map_eq_cons_iff.1 hl1
      cases hau : Vr s.t.length c want [] (grp0.map (YL ctx)) with
      | false => simp [hau] at h
      | true =>
       simp only [hau, cond_true, y3j, y22, y1u, y6i] at h
       rw [hl0]
       rw [hl0] at hctx
       have hopd : s.opd (.tmp c) = .val .bool v := by
        have := y3W.1 hv
        simp [St.opd, this]
       have hcD : c ∉ yU grp0 := by
        have : ∀ (ds : List Nat) (l : List Dop), Vr s.t.length c want ds (l.map (YL ctx)) = true → c ∉ yU l := by
         intro ds l
         induction l generalizing ds with
         | nil => intro _; simp [yU]
         | cons y l ihl =>
          intro h
          simp only [List.map_cons, Vr, Bool.and_eq_true, y1u] at h
          cases hd : y.o.dst with
          | none =>
           simp only [hd] at h
           simp only [yU, hd]
           exact ihl _ h.2
          | some d =>
           simp only [hd, Bool.and_eq_true, Bool.not_eq_true'] at h
           simp only [yU, hd, List.mem_cons, not_or]
           refine ⟨fun e => ?_, ihl _ h.2.2⟩
           rw [e, yu] at h
           exact absurd h.2.1 (by simp)
        exact this [] grp0 hau
       have hin : ∀ d, d ∉ yU (grp0 ++ p0 :: rest0) → d ∉ yU grp0 ∧ p0.o.dst ≠ some d ∧ d ∉ yU rest0 := fun d hd => by
        rw [Wv, List.mem_append, not_or] at hd
        refine ⟨hd.1, ?_⟩
        have := hd.2
        simp only [yU] at this
        split at this
        ·rename_i e he
         simp only [List.mem_cons, not_or] at this
         exact ⟨fun h => this.1 (by rw [he] at h; injection h with h; exact h.symm), this.2⟩
        ·rename_i he
         exact ⟨fun h => (by rw [he] at h; cases h), this⟩
       have hmine : ZD (grp0 ++ p0 :: rest0) = ZD grp0 ++ (p0.mine ++ ZD rest0) := by rw [y14]; rfl
       have hpD : ∀ D : List Nat, (∀ d ∈ yU (grp0 ++ p0 :: rest0), d ∈ D) → inD D p0.o.dst := fun D hD => by
        cases hd : p0.o.dst with
        | none => trivial
        | some d => exact hD d (by rw [Wv]; simp [yU, hd])
       rw [y1u] at hop
       have join : ∀ (M : List Nat) (T1 : List TS) (z1 : FS) (u : Bool) (s2 : St), (∀ i ∈ M, i ∈ ZD grp0) → T1.map TS.x = grp0 → wm C call T1 s.F = some z1 → met z1 p0.g = true → z1.bool (.tmp c) = some v → z1.bool (if v then a else b) = some u → s2.F = ((z1.forgetAll M).kill (yU grp0)).put p0.o.dst (.val .bool u) → s2.t.length = s.t.length →
         (∀ c b, c ∉ yU (grp0 ++ p0 :: rest0) → zh s (.tmp c) = some b → zh s2 (.tmp c) = some b) → (pu = true → ∀ M' D, (∀ i ∈ ZD grp0, i ∈ M') → (∀ d ∈ yU grp0, d ∈ D) → (z1.forgetAll M').kill D = (s.F.forgetAll M').kill D) →
         kD C call pu n (rest0.map (YL ctx)) s2 k = some r → ∃ T s', Found C call pu (grp0 ++ p0 :: rest0) s T s' ∧ k s' = some r := by
        intro M T1 z1 u s2 hM hx hst hm hbc hbu hs2 hlen hkeep hpure hev
        obtain ⟨T, s', hf, hk⟩ := ih pu rest0 ctx s2 k r hev (fun q hq => ⟨hkeep _ _ (hctx q hq).2 (hctx q hq).1, (hin _ (hctx q hq).2).2.2⟩)
        refine ⟨T1 ++ .pick p0 M (yU grp0) :: T, s', ⟨by simp [hx, TS.x, hf.x], ?_, hf.len.trans hlen, fun c' b' hc' hb' => hf.keep c' b' (hin c' hc').2.2 (hkeep c' b' hc' hb'), fun hp M' D hM' hD => ?_⟩, hk⟩
        ·rw [y21, hst, Option.bind_some, wm]
         have : kI C call (.pick p0 M (yU grp0)) z1 = some s2.F := by
          simp only [kI, hm, if_true, hop, hbc, hbu, Option.bind_some]
          rw [hs2]
         rw [this, Option.bind_some]
         exact hf.steps
        ·have hD1 : ∀ d ∈ yU grp0, d ∈ D := fun d hd => hD d (by rw [Wv]; simp [hd])
         rw [hf.pure hp M' D (fun i hi => hM' i (by rw [hmine]; simp [hi])) (fun d hd => hD d (by rw [Wv]; simp only [yU]; split <;> simp [hd])), hs2, FS.wipe_put (hpD D hD), FS.wipe_kill hD1, FS.wipe_forgetAll (fun i hi => hM' i (by rw [hmine]; simp [hM i hi]))]
         exact hpure hp M' D (fun i hi => hM' i (by rw [hmine]; simp [hi])) hD1
       have hctx1 : ∀ p ∈ (c, v) :: ctx, zh s (.tmp p.1) = some p.2 ∧ p.1 ∉ yU grp0 := fun p hp => by
        rcases List.mem_cons.1 hp with rfl | hp
        ·exact ⟨hv, hcD⟩
        ·exact ⟨(hctx p hp).1, (hin _ (hctx p hp).2).1⟩
       have hlen2 : ∀ (M : List Nat) (s1 : St) (u : Bool), s1.t.length = s.t.length → ((zZ (s1.forgetAll M) (yU grp0)).put p0.o.dst (.val .bool u)).t.length = s.t.length := fun M s1 u h => by rw [ybq, ycP, y23, h]
       have hF2 : ∀ (M : List Nat) (s1 : St) (u : Bool), ((zZ (s1.forgetAll M) (yU grp0)).put p0.o.dst (.val .bool u)).F = ((s1.F.forgetAll M).kill (yU grp0)).put p0.o.dst (.val .bool u) := fun M s1 u => by rw [yfj, yfk, qN]
       have hkeep2 : ∀ (M : List Nat) (s1 : St) (u : Bool), (∀ c b, c ∉ yU grp0 → zh s (.tmp c) = some b → zh s1 (.tmp c) = some b) → ∀ c b, c ∉ yU (grp0 ++ p0 :: rest0) → zh s (.tmp c) = some b → zh ((zZ (s1.forgetAll M) (yU grp0)).put p0.o.dst (.val .bool u)) (.tmp c) = some b := fun M s1 u h c' b' hc' hb' =>
        y76 (y9p _ (y16 M (h c' b' (hin c' hc').1 hb')) (hin c' hc').1) (hin c' hc').2.1
       have meet : ∀ (M : List Nat) (pu1 : Bool) (T1 : List TS) (s1 s2 : St) (u : Bool), (∀ i ∈ M, i ∈ ZD grp0) → (pu = true → pu1 = true) → Found C call pu1 grp0 s T1 s1 → zh s1 (if v then a else b) = some u → s2.F = ((s1.F.forgetAll M).kill (yU grp0)).put p0.o.dst (.val .bool u) → s2.t.length = s.t.length → (∀ c b, c ∉ yU (grp0 ++ p0 :: rest0) → zh s (.tmp c) = some b → zh s2 (.tmp c) = some b) →
         kD C call pu n (rest0.map (YL ctx)) s2 k = some r → ∃ T s', Found C call pu (grp0 ++ p0 :: rest0) s T s' ∧ k s' = some r := by
        intro M pu1 T1 s1 s2 u hM hpp hf hbu hs2 hl2 hk2 hev
        refine join M T1 s1.F u s2 hM hf.x hf.steps (yjc (fun p hp => hf.keep _ _ (hin _ (hctx p hp).2).1 (hctx p hp).1) hpg) (by rw [y4B]; exact hf.keep _ _ hcD hv) (by rw [y4B]; exact hbu) hs2 hl2 hk2 (fun hp M' D hM' hD => hf.pure (hpp hp) M' D hM' hD) hev
       have miss : ∀ (M : List Nat) (u : Bool), v ≠ want → (∀ i ∈ M, i ∈ ZD grp0) → zh (zZ s (yU grp0)) (if v then a else b) = some u → kD C call pu n (rest0.map (YL ctx)) ((zZ (s.forgetAll M) (yU grp0)).put p0.o.dst (.val .bool u)) k = some r → ∃ T s', Found C call pu (grp0 ++ p0 :: rest0) s T s' ∧ k s' = some r := by
        intro M u hvw hM hbu hev
        obtain ⟨hs, _⟩ := yuE (C := C) (call := call) hvw ctx grp0 [] s.F hau rfl (by rw [yhQ]; exact hopd) (by simp)
        obtain ⟨hn, hb0⟩ := yhS hbu
        have hbk : ∀ c' b', c' ∉ yU grp0 → zh s (.tmp c') = some b' → (s.F.undAll (yU grp0)).bool (.tmp c') = some b' := fun c' b' hc' hb' => by
         rw [FS.bool_undAll _ _ (fun j hj e => hc' (by injection e with e; rw [e]; exact hj)), y4B]
         exact hb'
        refine join M (grp0.map TS.skip) (s.F.undAll (yU grp0)) u _ hM (by simp [List.map_map, Function.comp_def, TS.x]) hs ?_ (hbk c v hcD hv) (by rw [FS.bool_undAll _ _ hn, y4B]; exact hb0) ?_ (hlen2 M s u rfl) (hkeep2 M s u fun _ _ _ h => h) (fun hp M' D hM' hD => FS.wipe_und _ _ hD) hev
        ·rcases y6h hpg with h | ⟨q, hq, h⟩
         ·rw [h]
          rfl
         ·rw [h]
          have := hbk q.1 q.2 (hin _ (hctx q hq).2).1 (hctx q hq).1
          simp [met, this]
        ·rw [hF2, FS.wipe_und _ _ (fun d hd => hd)]
       have sets : ∀ (x y : Operand), (v = want → (if v then a else b) = x) → (v ≠ want → (if v then a else b) = y) → (bif v == want then kD C call pu n (grp0.map (YL ((c, want) :: ctx))) s fun s1 => match zh s1 x with
          | some u => kD C call pu n (rest0.map (YL ctx)) ((zZ s1 (yU grp0)).put p0.o.dst (.val .bool u)) k
          | none => none
         else match zh (zZ s (yU grp0)) y with
          | some u => kD C call pu n (rest0.map (YL ctx)) ((zZ s (yU grp0)).put p0.o.dst (.val .bool u)) k
          | none => none) = some r → ∃ T s', Found C call pu (grp0 ++ p0 :: rest0) s T s' ∧ k s' = some r := by
        intro x y hx hy h
        by_cases hvw : v = want
        ·subst hvw
         simp only [beq_self_eq_true, cond_true] at h
         obtain ⟨T1, s1, hf, hk⟩ := ih pu grp0 ((c, v) :: ctx) s _ r h hctx1
         cases hbu : zh s1 x with
         | none => simp [hbu] at hk
         | some u =>
          simp only [hbu] at hk
          exact meet [] pu T1 s1 _ u (by simp) id hf (by rw [hx rfl]; exact hbu) (hF2 [] s1 u) (hlen2 [] s1 u hf.len) (hkeep2 [] s1 u hf.keep) hk
        ·have hb : (v == want) = false := by simpa using hvw
         simp only [hb, cond_false] at h
         cases hbu : zh (zZ s (yU grp0)) y with
         | none => simp [hbu] at h
         | some u =>
          simp only [hbu] at h
          exact miss [] u hvw (by simp) (by rw [hy hvw]; exact hbu) h
       have pure : ∀ (x y : Operand), (v = want → (if v then a else b) = x) → (v ≠ want → (if v then a else b) = y) → ((bif v == want then kD C call true n (grp0.map (YL ((c, want) :: ctx))) s fun s1 => zh s1 x else zh (zZ s (yU grp0)) y).bind fun u =>
          kD C call pu n (rest0.map (YL ctx)) ((zZ (s.forgetAll (ZD grp0)) (yU grp0)).put p0.o.dst (.val .bool u)) k) = some r → ∃ T s', Found C call pu (grp0 ++ p0 :: rest0) s T s' ∧ k s' = some r := by
        intro x y hx hy h
        by_cases hvw : v = want
        ·subst hvw
         simp only [beq_self_eq_true, cond_true] at h
         cases hu : (kD C call true n (grp0.map (YL ((c, v) :: ctx))) s fun s1 => zh s1 x) with
         | none =>
          rw [hu] at h
          cases h
         | some u =>
          rw [hu, Option.bind_some] at h
          obtain ⟨T1, s1, hf, hk⟩ := ih true grp0 ((c, v) :: ctx) s _ u hu hctx1
          exact meet (ZD grp0) true T1 s1 _ u (fun _ h => h) (fun _ => rfl) hf (by rw [hx rfl]; exact hk) (by rw [hF2, hf.pure rfl _ _ (fun _ h => h) (fun _ h => h)]) (hlen2 _ s u rfl) (hkeep2 _ s u fun _ _ _ h => h) h
        ·have hb : (v == want) = false := by simpa using hvw
         simp only [hb, cond_false] at h
         cases hbu : zh (zZ s (yU grp0)) y with
         | none =>
          rw [hbu] at h
          cases h
         | some u =>
          rw [hbu, Option.bind_some] at h
          exact miss _ u hvw (fun _ h => h) (by rw [hy hvw]; exact hbu) h
       cases hset : (grp0.map (YL ctx)).any fun y => ynD C y.o || !Nat.beq y.hn 0 with
       | true =>
        simp only [hset, cond_true] at h
        cases want with
        | true => exact sets a b (fun e => by rw [e]; rfl) (fun e => by cases v <;> simp at e ⊢) (by cases v <;> exact h)
        | false => exact sets b a (fun e => by rw [e]; rfl) (fun e => by cases v <;> simp at e ⊢) (by cases v <;> exact h)
       | false =>
        simp only [hset, cond_false] at h
        cases want with
        | true => exact pure a b (fun e => by rw [e]; rfl) (fun e => by cases v <;> simp at e ⊢) (by cases v <;> exact h)
        | false => exact pure b a (fun e => by rw [e]; rfl) (fun e => by cases v <;> simp at e ⊢) (by cases v <;> exact h)
end Go.Proofs.YtjllpipmaejeoaaGreat.R
