/- Steps that hang on nothing of each other change places. No condition. -/
import Derived.Test.YthgdjjdigalckaaGreatRSwap
set_option linter.all false
namespace Go.Proofs.YthgdjjdigalckaaGreat.R
open Go.RowKit
variable {C : Ctx} {call : C.Sem} {ops : Array Oper}
section
variable (C : Ctx) (call : C.Sem)
def ydw : TS → FS → Option Eff
 | .run x, z => if met z x.g then (jE C call (Nat.beq x.hn 2) (Nat.beq x.hn 3) x.o z.opd (x.see z.lk) some).bind fun e => if x.ok (x.see z.lk) e then some e else none else none
 | .skip x, z => if y45 z x.g then some ⟨[], [], .und⟩ else none
 | .pick _ _ _, _ => none
end
def TS.isP : TS → Bool
 | .pick _ _ _ => true
 | _ => false
theorem QA {t : TS} (ht : t.isP = false) (z : FS) : kQ C call t z = (ydw C call t z).map (z.apply t.x.o.dst) := by
 cases t with
 | run x =>
  simp only [kQ, ydw, TS.x]
  split
  ·cases jE C call (Nat.beq x.hn 2) (Nat.beq x.hn 3) x.o z.opd (x.see z.lk) some with
   | none => rfl
   | some e =>
    simp only [Option.bind_some]
    split <;> rfl
  ·rfl
 | skip x =>
  simp only [kQ, ydw, TS.x]
  split <;> rfl
 | pick _ _ _ => simp [TS.isP] at ht
theorem y8z {t : TS} (ht : t.isP = true) (hp : y1u t.x.o = false) (z : FS) : kQ C call t z = none := by
 cases t with
 | pick x M D =>
  simp only [kQ]
  split
  ·split
   ·rename_i hop
    simp [y1u, TS.x, hop] at hp
   ·rfl
  ·rfl
 | _ => simp [TS.isP] at ht
structure EffOk (x : Dop) (z : FS) (e : Eff) : Prop where
 cls0 : x.cls = 0 → e.sets = []
 cls1 : x.cls = 1 → y1t (x.see z.lk) e.sets = true
 cls3 : x.cls = 3 → Qs (x.see z.lk) e.sets = true
 cls4 : x.cls = 4 → ∀ i ∈ ze e.sets, i ∈ x.fp
 adds : ∀ i ∈ ze e.adds, i ∈ x.mine
 later : ∀ i ∈ x.later, i ∉ e.speaks
theorem ybj : ∀ {X Y : List Nat}, yhx X Y = true → ∀ i ∈ X, i ∈ Y := by
 intro X
 induction X with
 | nil => intro Y _ i hi; simp at hi
 | cons j X ihX =>
  intro Y h i hi
  simp only [yhx, Bool.and_eq_true] at h
  rcases List.mem_cons.1 hi with rfl | hi
  ·exact w3.1 h.1
  ·exact ihX h.2 i hi
theorem y6j {t : TS} {z : FS} {e : Eff} (h : ydw C call t z = some e) : EffOk t.x z e := by
 cases t with
 | run x =>
  simp only [ydw] at h
  split at h
  ·cases he : jE C call (Nat.beq x.hn 2) (Nat.beq x.hn 3) x.o z.opd (x.see z.lk) some with
   | none => simp [he] at h
   | some e' =>
    simp only [he, Option.bind_some] at h
    split at h
    ·rename_i hok
     injection h with h
     subst h
     unfold Dop.ok at hok
     simp only [Bool.and_eq_true] at hok
     refine ⟨fun hc => ?_, fun hc => ?_, fun hc => ?_, fun hc => ?_, ybj hok.1.2, fun i hi => ?_⟩
     ·have h1 := hok.1.1
      simp only [TS.x] at hc
      rw [hc] at h1
      cases hs : e'.sets with
      | nil => rfl
      | cons _ _ => simp [hs, vd] at h1
     ·have h1 := hok.1.1
      simp only [TS.x] at hc
      rw [hc] at h1
      exact h1
     ·have h1 := hok.1.1
      simp only [TS.x] at hc
      rw [hc] at h1
      exact h1
     ·have h1 := hok.1.1
      simp only [TS.x] at hc
      rw [hc] at h1
      exact ybj h1
     ·have h1 := hok.2
      simp only [TS.x] at hi
      rcases (by simpa using h1 : vd x.later = true ∨ y0I x.later (e'.a.ids ++ (y4P e'.sets ++ y4P e'.adds)) = true) with h2 | h2
      ·cases hl : x.later with
       | nil => rw [hl] at hi; simp at hi
       | cons _ _ => simp [hl, vd] at h2
      ·exact vt h2 i hi
    ·cases h
  ·cases h
 | skip x =>
  simp only [ydw] at h
  split at h
  ·injection h with h
   subst h
   exact ⟨fun _ => rfl, fun _ => rfl, fun _ => rfl, fun _ => by simp [ze], by simp [ze], by simp [Eff.speaks, A.ids, y4P]⟩
  ·cases h
 | pick _ _ _ => simp [ydw] at h
structure Loose (ops : Array Oper) (x y : Dop) : Prop where
 apart : y5f ops x.o y.o = true
 pick : y1u x.o = false
 cls : x.cls = 0 ∨ y.cls = 0 ∨ (x.cls = 4 ∧ y.cls = 4 ∧ ∀ i ∈ x.fp, i ∉ y.fp)
 vis : y.cls = 0 ∨ (y.cls = 1 ∧ (x.vis = 0 ∨ x.vis = 1)) ∨ (y.cls = 3 ∧ (x.vis = 0 ∨ x.vis = 3)) ∨ x.vis = 0 ∨ y.cls = 4
 fp : ∀ i ∈ y.fp, i ∈ x.bad
 bad : ∀ i ∈ y.mine, i ∈ x.bad
 later : ∀ i ∈ y.mine, i ∈ x.later
theorem y8A : ∀ (X : List (Nat × Ob)) (z : FS), (∀ i ∈ ze X, i ∉ je z.t) → (z.makeAll X).t = z.t
 | [], _, _ => rfl
 | (i, x) :: X, z, h => by
  have h0 : (z.make i x).t = z.t := Ji _ (h i (by simp [ze]))
  rw [FS.makeAll, y8A X _ (fun j hj => by rw [h0]; exact h j (by simp [ze, hj])), h0]
theorem y0w {i : Nat} : ∀ (X : List (Nat × Ob)) (z : FS), i ∉ ze X → (∀ m ∈ ze X, ∀ ob, z.lk i = some ob → m ∉ ob.ids) → (z.makeAll X).lk i = z.lk i
 | [], _, _, _ => rfl
 | (m, x) :: X, z, hi, h => by
  simp only [ze, List.mem_cons, not_or] at hi
  have h0 : (z.make m x).lk i = z.lk i := by
   simp only [FS.make, hi.1, if_false]
   cases hl : z.lk i with
   | none => rfl
   | some ob => simp [Ob.forget_none ob (h m (by simp [ze]) ob hl)]
  rw [FS.makeAll, y0w X _ hi.2 (fun n hn ob hob => by rw [h0] at hob; exact h n (by simp [ze, hn]) ob hob), h0]
theorem y8B : ∀ (S : List (Nat × Ob)) (z : FS), (z.setAll S).t = z.t
 | [], _ => rfl
 | (i, x) :: S, z => y8B S (z.set i x)
theorem ymA (z : FS) (d : Option Nat) (a : A) : (z.put d a).lk = z.lk := by cases d <;> rfl
def yai (lk : Lk) (i : Nat) : Option Ob := match lk i with
 | some (.box cs) => some (.box cs)
 | _ => none
theorem y5B {i : Nat} : ∀ (S : List (Nat × Ob)) (z : FS), (∀ p ∈ S, (match p.2 with | .box _ => false | _ => true) = true) → (∀ p ∈ S, ∀ cs, z.lk p.1 ≠ some (.box cs)) → yai (z.setAll S).lk i = yai z.lk i
 | [], _, _, _ => rfl
 | (j, x) :: S, z, h1, h2 => by
  have hx := h1 (j, x) (by simp)
  have hz := h2 (j, x) (by simp)
  have h0 : ∀ m, yai (z.set j x).lk m = yai z.lk m := fun m => by
   unfold yai
   simp only [FS.set]
   by_cases hm : m = j
   ·subst hm
    simp only [if_true]
    cases hl : z.lk m with
    | none => rfl
    | some ob =>
     cases ob with
     | box cs => exact absurd hl (hz cs)
     | root _ _ _ _ => cases x <;> simp_all
     | gone => cases x <;> simp_all
   ·simp [hm]
  rw [FS.setAll, y5B S _ (fun p hp => h1 p (by simp [hp])) (fun p hp cs hc => ?_), h0]
  have := h0 p.1
  unfold yai at this
  rw [hc] at this
  cases hl : z.lk p.1 with
  | none => simp [hl] at this
  | some ob =>
   cases ob with
   | box cs' => exact h2 p (by simp [hp]) cs' hl
   | _ => simp [hl] at this
theorem yhE (x : Dop) {lk : Lk} {i : Nat} {ob : Ob} (h : x.see lk i = some ob) : lk i = some ob := by
 unfold Dop.see at h
 cases hb : Vp x.bad i with
 | true => simp [hb] at h
 | false =>
  simp only [hb, cond_false] at h
  split at h
  ·cases h
  ·cases hl : lk i with
   | none => simp [hl] at h
   | some y => cases y <;> simp [hl] at h ⊢ <;> exact h
  ·cases hl : lk i with
   | none => simp [hl] at h
   | some y => cases y <;> simp [hl] at h ⊢ <;> exact h
  ·exact h
theorem y0Q {lk : Lk} : ∀ {S : List (Nat × Ob)}, Qs lk S = true → ∀ p ∈ S, (∃ cs, lk p.1 = some (.box cs)) ∧ (match p.2 with | .box _ => true | _ => false) = true
 | [], _, p, hp => by simp at hp
 | (i, x) :: S, h, p, hp => by
  simp only [Qs, Bool.and_eq_true] at h
  rcases List.mem_cons.1 hp with rfl | hp
  ·have h1 := h.1
   split at h1
   ·rename_i cs hl
    exact ⟨⟨cs, hl⟩, h1⟩
   ·cases h1
  ·exact y0Q h.2 p hp
def y8C : Option Ob → Option Ob
 | some (.root own e ts xs) => some (.root own e ts xs)
 | _ => none
theorem y5C {i : Nat} : ∀ (S : List (Nat × Ob)) (z : FS), (∀ p ∈ S, (match p.2 with | .box _ => true | _ => false) = true) → (∀ p ∈ S, y8C (z.lk p.1) = none) → y8C ((z.setAll S).lk i) = y8C (z.lk i)
 | [], _, _, _ => rfl
 | (j, x) :: S, z, h1, h2 => by
  have hx := h1 (j, x) (by simp)
  have hj : y8C (z.lk j) = none := h2 (j, x) (by simp)
  have hs : ∀ m, y8C ((z.set j x).lk m) = y8C (z.lk m) := by
   intro m
   by_cases hi : m = j
   ·subst hi
    rw [hj]
    cases x with
    | box cs => cases hl : z.lk m <;> simp [FS.set, hl, y8C]
    | _ => cases hx
   ·simp [FS.set, hi]
  rw [FS.setAll, y5C S _ (fun p hp => h1 p (by simp [hp])) (fun p hp => (hs p.1).trans (h2 p (by simp [hp]))), hs]
theorem y1I {lk : Lk} : ∀ {S : List (Nat × Ob)}, y1t lk S = true → ∀ p ∈ S, (∃ ob, lk p.1 = some ob ∧ ∀ cs, ob ≠ .box cs) ∧ (match p.2 with | .box _ => false | _ => true) = true
 | [], _, p, hp => by simp at hp
 | (i, x) :: S, h, p, hp => by
  simp only [y1t, Bool.and_eq_true] at h
  rcases List.mem_cons.1 hp with rfl | hp
  ·have h1 := h.1
   split at h1
   ·rename_i own e ts xs hl
    exact ⟨⟨_, hl, fun cs h => by cases h⟩, h1⟩
   ·cases h1
  ·exact y1I h.2 p hp
theorem y2K {i : Nat} : ∀ (S : List (Nat × Ob)) (z : FS), i ∉ ze S → (z.setAll S).lk i = z.lk i
 | [], _, _ => rfl
 | (j, x) :: S, z, h => by
  simp only [ze, List.mem_cons, not_or] at h
  rw [FS.setAll, y2K S _ h.2]
  simp [FS.set, h.1]
theorem ycz {x y : Dop} (hyx : Loose ops y x) {z : FS} {e : Eff} (he : EffOk x z e) (nm : ∀ i ∈ x.mine, NM z i) : y.see (z.apply x.o.dst e).lk = y.see z.lk := by
 funext i
 unfold Dop.see
 cases hb : Vp y.bad i with
 | true => rfl
 | false =>
  have hi : i ∉ ze e.adds := fun hm => by
   rw [w3.2 (hyx.bad i (he.adds i hm))] at hb
   cases hb
  have hmk : (z.makeAll e.adds).lk i = z.lk i := y0w _ _ hi (fun m hm ob hob => (nm m (he.adds m hm)).ob i ob hob)
  simp only [cond_false]
  rw [FS.apply, ymA]
  rcases hyx.vis with hc | ⟨hc, hv⟩ | ⟨hc, hv⟩ | hv | hc
  ·rw [he.cls0 hc]
   simp only [FS.setAll, hmk]
  ·have hro := y1I (he.cls1 hc)
   have hbx := y5B (i := i) e.sets (z.makeAll e.adds) (fun p hp => (hro p hp).2) (fun p hp cs hcs => by
    obtain ⟨ob', hl, hnb⟩ := (hro p hp).1
    have hl' := yhE x hl
    have hp' : p.1 ∉ ze e.adds := fun hm => by
     rw [(nm _ (he.adds _ hm)).lk] at hl'
     cases hl'
    rw [y0w _ _ hp' (fun m hm ob hob => (nm m (he.adds m hm)).ob p.1 ob hob), hl'] at hcs
    injection hcs with hcs
    exact hnb cs hcs)
   rcases hv with hv | hv
   ·rw [hv]
    rfl
   ·rw [hv]
    unfold yai at hbx
    rw [hmk] at hbx
    exact hbx
  ·have hbo := y0Q (he.cls3 hc)
   have hrw := y5C (i := i) e.sets (z.makeAll e.adds) (fun p hp => (hbo p hp).2) (fun p hp => by
    obtain ⟨cs, hl⟩ := (hbo p hp).1
    have hl' := yhE x hl
    have hp' : p.1 ∉ ze e.adds := fun hm => by
     rw [(nm _ (he.adds _ hm)).lk] at hl'
     cases hl'
    rw [y0w _ _ hp' (fun m hm ob hob => (nm m (he.adds m hm)).ob p.1 ob hob), hl']
    rfl)
   rcases hv with hv | hv
   ·rw [hv]
    rfl
   ·rw [hv]
    unfold y8C at hrw
    rw [hmk] at hrw
    exact hrw
  ·rw [hv]
   rfl
  ·have hi2 : i ∉ ze e.sets := fun hm => by
    rw [w3.2 (hyx.fp i (he.cls4 hc i hm))] at hb
    cases hb
   have hs : (((z.makeAll e.adds).setAll e.sets).lk i) = z.lk i := (y2K e.sets _ hi2).trans hmk
   rw [hs]
theorem yfy {l : List Nat} {d : Option Nat} (h : ytT l d = false) : ∀ c ∈ l, d ≠ some c := by
 intro c hc e
 subst e
 simp only [ytT] at h
 rw [w3.2 hc] at h
 cases h
theorem y8D : ∀ {l : List Operand} {c : Nat}, .tmp c ∈ l → c ∈ y2a l
 | x :: l, c, h => by
  rcases List.mem_cons.1 h with h | h
  ·subst h
   simp [y2a]
  ·have := y8D h
   cases x <;> simp [y2a, this]
theorem y5D {x : Dop} {z : FS} {e : Eff} (he : EffOk x z e) (nm : ∀ i ∈ x.mine, NM z i) {c : Nat} (hc : x.o.dst ≠ some c) : (z.apply x.o.dst e).opd (.tmp c) = z.opd (.tmp c) := by
 have ht : ((z.makeAll e.adds).setAll e.sets).t = z.t := by
  rw [y8B, y8A _ _ (fun i hi => (nm i (he.adds i hi)).t)]
 unfold FS.apply
 cases hd : x.o.dst with
 | none =>
  show ((z.makeAll e.adds).setAll e.sets).t.getD c .dead = _
  rw [ht]
  rfl
 | some d =>
  have hne : d ≠ c := fun h => hc (by rw [hd, h])
  show (((z.makeAll e.adds).setAll e.sets).t.set d e.a).getD c .dead = z.t.getD c .dead
  rw [ht, List.getD_eq_getElem?_getD, List.getElem?_set_ne hne, List.getD_eq_getElem?_getD]
theorem y5E {x : Dop} {t : TS} (hg : ZH ops t.x.o = some t.x.g) (hyx : Loose ops t.x x) {z : FS} {e : Eff} (he : EffOk x z e) (nm : ∀ i ∈ x.mine, NM z i) : ydw C call t (z.apply x.o.dst e) = ydw C call t z := by
 have hap := hyx.apart
 unfold y5f at hap
 simp only [Bool.and_eq_true, Bool.not_eq_true'] at hap
 have hask := yfy hap.1.2
 have hguard : ∀ c v, t.x.g = some (c, v) → (z.apply x.o.dst e).opd (.tmp c) = z.opd (.tmp c) := fun c v hgv => by
  refine y5D he nm (hask c ?_)
  rw [hgv] at hg
  simp [yf4, hg]
 have hmet : met (z.apply x.o.dst e) t.x.g = met z t.x.g := by
  cases hgv : t.x.g with
  | none => rfl
  | some p =>
   obtain ⟨c, v⟩ := p
   simp only [met, FS.bool, hguard c v hgv]
 have hunmet : y45 (z.apply x.o.dst e) t.x.g = y45 z t.x.g := by
  cases hgv : t.x.g with
  | none => rfl
  | some p =>
   obtain ⟨c, v⟩ := p
   simp only [y45, hguard c v hgv]
 cases t with
 | run y =>
  have hops : ∀ u ∈ y.o.op.operands, (z.apply x.o.dst e).opd u = z.opd u := fun u hu => by
   cases u with
   | tmp c =>
    refine y5D he nm (hask c ?_)
    simp only [TS.x, yf4, List.mem_append]
    exact .inr (y8D (by simpa using hu))
   | _ => rfl
  simp only [TS.x] at hmet hyx
  simp only [ydw, hmet, ycz hyx he nm]
  rw [ycs some hops]
 | skip y =>
  simp only [TS.x] at hunmet
  simp only [ydw, hunmet]
 | pick _ _ _ => rfl
theorem yBW {tx ty : TS} (hgx : ZH ops tx.x.o = some tx.x.g) (hgy : ZH ops ty.x.o = some ty.x.g) (hxy : Loose ops tx.x ty.x) (hyx : Loose ops ty.x tx.x) {z z1 z2 : FS} (nmx : ∀ i ∈ tx.x.mine, NM z i) (nmy : ∀ i ∈ ty.x.mine, NM z i)
  (h1 : kQ C call tx z = some z1) (h2 : kQ C call ty z1 = some z2) : ∃ z1', kQ C call ty z = some z1' ∧ kQ C call tx z1' = some z2 := by
 cases hpx : tx.isP with
 | true =>
  rw [y8z hpx hxy.pick] at h1
  cases h1
 | false =>
  cases hpy : ty.isP with
  | true =>
   rw [y8z hpy hyx.pick] at h2
   cases h2
  | false =>
   rw [QA hpx] at h1
   rw [QA hpy] at h2
   obtain ⟨ex, hex, rfl⟩ := Option.map_eq_some_iff.1 h1
   obtain ⟨ey, hey, rfl⟩ := Option.map_eq_some_iff.1 h2
   have okx := y6j hex
   rw [y5E hgy hyx okx nmx] at hey
   have oky := y6j hey
   have hex' := y5E (C := C) (call := call) hgx hxy oky nmy
   rw [hex] at hex'
   refine ⟨z.apply ty.x.o.dst ey, by rw [QA hpy, hey]; rfl, ?_⟩
   rw [QA hpx, hex', Option.map_some]
   congr 1
   refine (FS.apply_apply ?_ ?_ ?_ ?_).symm
   ·rcases hxy.cls with h | h | ⟨h, h', hd⟩
    ·rw [okx.cls0 h]
     intro i hi
     simp [ze] at hi
    ·rw [oky.cls0 h]
     intro i _ hi
     simp [ze] at hi
    ·exact fun i hi hj => hd i (okx.cls4 h i hi) (oky.cls4 h' i hj)
   ·exact fun i hi => okx.later i (hxy.later i (oky.adds i hi))
   ·exact fun i hi => oky.later i (hyx.later i (okx.adds i hi))
   ·have hap := hxy.apart
    unfold y5f at hap
    simp only [Bool.and_eq_true] at hap
    intro i hi hj
    have := hap.2
    simp [hi, hj, yt] at this
end Go.Proofs.YthgdjjdigalckaaGreat.R
