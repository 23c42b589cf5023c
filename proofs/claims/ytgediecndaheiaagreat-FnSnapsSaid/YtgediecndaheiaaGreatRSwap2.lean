/- Steps that hang on nothing of each other change places. No condition. -/
import Derived.Test.YtgediecndaheiaaGreatRSwap
set_option linter.all false
namespace Go.Proofs.YtgediecndaheiaaGreat.R
open Go.RowKit
variable {C : Ctx} {call : C.Sem} {ops : Array Oper}
section
variable (C : Ctx) (call : C.Sem)
def ye6 : TS → FS → Option Eff
 | .run x, z => if met z x.g then (jG C call (Nat.beq x.hn 2) (Nat.beq x.hn 3) x.o z.opd (x.see z.lk) some).bind fun e => if x.ok (x.see z.lk) e then some e else none else none
 | .skip x, z => if y3Z z x.g then some ⟨[], [], .und⟩ else none
 | .pick _ _ _, _ => none
end
def TS.isP : TS → Bool
 | .pick _ _ _ => true
 | _ => false
theorem Qs {t : TS} (ht : t.isP = false) (z : FS) : kI C call t z = (ye6 C call t z).map (z.apply t.x.o.dst) := by
 cases t with
 | run x =>
  simp only [kI, ye6, TS.x]
  split
  ·cases jG C call (Nat.beq x.hn 2) (Nat.beq x.hn 3) x.o z.opd (x.see z.lk) some with
   | none => rfl
   | some e =>
    simp only [Option.bind_some]
    split <;> rfl
  ·rfl
 | skip x =>
  simp only [kI, ye6, TS.x]
  split <;> rfl
 | pick _ _ _ => simp [TS.isP] at ht
theorem y8o {t : TS} (ht : t.isP = true) (hp : y1k t.x.o = false) (z : FS) : kI C call t z = none := by
 cases t with
 | pick x M D =>
  simp only [kI]
  split
  ·split
   ·rename_i hop
    simp [y1k, TS.x, hop] at hp
   ·rfl
  ·rfl
 | _ => simp [TS.isP] at ht
structure EffOk (x : Dop) (z : FS) (e : Eff) : Prop where
 cls0 : x.cls = 0 → e.sets = []
 cls1 : x.cls = 1 → y1j (x.see z.lk) e.sets = true
 cls3 : x.cls = 3 → Qk (x.see z.lk) e.sets = true
 cls4 : x.cls = 4 → ∀ i ∈ zh e.sets, i ∈ x.fp
 adds : ∀ i ∈ zh e.adds, i ∈ x.mine
 later : ∀ i ∈ x.later, i ∉ e.speaks
theorem ybw : ∀ {X Y : List Nat}, yhS X Y = true → ∀ i ∈ X, i ∈ Y := by
 intro X
 induction X with
 | nil => intro Y _ i hi; simp at hi
 | cons j X ihX =>
  intro Y h i hi
  simp only [yhS, Bool.and_eq_true] at h
  rcases List.mem_cons.1 hi with rfl | hi
  ·exact JV.1 h.1
  ·exact ihX h.2 i hi
theorem y6m {t : TS} {z : FS} {e : Eff} (h : ye6 C call t z = some e) : EffOk t.x z e := by
 cases t with
 | run x =>
  simp only [ye6] at h
  split at h
  ·cases he : jG C call (Nat.beq x.hn 2) (Nat.beq x.hn 3) x.o z.opd (x.see z.lk) some with
   | none => simp [he] at h
   | some e' =>
    simp only [he, Option.bind_some] at h
    split at h
    ·rename_i hok
     injection h with h
     subst h
     unfold Dop.ok at hok
     simp only [Bool.and_eq_true] at hok
     refine ⟨fun hc => ?_, fun hc => ?_, fun hc => ?_, fun hc => ?_, ybw hok.1.2, fun i hi => ?_⟩
     ·have h1 := hok.1.1
      simp only [TS.x] at hc
      rw [hc] at h1
      cases hs : e'.sets with
      | nil => rfl
      | cons _ _ => simp [hs, KZ] at h1
     ·have h1 := hok.1.1
      simp only [TS.x] at hc
      rw [hc] at h1
      exact h1
     ·have h1 := hok.1.1
      simp only [TS.x] at hc
      rw [hc] at h1
      exact h1
     ·have h1 := hok.1.1
      simp only [TS.x] at hc
      rw [hc] at h1
      exact ybw h1
     ·have h1 := hok.2
      simp only [TS.x] at hi
      rcases (by simpa using h1 : KZ x.later = true ∨ y0z x.later (e'.a.ids ++ (y4S e'.sets ++ y4S e'.adds)) = true) with h2 | h2
      ·cases hl : x.later with
       | nil => rw [hl] at hi; simp at hi
       | cons _ _ => simp [hl, KZ] at h2
      ·exact vp h2 i hi
    ·cases h
  ·cases h
 | skip x =>
  simp only [ye6] at h
  split at h
  ·injection h with h
   subst h
   exact ⟨fun _ => rfl, fun _ => rfl, fun _ => rfl, fun _ => by simp [zh], by simp [zh], by simp [Eff.speaks, A.ids, y4S]⟩
  ·cases h
 | pick _ _ _ => simp [ye6] at h
structure Loose (ops : Array Oper) (x y : Dop) : Prop where
 apart : y5k ops x.o y.o = true
 pick : y1k x.o = false
 cls : x.cls = 0 ∨ y.cls = 0 ∨ (x.cls = 4 ∧ y.cls = 4 ∧ ∀ i ∈ x.fp, i ∉ y.fp)
 vis : y.cls = 0 ∨ (y.cls = 1 ∧ (x.vis = 0 ∨ x.vis = 1)) ∨ (y.cls = 3 ∧ (x.vis = 0 ∨ x.vis = 3)) ∨ x.vis = 0 ∨ y.cls = 4
 fp : ∀ i ∈ y.fp, i ∈ x.bad
 bad : ∀ i ∈ y.mine, i ∈ x.bad
 later : ∀ i ∈ y.mine, i ∈ x.later
theorem y8p : ∀ (X : List (Nat × Ob)) (z : FS), (∀ i ∈ zh X, i ∉ jk z.t) → (z.makeAll X).t = z.t
 | [], _, _ => rfl
 | (i, x) :: X, z, h => by
  have h0 : (z.make i x).t = z.t := Jf _ (h i (by simp [zh]))
  rw [FS.makeAll, y8p X _ (fun j hj => by rw [h0]; exact h j (by simp [zh, hj])), h0]
theorem y0m {i : Nat} : ∀ (X : List (Nat × Ob)) (z : FS), i ∉ zh X → (∀ m ∈ zh X, ∀ ob, z.lk i = some ob → m ∉ ob.ids) → (z.makeAll X).lk i = z.lk i
 | [], _, _, _ => rfl
 | (m, x) :: X, z, hi, h => by
  simp only [zh, List.mem_cons, not_or] at hi
  have h0 : (z.make m x).lk i = z.lk i := by
   simp only [FS.make, hi.1, if_false]
   cases hl : z.lk i with
   | none => rfl
   | some ob => simp [Ob.forget_none ob (h m (by simp [zh]) ob hl)]
  rw [FS.makeAll, y0m X _ hi.2 (fun n hn ob hob => by rw [h0] at hob; exact h n (by simp [zh, hn]) ob hob), h0]
theorem y8q : ∀ (S : List (Nat × Ob)) (z : FS), (z.setAll S).t = z.t
 | [], _ => rfl
 | (i, x) :: S, z => y8q S (z.set i x)
theorem ym2 (z : FS) (d : Option Nat) (a : A) : (z.put d a).lk = z.lk := by cases d <;> rfl
def ya4 (lk : Lk) (i : Nat) : Option Ob := match lk i with
 | some (.box cs) => some (.box cs)
 | _ => none
theorem y5G {i : Nat} : ∀ (S : List (Nat × Ob)) (z : FS), (∀ p ∈ S, (match p.2 with | .box _ => false | _ => true) = true) → (∀ p ∈ S, ∀ cs, z.lk p.1 ≠ some (.box cs)) → ya4 (z.setAll S).lk i = ya4 z.lk i
 | [], _, _, _ => rfl
 | (j, x) :: S, z, h1, h2 => by
  have hx := h1 (j, x) (by simp)
  have hz := h2 (j, x) (by simp)
  have h0 : ∀ m, ya4 (z.set j x).lk m = ya4 z.lk m := fun m => by
   unfold ya4
   simp only [FS.set]
   by_cases hm : m = j
   ·subst hm
    simp only [if_true]
    cases hl : z.lk m with
    | none => rfl
    | some ob =>
     cases ob with
     | box cs => exact absurd hl (hz cs)
     | root _ _ _ _ => cases x <;> simp_all
     | gone => cases x <;> simp_all
   ·simp [hm]
  rw [FS.setAll, y5G S _ (fun p hp => h1 p (by simp [hp])) (fun p hp cs hc => ?_), h0]
  have := h0 p.1
  unfold ya4 at this
  rw [hc] at this
  cases hl : z.lk p.1 with
  | none => simp [hl] at this
  | some ob =>
   cases ob with
   | box cs' => exact h2 p (by simp [hp]) cs' hl
   | _ => simp [hl] at this
theorem yhZ (x : Dop) {lk : Lk} {i : Nat} {ob : Ob} (h : x.see lk i = some ob) : lk i = some ob := by
 unfold Dop.see at h
 cases hb : Vi x.bad i with
 | true => simp [hb] at h
 | false =>
  simp only [hb, cond_false] at h
  split at h
  ·cases h
  ·cases hl : lk i with
   | none => simp [hl] at h
   | some y => cases y <;> simp [hl] at h ⊢ <;> exact h
  ·cases hl : lk i with
   | none => simp [hl] at h
   | some y => cases y <;> simp [hl] at h ⊢ <;> exact h
  ·exact h
theorem y0G {lk : Lk} : ∀ {S : List (Nat × Ob)}, Qk lk S = true → ∀ p ∈ S, (∃ cs, lk p.1 = some (.box cs)) ∧ (match p.2 with | .box _ => true | _ => false) = true
 | [], _, p, hp => by simp at hp
 | (i, x) :: S, h, p, hp => by
  simp only [Qk, Bool.and_eq_true] at h
  rcases List.mem_cons.1 hp with rfl | hp
  ·have h1 := h.1
   split at h1
   ·rename_i cs hl
    exact ⟨⟨cs, hl⟩, h1⟩
   ·cases h1
  ·exact y0G h.2 p hp
def y8r : Option Ob → Option Ob
 | some (.root own e ts xs) => some (.root own e ts xs)
 | _ => none
theorem y5H {i : Nat} : ∀ (S : List (Nat × Ob)) (z : FS), (∀ p ∈ S, (match p.2 with | .box _ => true | _ => false) = true) → (∀ p ∈ S, y8r (z.lk p.1) = none) → y8r ((z.setAll S).lk i) = y8r (z.lk i)
 | [], _, _, _ => rfl
 | (j, x) :: S, z, h1, h2 => by
  have hx := h1 (j, x) (by simp)
  have hj : y8r (z.lk j) = none := h2 (j, x) (by simp)
  have hs : ∀ m, y8r ((z.set j x).lk m) = y8r (z.lk m) := by
   intro m
   by_cases hi : m = j
   ·subst hi
    rw [hj]
    cases x with
    | box cs => cases hl : z.lk m <;> simp [FS.set, hl, y8r]
    | _ => cases hx
   ·simp [FS.set, hi]
  rw [FS.setAll, y5H S _ (fun p hp => h1 p (by simp [hp])) (fun p hp => (hs p.1).trans (h2 p (by simp [hp]))), hs]
theorem y1y {lk : Lk} : ∀ {S : List (Nat × Ob)}, y1j lk S = true → ∀ p ∈ S, (∃ ob, lk p.1 = some ob ∧ ∀ cs, ob ≠ .box cs) ∧ (match p.2 with | .box _ => false | _ => true) = true
 | [], _, p, hp => by simp at hp
 | (i, x) :: S, h, p, hp => by
  simp only [y1j, Bool.and_eq_true] at h
  rcases List.mem_cons.1 hp with rfl | hp
  ·have h1 := h.1
   split at h1
   ·rename_i own e ts xs hl
    exact ⟨⟨_, hl, fun cs h => by cases h⟩, h1⟩
   ·cases h1
  ·exact y1y h.2 p hp
theorem y2I {i : Nat} : ∀ (S : List (Nat × Ob)) (z : FS), i ∉ zh S → (z.setAll S).lk i = z.lk i
 | [], _, _ => rfl
 | (j, x) :: S, z, h => by
  simp only [zh, List.mem_cons, not_or] at h
  rw [FS.setAll, y2I S _ h.2]
  simp [FS.set, h.1]
theorem yd0 {x y : Dop} (hyx : Loose ops y x) {z : FS} {e : Eff} (he : EffOk x z e) (nm : ∀ i ∈ x.mine, NM z i) : y.see (z.apply x.o.dst e).lk = y.see z.lk := by
 funext i
 unfold Dop.see
 cases hb : Vi y.bad i with
 | true => rfl
 | false =>
  have hi : i ∉ zh e.adds := fun hm => by
   rw [JV.2 (hyx.bad i (he.adds i hm))] at hb
   cases hb
  have hmk : (z.makeAll e.adds).lk i = z.lk i := y0m _ _ hi (fun m hm ob hob => (nm m (he.adds m hm)).ob i ob hob)
  simp only [cond_false]
  rw [FS.apply, ym2]
  rcases hyx.vis with hc | ⟨hc, hv⟩ | ⟨hc, hv⟩ | hv | hc
  ·rw [he.cls0 hc]
   simp only [FS.setAll, hmk]
  ·have hro := y1y (he.cls1 hc)
   have hbx := y5G (i := i) e.sets (z.makeAll e.adds) (fun p hp => (hro p hp).2) (fun p hp cs hcs => by
    obtain ⟨ob', hl, hnb⟩ := (hro p hp).1
    have hl' := yhZ x hl
    have hp' : p.1 ∉ zh e.adds := fun hm => by
     rw [(nm _ (he.adds _ hm)).lk] at hl'
     cases hl'
    rw [y0m _ _ hp' (fun m hm ob hob => (nm m (he.adds m hm)).ob p.1 ob hob), hl'] at hcs
    injection hcs with hcs
    exact hnb cs hcs)
   rcases hv with hv | hv
   ·rw [hv]
    rfl
   ·rw [hv]
    unfold ya4 at hbx
    rw [hmk] at hbx
    exact hbx
  ·have hbo := y0G (he.cls3 hc)
   have hrw := y5H (i := i) e.sets (z.makeAll e.adds) (fun p hp => (hbo p hp).2) (fun p hp => by
    obtain ⟨cs, hl⟩ := (hbo p hp).1
    have hl' := yhZ x hl
    have hp' : p.1 ∉ zh e.adds := fun hm => by
     rw [(nm _ (he.adds _ hm)).lk] at hl'
     cases hl'
    rw [y0m _ _ hp' (fun m hm ob hob => (nm m (he.adds m hm)).ob p.1 ob hob), hl']
    rfl)
   rcases hv with hv | hv
   ·rw [hv]
    rfl
   ·rw [hv]
    unfold y8r at hrw
    rw [hmk] at hrw
    exact hrw
  ·rw [hv]
   rfl
  ·have hi2 : i ∉ zh e.sets := fun hm => by
    rw [JV.2 (hyx.fp i (he.cls4 hc i hm))] at hb
    cases hb
   have hs : (((z.makeAll e.adds).setAll e.sets).lk i) = z.lk i := (y2I e.sets _ hi2).trans hmk
   rw [hs]
theorem ygc {l : List Nat} {d : Option Nat} (h : yrR l d = false) : ∀ c ∈ l, d ≠ some c := by
 intro c hc e
 subst e
 simp only [yrR] at h
 rw [JV.2 hc] at h
 cases h
theorem y8s : ∀ {l : List Operand} {c : Nat}, .tmp c ∈ l → c ∈ y23 l
 | x :: l, c, h => by
  rcases List.mem_cons.1 h with h | h
  ·subst h
   simp [y23]
  ·have := y8s h
   cases x <;> simp [y23, this]
theorem y5I {x : Dop} {z : FS} {e : Eff} (he : EffOk x z e) (nm : ∀ i ∈ x.mine, NM z i) {c : Nat} (hc : x.o.dst ≠ some c) : (z.apply x.o.dst e).opd (.tmp c) = z.opd (.tmp c) := by
 have ht : ((z.makeAll e.adds).setAll e.sets).t = z.t := by
  rw [y8q, y8p _ _ (fun i hi => (nm i (he.adds i hi)).t)]
 unfold FS.apply
 cases hd : x.o.dst with
 | none =>
  show ((z.makeAll e.adds).setAll e.sets).t.getD c .dead = _
  rw [ht]
  rfl
 | some d =>
  have hne : d ≠ c := fun h => hc (by rw [hd, h])
  show (((z.makeAll e.adds).setAll e.sets).t.set d e.a).getD c .dead = z.t.getD c .dead
  rw [ht, List.getD_eq_getElem?_getD, List.getElem?_set_ne hne, List.getD_eq_getElem?_getD]
theorem y5J {x : Dop} {t : TS} (hg : ZP ops t.x.o = some t.x.g) (hyx : Loose ops t.x x) {z : FS} {e : Eff} (he : EffOk x z e) (nm : ∀ i ∈ x.mine, NM z i) : ye6 C call t (z.apply x.o.dst e) = ye6 C call t z := by
 have hap := hyx.apart
 unfold y5k at hap
 simp only [Bool.and_eq_true, Bool.not_eq_true'] at hap
 have hask := ygc hap.1.2
 have hguard : ∀ c v, t.x.g = some (c, v) → (z.apply x.o.dst e).opd (.tmp c) = z.opd (.tmp c) := fun c v hgv => by
  refine y5I he nm (hask c ?_)
  rw [hgv] at hg
  simp [yfI, hg]
 have hmet : met (z.apply x.o.dst e) t.x.g = met z t.x.g := by
  cases hgv : t.x.g with
  | none => rfl
  | some p =>
   obtain ⟨c, v⟩ := p
   simp only [met, FS.bool, hguard c v hgv]
 have hunmet : y3Z (z.apply x.o.dst e) t.x.g = y3Z z t.x.g := by
  cases hgv : t.x.g with
  | none => rfl
  | some p =>
   obtain ⟨c, v⟩ := p
   simp only [y3Z, hguard c v hgv]
 cases t with
 | run y =>
  have hops : ∀ u ∈ y.o.op.operands, (z.apply x.o.dst e).opd u = z.opd u := fun u hu => by
   cases u with
   | tmp c =>
    refine y5I he nm (hask c ?_)
    simp only [TS.x, yfI, List.mem_append]
    exact .inr (y8s (by simpa using hu))
   | _ => rfl
  simp only [TS.x] at hmet hyx
  simp only [ye6, hmet, yd0 hyx he nm]
  rw [ycT some hops]
 | skip y =>
  simp only [TS.x] at hunmet
  simp only [ye6, hunmet]
 | pick _ _ _ => rfl
theorem yAm {tx ty : TS} (hgx : ZP ops tx.x.o = some tx.x.g) (hgy : ZP ops ty.x.o = some ty.x.g) (hxy : Loose ops tx.x ty.x) (hyx : Loose ops ty.x tx.x) {z z1 z2 : FS} (nmx : ∀ i ∈ tx.x.mine, NM z i) (nmy : ∀ i ∈ ty.x.mine, NM z i)
  (h1 : kI C call tx z = some z1) (h2 : kI C call ty z1 = some z2) : ∃ z1', kI C call ty z = some z1' ∧ kI C call tx z1' = some z2 := by
 cases hpx : tx.isP with
 | true =>
  rw [y8o hpx hxy.pick] at h1
  cases h1
 | false =>
  cases hpy : ty.isP with
  | true =>
   rw [y8o hpy hyx.pick] at h2
   cases h2
  | false =>
   rw [Qs hpx] at h1
   rw [Qs hpy] at h2
   obtain ⟨ex, hex, rfl⟩ := Option.map_eq_some_iff.1 h1
   obtain ⟨ey, hey, rfl⟩ := Option.map_eq_some_iff.1 h2
   have okx := y6m hex
   rw [y5J hgy hyx okx nmx] at hey
   have oky := y6m hey
   have hex' := y5J (C := C) (call := call) hgx hxy oky nmy
   rw [hex] at hex'
   refine ⟨z.apply ty.x.o.dst ey, by rw [Qs hpy, hey]; rfl, ?_⟩
   rw [Qs hpx, hex', Option.map_some]
   congr 1
   refine (FS.apply_apply ?_ ?_ ?_ ?_).symm
   ·rcases hxy.cls with h | h | ⟨h, h', hd⟩
    ·rw [okx.cls0 h]
     intro i hi
     simp [zh] at hi
    ·rw [oky.cls0 h]
     intro i _ hi
     simp [zh] at hi
    ·exact fun i hi hj => hd i (okx.cls4 h i hi) (oky.cls4 h' i hj)
   ·exact fun i hi => okx.later i (hxy.later i (oky.adds i hi))
   ·exact fun i hi => oky.later i (hyx.later i (okx.adds i hi))
   ·have hap := hxy.apart
    unfold y5k at hap
    simp only [Bool.and_eq_true] at hap
    intro i hi hj
    have := hap.2
    simp [hi, hj, yw] at this
end Go.Proofs.YtgediecndaheiaaGreat.R
