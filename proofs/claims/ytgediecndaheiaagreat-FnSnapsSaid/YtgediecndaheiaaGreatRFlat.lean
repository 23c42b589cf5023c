/- States by what is seen of them; the steps of a region, one by one. No condition. -/
import Derived.Test.YtgediecndaheiaaGreatROpAll
import Derived.Test.YtgediecndaheiaaGreatRDrawn
set_option linter.all false
namespace Go.Proofs.YtgediecndaheiaaGreat.R
open Go.RowKit
variable {P : Program} {C : Ctx} {w0 : World} {lent : Nat → Prop} {H0 : Base} {s : St} {a : Act} {w : World} {G : Gh} {call : C.Sem}
@[ext] structure FS where
 t : List A
 lk : Lk
def St.F (s : St) : FS := ⟨s.t, z4 s.o⟩
def FS.opd (z : FS) : Operand → A
 | .tmp i => z.t.getD i .dead
 | .const v => y68 v
 | .func f => .fn f
 | .global _ => .dead
theorem yg7 (s : St) : s.F.opd = s.opd := funext fun x => by cases x <;> rfl
def FS.forget (z : FS) (i : Nat) : FS := ⟨za i z.t, fun j => if j = i then none else (z.lk j).map (·.forget i)⟩
def FS.make (z : FS) (i : Nat) (x : Ob) : FS := ⟨za i z.t, fun j => if j = i then some x else (z.lk j).map (·.forget i)⟩
def FS.set (z : FS) (i : Nat) (x : Ob) : FS := ⟨z.t, fun j => if j = i then (z.lk j).map (fun _ => x) else z.lk j⟩
def FS.put (z : FS) (d : Option Nat) (a : A) : FS := match d with
 | some d => ⟨z.t.set d a, z.lk⟩
 | none => z
def FS.forgetAll (z : FS) : List Nat → FS
 | [] => z
 | i :: r => (z.forget i).forgetAll r
def FS.makeAll (z : FS) : List (Nat × Ob) → FS
 | [] => z
 | (i, x) :: r => (z.make i x).makeAll r
def FS.setAll (z : FS) : List (Nat × Ob) → FS
 | [] => z
 | (i, x) :: r => (z.set i x).setAll r
def FS.kill (z : FS) : List Nat → FS
 | [] => z
 | d :: r => (z.put (some d) .dead).kill r
def FS.apply (z : FS) (d : Option Nat) (e : Eff) : FS := ((z.makeAll e.adds).setAll e.sets).put d e.a
theorem yg8 (s : St) (i : Nat) : (s.forget i).F = s.F.forget i := FS.ext rfl (funext fun j => kF i j s.o)
theorem ym1 (s : St) (i : Nat) (x : Ob) : (s.make i x).F = s.F.make i x := FS.ext rfl (funext fun j => by
 show z4 ((i, x) :: Yk i s.o) j = if j = i then some x else (z4 s.o j).map (·.forget i)
 by_cases hj : j = i
 ·subst hj
  simp [z4, yw]
 ·simp only [z4, yF (fun e : i = j => hj e.symm), cond_false, kF, hj, if_false])
theorem ysv (s : St) (i : Nat) (x : Ob) : (s.set i x).F = s.F.set i x := FS.ext rfl (funext fun j => by
 show z4 (qW s.o i x) j = if j = i then (z4 s.o j).map (fun _ => x) else z4 s.o j
 rw [wM]
 split
 ·rename_i h
  rw [h]
 ·rfl)
theorem ye0 (s : St) (d : Option Nat) (x : A) : (s.put d x).F = s.F.put d x := by cases d <;> rfl
theorem qH : ∀ (l : List Nat) (s : St), (s.forgetAll l).F = s.F.forgetAll l
 | [], _ => rfl
 | i :: r, s => by rw [St.forgetAll, qH r, yg8, FS.forgetAll]
theorem y8j : ∀ (l : List (Nat × Ob)) (s : St), (s.makeAll l).F = s.F.makeAll l
 | [], _ => rfl
 | (i, x) :: r, s => by rw [St.makeAll, y8j r, ym1, FS.makeAll]
theorem ybr : ∀ (l : List (Nat × Ob)) (s : St), (s.setAll l).F = s.F.setAll l
 | [], _ => rfl
 | (i, x) :: r, s => by rw [St.setAll, ybr r, ysv, FS.setAll]
theorem ye1 : ∀ (l : List Nat) (s : St), (Y0 s l).F = s.F.kill l
 | [], _ => rfl
 | d :: r, s => by rw [Y0, ye1 r, ye0, FS.kill]
theorem ya0 (s : St) (d : Option Nat) (e : Eff) : (s.apply d e).F = s.F.apply d e := by
 rw [St.apply, ye0, ybr, y8j, FS.apply]
def FS.bool (z : FS) (x : Operand) : Option Bool := match z.opd x with
 | .val .bool b => some b
 | _ => none
theorem y3Y (s : St) (x : Operand) : s.F.bool x = z6 s x := by rw [FS.bool, yg7]; rfl
def met (z : FS) : Option (Nat × Bool) → Bool
 | none => true
 | some (c, v) => z.bool (.tmp c) == some v
def y3Z (z : FS) : Option (Nat × Bool) → Bool
 | none => false
 | some (c, v) => match z.opd (.tmp c) with
  | .val .bool b => (show Bool from b) != v
  | .und => true
  | _ => false
inductive TS where
 | run (x : Dop)
 | skip (x : Dop)
 | pick (x : Dop) (M D : List Nat)
def TS.x : TS → Dop
 | .run x => x
 | .skip x => x
 | .pick x _ _ => x
def TS.kills : TS → List Nat
 | .pick _ _ D => D
 | _ => []
section
variable (C : Ctx) (call : C.Sem)
def kI : TS → FS → Option FS
 | .run x, z => if met z x.g then (jG C call (Nat.beq x.hn 2) (Nat.beq x.hn 3) x.o z.opd (x.see z.lk) some).bind fun e => if x.ok (x.see z.lk) e then some (z.apply x.o.dst e) else none else none
 | .skip x, z => if y3Z z x.g then some (z.put x.o.dst .und) else none
 | .pick x M D, z => if met z x.g then match x.o.op with
  | .pick c a b => (z.bool c).bind fun v => (z.bool (if v then a else b)).bind fun u => some (((z.forgetAll M).kill D).put x.o.dst (.val .bool u))
  | _ => none
  else none
def wo : List TS → FS → Option FS
 | [], z => some z
 | t :: T, z => (kI C call t z).bind (wo T)
end
theorem y1v : ∀ (T T' : List TS) (z : FS), wo C call (T ++ T') z = (wo C call T z).bind (wo C call T')
 | [], T', z => rfl
 | t :: T, T', z => by
  simp only [List.cons_append, wo]
  cases kI C call t z with
  | none => rfl
  | some z1 => exact y1v T T' z1
end Go.Proofs.YtgediecndaheiaaGreat.R
