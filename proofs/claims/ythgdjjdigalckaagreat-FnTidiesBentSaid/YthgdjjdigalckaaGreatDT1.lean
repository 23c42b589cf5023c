/- What functions compute, and that they do; part 1 of T; by a program (dec.py). No condition. -/
import Derived.Test.YthgdjjdigalckaaGreatDT0
set_option linter.all false
namespace Go.Proofs.YthgdjjdigalckaaGreat.XT
open Go.Proofs.YthgdjjdigalckaaGreat.R
set_option maxRecDepth 100000
noncomputable section
variable {R : Type}
abbrev K8 : Type := yme
def jc (k0 : ysP → Option R) (k1 : ybB → Option R) (again : K8 → Option R) (t4 : K8) : Option R :=
 bif (decide (t4.2.2.1 < t4.2.1)) then if (0 : Int) ≤ t4.2.2.1 then if t4.2.2.1 < (List.length t4.2.2.2.2.2.2.2.2.2.2 : Int) then Option.bind (ZI (t4.2.2.2.2.2.1, (y8 t4.2.2.2.2.2.2.2.2.2.2 t4.2.2.1).2.1)) fun r2 => bif (decide (r2 < (0 : Int))) then k0 (false, t4.1, t4.2.2.2.1, t4.2.2.2.2.1, t4.2.2.2.2.2.1, t4.2.2.2.2.2.2.1, t4.2.2.2.2.2.2.2.1, t4.2.2.2.2.2.2.2.2.1) else bif ((y8 t4.2.2.2.2.2.2.2.2.2.2 t4.2.2.1).2.2.1 != (1 : Int)) then again (t4.1, t4.2.1, (Go.IntKind.wrap .i64 (t4.2.2.1 + (1 : Int))), t4.2.2.2.1, t4.2.2.2.2.1, t4.2.2.2.2.2.1, t4.2.2.2.2.2.2.1, t4.2.2.2.2.2.2.2.1, t4.2.2.2.2.2.2.2.2.1, t4.2.2.2.2.2.2.2.2.2.1, t4.2.2.2.2.2.2.2.2.2.2) else Option.bind (WD (t4.2.2.2.2.2.2.1, (y8 t4.2.2.2.2.2.2.2.2.2.2 t4.2.2.1).2.2.2.1, (y8 t4.2.2.2.2.2.2.2.2.2.2 t4.2.2.1).2.2.2.2)) fun r3 => Option.bind (bif (!r3.2) then some true else if (0 : Int) ≤ (y8 t4.2.2.2.2.2.2.2.2.2.2 t4.2.2.1).2.2.2.1 then if (y8 t4.2.2.2.2.2.2.2.2.2.2 t4.2.2.1).2.2.2.1 < (List.length t4.2.2.2.2.2.2.2.2.2.1 : Int) then some (ycz t4.2.2.2.2.2.2.2.2.2.1 ((y8 t4.2.2.2.2.2.2.2.2.2.2 t4.2.2.1).2.2.2.1)) else none else none) fun u4 => bif u4 then k0 (false, t4.1, t4.2.2.2.1, t4.2.2.2.2.1, t4.2.2.2.2.2.1, t4.2.2.2.2.2.2.1, t4.2.2.2.2.2.2.2.1, t4.2.2.2.2.2.2.2.2.1) else if (0 : Int) ≤ (y8 t4.2.2.2.2.2.2.2.2.2.2 t4.2.2.1).2.2.2.1 then if (y8 t4.2.2.2.2.2.2.2.2.2.2 t4.2.2.1).2.2.2.1 < (List.length t4.2.2.2.2.2.2.2.2.2.1 : Int) then again ((Go.IntKind.wrap .i64 (t4.1 + (1 : Int))), t4.2.1, (Go.IntKind.wrap .i64 (t4.2.2.1 + (1 : Int))), t4.2.2.2.1, t4.2.2.2.2.1, t4.2.2.2.2.2.1, t4.2.2.2.2.2.2.1, t4.2.2.2.2.2.2.2.1, t4.2.2.2.2.2.2.2.2.1, (List.set t4.2.2.2.2.2.2.2.2.2.1 (Int.toNat ((y8 t4.2.2.2.2.2.2.2.2.2.2 t4.2.2.1).2.2.2.1)) true), t4.2.2.2.2.2.2.2.2.2.2) else none else none else none else none else k1 (t4.1, t4.2.2.2.1, t4.2.2.2.2.1, t4.2.2.2.2.2.1, t4.2.2.2.2.2.2.1, t4.2.2.2.2.2.2.2.1, t4.2.2.2.2.2.2.2.2.1)
def qp k0 k1 := zE (@jc R k0 k1) zW
def JT (x : Qz9) : Option Bool :=
 if (0 : Int) ≤ (24 : Int) then if (24 : Int) ≤ (24 : Int) then if (24 : Int) * ((1 : Nat) : Int) ≤ 140737488351232 then Option.bind (Yd (x.1, x.2.1)) fun r1 => qp (fun x5 => some x5.1) (fun x6 => Option.bind (jb x6.2.2.2.2.1) fun r7 => some (r7 == x6.1)) ((0 : Int), (List.length r1 : Int), (0 : Int), x.1, x.2.1, x.2.2.1, x.2.2.2.1, x.2.2.2.2.1, x.2.2.2.2.2, (List.replicate (Int.toNat (24 : Int)) ycy), r1) else none else none else none
def yjZ : List QF := [q28, q29, yw1, yBj]
def y6A (t : yme) : St := ⟨.dead :: .box 1 0 :: .dead :: .own 10000000 :: vI t.1 :: dd 7 (.own 10000001 :: vI t.2.1 :: vI t.2.2.1 :: dd 43 []), [(1, .box [z7 t.2.2.2.1, yu t.2.2.2.2.1, zk t.2.2.2.2.2.1, yN t.2.2.2.2.2.2.1, Y3 t.2.2.2.2.2.2.2.1, vI t.2.2.2.2.2.2.2.2.1]), (10000000, .root true 4 y3j t.2.2.2.2.2.2.2.2.2.1), (10000001, .root true 64 yk t.2.2.2.2.2.2.2.2.2.2)]⟩
def yhq : Gk K8 := fun κ => jc (fun t => κ none ⟨.dead :: .box 1 0 :: vB t.1 :: .dead :: vI t.2.1 :: dd 53 [], [(1, .box [z7 t.2.2.1, yu t.2.2.2.1, zk t.2.2.2.2.1, yN t.2.2.2.2.2.1, Y3 t.2.2.2.2.2.2.1, vI t.2.2.2.2.2.2.2])]⟩) (fun t => κ (some 0) ⟨.dead :: .box 1 0 :: dd 2 (vI t.1 :: dd 53 []), [(1, .box [z7 t.2.1, yu t.2.2.1, zk t.2.2.2.1, yN t.2.2.2.2.1, Y3 t.2.2.2.2.2.1, vI t.2.2.2.2.2.2])]⟩)
def yk0 : Lp := lpC 4 (unG ymf y6A) @yhq lpN
theorem yre : LF yjZ yk0 132 4 Tryz.f132 0 y6A @yhq fun t => t := fun R κ again t => by kernel_rfl
theorem yrf : LK yjZ yk0 132 Tryz.f132 0 := lkN (u := (unG ymf y6A)) (yr fun t => by kernel_rfl) yre
theorem ywj : EV yjZ yk0 132 Tryz.f132 yoF qz9 [.bool] JT := fun x => by kernel_rfl
def yBk : QF := ⟨132, JT, okN (n := 1) Tryz.func132 ⟨yrf, trivial⟩ ywj⟩
abbrev vf : Type := ymg
def J2 (k0 : yi1 → Option R) (k1 : Qz9 → Option R) (again : vf → Option R) (t4 : vf) : Option R :=
 bif (decide (t4.2.2.1 < t4.2.1)) then if (0 : Int) ≤ t4.2.2.1 then if t4.2.2.1 < (List.length t4.1 : Int) then bif (decide ((yK t4.1 t4.2.2.1).1 ≥ t4.2.2.2.2.2.2.2.2)) then k0 (false, t4.2.2.2) else again (t4.1, t4.2.1, (Go.IntKind.wrap .i64 (t4.2.2.1 + (1 : Int))), t4.2.2.2.1, t4.2.2.2.2.1, t4.2.2.2.2.2.1, t4.2.2.2.2.2.2.1, t4.2.2.2.2.2.2.2.1, t4.2.2.2.2.2.2.2.2) else none else none else k1 t4.2.2.2
def Qi k0 k1 := zE (@J2 R k0 k1) zW
def Yc (x : Qz9) : Option Bool :=
 Option.bind (Yb (x.1, x.2.1)) fun r1 => Option.bind (bif (!r1) then some true else Option.bind (Wx x.2.2.1) fun r3 => some (!r3)) fun u2 => Option.bind (bif u2 then some true else Option.bind (Ze x.2.2.2.1) fun r5 => some (!r5)) fun u4 => Option.bind (bif u4 then some true else Option.bind (yF (x.2.2.2.2.2, (1 : Int), (61 : Int))) fun r7 => some (!r7)) fun u6 => bif u6 then some false else Qi (fun x8 => some x8.1) (fun x9 => Option.bind (WB x9) fun r10 => Option.bind (bif r10 then Option.bind (JT x9) fun r12 => some r12 else some false) fun u11 => some u11) (x.2.2.1, (List.length x.2.2.1 : Int), (0 : Int), x.1, x.2.1, x.2.2.1, x.2.2.2.1, x.2.2.2.2.1, x.2.2.2.2.2)
def ywk : List QF := [q92, yzr, yBc, yw5, yBg, yBk]
def y9r (t : ymg) : St := ⟨.dead :: .box 1 0 :: dd 26 (zk t.1 :: vI t.2.1 :: vI t.2.2.1 :: dd 15 []), [(1, .box [z7 t.2.2.2.1, yu t.2.2.2.2.1, zk t.2.2.2.2.2.1, yN t.2.2.2.2.2.2.1, Y3 t.2.2.2.2.2.2.2.1, vI t.2.2.2.2.2.2.2.2])]⟩
def yrg : Gk vf := fun κ => J2 (fun t => κ none ⟨.dead :: .box 1 0 :: vB t.1 :: dd 43 [], [(1, .box [z7 t.2.1, yu t.2.2.1, zk t.2.2.2.1, yN t.2.2.2.2.1, Y3 t.2.2.2.2.2.1, vI t.2.2.2.2.2.2])]⟩) (fun t => κ (some 0) ⟨.dead :: .box 1 0 :: dd 44 [], [(1, .box [z7 t.1, yu t.2.1, zk t.2.2.1, yN t.2.2.2.1, Y3 t.2.2.2.2.1, vI t.2.2.2.2.2])]⟩)
def ywl : Lp := lpC 4 (unG ymh y9r) @yrg lpN
theorem ywm : LF ywk ywl 30 4 Tryz.f30 0 y9r @yrg fun t => t := fun R κ again t => by kernel_rfl
theorem ywn : LK ywk ywl 30 Tryz.f30 0 := lkN (u := (unG ymh y9r)) (yr fun t => by kernel_rfl) ywm
theorem yBl : EV ywk ywl 30 Tryz.f30 yyK qz9 [.bool] Yc := fun x => by kernel_rfl
def q30 : QF := ⟨30, Yc, okN (n := 1) Tryz.func30 ⟨ywn, trivial⟩ yBl⟩
def Zt (x : List yf) : Option (List yf) :=
 if (List.length ([] : List yf) + List.length x) * 8 < 140737488355328 then some (([] : List yf) ++ x) else none
theorem ywo : EV [] lpN 297 Tryz.f297 yoG [(.sl 3 yi)] [(.sl 3 yi)] Zt := fun x => by kernel_rfl
def yzt : QF := ⟨297, Zt, okN (n := 0) Tryz.func297 trivial ywo⟩
abbrev kf : Type := ykM ⊕ ycE
def Y5 (k0 : Unit → Option R) (k1 : List yb → Option R) (again : kf → Option R) : kf → Option R
 | .inl t3 => bif (decide (t3.2.2 < t3.2.1)) then if (0 : Int) ≤ t3.2.2 then if t3.2.2 < (List.length t3.1 : Int) then Option.bind (zU (yp t3.1 t3.2.2)) fun r1 => if List.length ([r1] : List yb) * 24 < 140737488355328 then again (Sum.inr (t3.1, t3.2.1, (Go.IntKind.wrap .i64 (t3.2.2 + (1 : Int))), ([r1] : List yb))) else none else none else none else k0 ()
 | .inr t3 => bif (decide (t3.2.2.1 < t3.2.1)) then if (0 : Int) ≤ t3.2.2.1 then if t3.2.2.1 < (List.length t3.1 : Int) then Option.bind (zU (yp t3.1 t3.2.2.1)) fun r2 => if (List.length t3.2.2.2 + List.length ([r2] : List yb)) * 24 < 140737488355328 then again (Sum.inr (t3.1, t3.2.1, (Go.IntKind.wrap .i64 (t3.2.2.1 + (1 : Int))), (t3.2.2.2 ++ ([r2] : List yb)))) else none else none else none else k1 t3.2.2.2
def Vn k0 k1 := zE (@Y5 R k0 k1) zW
def zt (x : List yb) : Option (List yb) :=
 Vn (fun x3 => some ([] : List yb)) (fun x4 => some x4) (Sum.inl (x, (List.length x : Int), (0 : Int)))
def yd8 : List QF := [yvO]
def y2v (t : ykM) : St := ⟨dd 2 (.box 2 0 :: .box 3 0 :: dd 4 (Yj t.1 :: vI t.2.1 :: vI t.2.2 :: dd 12 [])), [(2, .box [.nils]), (3, .box [.nils])]⟩
theorem yf2 : ∀ s t, unG yt0 y2v s = some t → y2v t = s := yr fun t => by kernel_rfl
def y2w (t : ycE) : St := ⟨dd 2 (.box 2 0 :: .box 3 0 :: dd 4 (Yj t.1 :: vI t.2.1 :: vI t.2.2.1 :: dd 12 [])), [(2, .box [.nils]), (3, .box [.own 10000000]), (10000000, .root true 58 yn t.2.2.2)]⟩
theorem yf3 : ∀ s t, unG ymi y2w s = some t → y2w t = s := yr fun t => by kernel_rfl
def y2x : (ykM ⊕ ycE) → St := Sum.elim y2v y2w
def y6B (s : St) : Option (ykM ⊕ ycE) := ((unG yt0 y2v s).map Sum.inl).or (((unG ymi y2w) s).map Sum.inr)
theorem yf4 : ∀ s t, y6B s = some t → y2x t = s := y3h yf2 yf3
def yaz : Gk kf := fun κ => Y5 (fun t => κ (some 0) ⟨dd 2 (.box 2 0 :: .box 3 0 :: dd 19 []), [(2, .box [.nils]), (3, .box [.nils])]⟩) (fun t => κ (some 0) ⟨dd 2 (.box 2 0 :: .box 3 0 :: dd 19 []), [(2, .box [.nils]), (3, .box [.own 10000000]), (10000000, .root true 58 yn t)]⟩)
def yd9 : Lp := lpC 3 y6B @yaz lpN
theorem yf5 : LF yd8 yd9 298 3 Tryz.f298 0 y2x @yaz fun v : ykM => .inl v := fun R κ again v => by kernel_rfl
theorem yf6 : LF yd8 yd9 298 3 Tryz.f298 0 y2x @yaz fun v : ycE => .inr v := fun R κ again v => by kernel_rfl
theorem yrh : LF yd8 yd9 298 3 Tryz.f298 0 y2x @yaz fun t => t := (LC.sum yf5 yf6)
theorem yri : LK yd8 yd9 298 Tryz.f298 0 := lkN (u := y6B) yf4 yrh
theorem ywp : EV yd8 yd9 298 Tryz.f298 yoH [(.sl 58 yn)] [(.sl 58 yn)] zt := fun x => by kernel_rfl
def yzu : QF := ⟨298, zt, okN (n := 1) Tryz.func298 ⟨yri, trivial⟩ ywp⟩
abbrev kg : Type := ycF ⊕ ycG
def Y6 (k0 : List yf → Option R) (k1 : Qz8 → Option R) (again : kg → Option R) : kg → Option R
 | .inl t3 => bif (decide (t3.2.2.1 < t3.2.1)) then if (0 : Int) ≤ t3.2.2.1 then if t3.2.2.1 < (List.length t3.1 : Int) then Option.bind (zt (yg t3.1 t3.2.2.1)) fun r2 => if List.length ([r2] : List y0) * 24 < 140737488355328 then again (Sum.inr (t3.1, t3.2.1, (Go.IntKind.wrap .i64 (t3.2.2.1 + (1 : Int))), t3.2.2.2, ([r2] : List y0))) else none else none else none else k0 t3.2.2.2
 | .inr t3 => bif (decide (t3.2.2.1 < t3.2.1)) then if (0 : Int) ≤ t3.2.2.1 then if t3.2.2.1 < (List.length t3.1 : Int) then Option.bind (zt (yg t3.1 t3.2.2.1)) fun r3 => if (List.length t3.2.2.2.2 + List.length ([r3] : List y0)) * 24 < 140737488355328 then again (Sum.inr (t3.1, t3.2.1, (Go.IntKind.wrap .i64 (t3.2.2.1 + (1 : Int))), t3.2.2.2.1, (t3.2.2.2.2 ++ ([r3] : List y0)))) else none else none else none else k1 t3.2.2.2
def Vo k0 k1 := zE (@Y6 R k0 k1) zW
def zn (x : Qz8) : Option Qz8 :=
 Option.bind (Zt x.1) fun r1 => Vo (fun x4 => some (x4, ([] : List y0))) (fun x5 => some x5) (Sum.inl (x.2, (List.length x.2 : Int), (0 : Int), r1))
def yda : List QF := [yzt, yzu]
def y2y (t : ycF) : St := ⟨dd 2 (.box 2 0 :: .box 3 0 :: dd 7 (yu t.1 :: vI t.2.1 :: vI t.2.2.1 :: dd 12 [])), [(2, .box [.nils, .nils]), (3, .box [.own 10000000, .nils]), (10000000, .root true 3 yi t.2.2.2)]⟩
theorem yf7 : ∀ s t, unG ymj y2y s = some t → y2y t = s := yr fun t => by kernel_rfl
def y2z (t : ycG) : St := ⟨dd 2 (.box 2 0 :: .box 3 0 :: dd 7 (yu t.1 :: vI t.2.1 :: vI t.2.2.1 :: dd 12 [])), [(2, .box [.nils, .nils]), (3, .box [.own 10000000, .own 10000001]), (10000000, .root true 3 yi t.2.2.2.1), (10000001, .root true 140 yh t.2.2.2.2)]⟩
theorem yf8 : ∀ s t, unG ymk y2z s = some t → y2z t = s := yr fun t => by kernel_rfl
def y2A : (ycF ⊕ ycG) → St := Sum.elim y2y y2z
def y6C (s : St) : Option (ycF ⊕ ycG) := ((unG ymj y2y s).map Sum.inl).or (((unG ymk y2z) s).map Sum.inr)
theorem yf9 : ∀ s t, y6C s = some t → y2A t = s := y3h yf7 yf8
def yaA : Gk kg := fun κ => Y6 (fun t => κ (some 0) ⟨dd 2 (.box 2 0 :: .box 3 0 :: dd 22 []), [(2, .box [.nils, .nils]), (3, .box [.own 10000000, .nils]), (10000000, .root true 3 yi t)]⟩) (fun t => κ (some 0) ⟨dd 2 (.box 2 0 :: .box 3 0 :: dd 22 []), [(2, .box [.nils, .nils]), (3, .box [.own 10000000, .own 10000001]), (10000000, .root true 3 yi t.1), (10000001, .root true 140 yh t.2)]⟩)
def ydb : Lp := lpC 3 y6C @yaA lpN
theorem yfa : LF yda ydb 206 3 Tryz.f206 0 y2A @yaA fun v : ycF => .inl v := fun R κ again v => by kernel_rfl
theorem yfb : LF yda ydb 206 3 Tryz.f206 0 y2A @yaA fun v : ycG => .inr v := fun R κ again v => by kernel_rfl
theorem yrj : LF yda ydb 206 3 Tryz.f206 0 y2A @yaA fun t => t := (LC.sum yfa yfb)
theorem yrk : LK yda ydb 206 Tryz.f206 0 := lkN (u := y6C) yf9 yrj
theorem ywq : EV yda ydb 206 Tryz.f206 yoI qz8 qz8 zn := fun x => by kernel_rfl
def ywr : QF := ⟨206, zn, okN (n := 1) Tryz.func206 ⟨yrk, trivial⟩ ywq⟩
def WE (x : List yd) : Option (List yd) :=
 if (List.length ([] : List yd) + List.length x) * 16 < 140737488355328 then some (([] : List yd) ++ x) else none
theorem yws : EV [] lpN 207 Tryz.f207 yoJ [(.sl 146 yo)] [(.sl 146 yo)] WE := fun x => by kernel_rfl
def yBm : QF := ⟨207, WE, okN (n := 0) Tryz.func207 trivial yws⟩
def zv (x : List y9) : Option (List y9) :=
 if (List.length ([] : List y9) + List.length x) * 24 < 140737488355328 then some (([] : List y9) ++ x) else none
theorem ywt : EV [] lpN 208 Tryz.f208 yoK [(.sl 113 ye)] [(.sl 113 ye)] zv := fun x => by kernel_rfl
def ywu : QF := ⟨208, zv, okN (n := 0) Tryz.func208 trivial ywt⟩
def yY (x : Qz9) : Option Qz9 :=
 Option.bind (zn (x.1, x.2.1)) fun r1 => Option.bind (WE x.2.2.1) fun r2 => Option.bind (zv x.2.2.2.1) fun r3 => if (List.length ([] : List ym) + List.length x.2.2.2.2.1) * 40 < 140737488355328 then some (r1.1, r1.2, r2, r3, (([] : List ym) ++ x.2.2.2.2.1), x.2.2.2.2.2) else none
theorem yBn : EV [ywr, yBm, ywu] lpN 91 Tryz.f91 yyL qz9 qz9 yY := fun x => by kernel_rfl
def q91 : QF := ⟨91, yY, okN (n := 0) Tryz.func91 trivial yBn⟩
def zh (x : List ya) : Option (List yb) :=
 bif ((List.length x : Int) == (0 : Int)) then some ([] : List yb) else Option.bind (zU x) fun r1 => some ([r1] : List yb)
theorem ywv : EV [yvO] lpN 224 Tryz.f224 yoL [(.sl 64 yk)] [(.sl 58 yn)] zh := fun x => by kernel_rfl
def ysq : QF := ⟨224, zh, okN (n := 0) Tryz.func224 trivial ywv⟩
def WF (x : List yb) : Option (List yb) :=
 Option.bind (yH x) fun r1 => Option.bind (zh r1) fun r2 => some r2
theorem yww : EV [ykR, ysq] lpN 209 Tryz.f209 yoM [(.sl 58 yn)] [(.sl 58 yn)] WF := fun x => by kernel_rfl
def yBo : QF := ⟨209, WF, okN (n := 0) Tryz.func209 trivial yww⟩
def J3 (x : ylc) : Option Qz8 :=
 Option.bind (zn (x.1, x.2.1)) fun r1 => Option.bind (yF (x.2.2, (0 : Int), (Go.IntKind.wrap .i64 ((List.length x.2.1 : Int) - (1 : Int))))) fun r2 => bif r2 then if (0 : Int) ≤ x.2.2 then if x.2.2 < (List.length x.2.1 : Int) then Option.bind (WF (yg x.2.1 x.2.2)) fun r3 => if (0 : Int) ≤ x.2.2 then if x.2.2 < (List.length r1.2 : Int) then some (r1.1, (List.set r1.2 (Int.toNat x.2.2) r3)) else none else none else none else none else some r1
theorem yBp : EV [q92, ywr, yBo] lpN 93 Tryz.f93 yyM yld qz8 J3 := fun x => by kernel_rfl
def q93 : QF := ⟨93, J3, okN (n := 0) Tryz.func93 trivial yBp⟩
def J4 (x : y7c) : Option ykN :=
 Option.bind (yY (x.1, x.2.1, x.2.2.1, x.2.2.2.1, x.2.2.2.2.1, x.2.2.2.2.2.1)) fun r1 => Option.bind (Yc (x.1, x.2.1, x.2.2.1, x.2.2.2.1, x.2.2.2.2.1, x.2.2.2.2.2.1)) fun r2 => Option.bind (bif (!r2) then some true else Option.bind (yF (x.2.2.2.2.2.2, (0 : Int), (Go.IntKind.wrap .i64 ((List.length x.2.1 : Int) - (1 : Int))))) fun r4 => some (!r4)) fun u3 => bif u3 then some (r1.1, r1.2.1, r1.2.2.1, r1.2.2.2.1, r1.2.2.2.2.1, r1.2.2.2.2.2, false) else Option.bind (J3 (x.1, x.2.1, x.2.2.2.2.2.2)) fun r5 => some (r5.1, r5.2, r1.2.2.1, r1.2.2.2.1, r1.2.2.2.2.1, r1.2.2.2.2.2, true)
theorem yBq : EV [q30, q91, q92, q93] lpN 11 Tryz.f11 yyN y7d ykO J4 := fun x => by kernel_rfl
def q11 : QF := ⟨11, J4, okN (n := 0) Tryz.func11 trivial yBq⟩
def YE (x : List vu) : Option y7c :=
 Option.bind (jn x) fun r1 => Option.bind (yt (r1.1, r1.2.1, r1.2.2.1, ([(0 : Int), (1 : Int), (2 : Int), (3 : Int), (4 : Int), (5 : Int), (-1 : Int), (24 : Int)] : List yf))) fun r2 => some (r1.2.2.2.1, r1.2.2.2.2.1, r1.2.2.2.2.2.1, r1.2.2.2.2.2.2.1, r1.2.2.2.2.2.2.2.1, r1.2.2.2.2.2.2.2.2, r2.1)
theorem yBr : EV [q89, q90] lpN 13 Tryz.f13 yyO [(.sl 5 Ym)] y7d YE := fun x => by kernel_rfl
def q13 : QF := ⟨13, YE, okN (n := 0) Tryz.func13 trivial yBr⟩
abbrev vg : Type := ykJ
def J5 (k0 : Int → Option R) (k1 : Unit → Option R) (again : vg → Option R) (t2 : vg) : Option R :=
 bif (decide (t2.2.2 < t2.2.1)) then if (0 : Int) ≤ t2.2.2 then if t2.2.2 < (List.length t2.1 : Int) then bif (!((yj t2.1 t2.2.2).2.1)) then k0 t2.2.2 else again (t2.1, t2.2.1, (Go.IntKind.wrap .i64 (t2.2.2 + (1 : Int)))) else none else none else k1 ()
def Qj k0 k1 := zE (@J5 R k0 k1) zW
def Jw (x : List y9) : Option Int :=
 Qj (fun x1 => some x1) (fun x2 => some (-1 : Int)) (x, (List.length x : Int), (0 : Int))
def ywx : List QF := []
def y9s (t : ykJ) : St := ⟨dd 5 (yN t.1 :: vI t.2.1 :: vI t.2.2 :: dd 9 []), []⟩
def yrl : Gk vg := fun κ => J5 (fun t => κ none ⟨dd 2 (vI t :: dd 14 []), []⟩) (fun t => κ (some 0) ⟨dd 17 [], []⟩)
def ywy : Lp := lpC 2 (unG ykK y9s) @yrl lpN
theorem ywz : LF ywx ywy 98 2 Tryz.f98 0 y9s @yrl fun t => t := fun R κ again t => by kernel_rfl
theorem ywA : LK ywx ywy 98 Tryz.f98 0 := lkN (u := (unG ykK y9s)) (yr fun t => by kernel_rfl) ywz
theorem yBs : EV ywx ywy 98 Tryz.f98 yyP [(.sl 113 ye)] [(.int .i64)] Jw := fun x => by kernel_rfl
def q98 : QF := ⟨98, Jw, okN (n := 1) Tryz.func98 ⟨ywA, trivial⟩ yBs⟩
def J6 (x : ygq) : Option yxR :=
 Option.bind (zv x.1) fun r1 => Option.bind (Jw x.1) fun r2 => Option.bind (bif (decide (r2 < (0 : Int))) then some true else Option.bind (Jv x.2) fun r4 => some (!r4)) fun u3 => Option.bind (bif u3 then some true else Option.bind (Ze x.1) fun r6 => some (!r6)) fun u5 => bif u5 then some (r1, (0 : Int), false) else if (0 : Int) ≤ r2 then if r2 < (List.length r1 : Int) then if (0 : Int) ≤ r2 then if r2 < ((List.length (List.set r1 (Int.toNat r2) ((yj r1 r2).1, true, (yj r1 r2).2.2)) : Nat) : Int) then some ((List.set (List.set r1 (Int.toNat r2) ((yj r1 r2).1, true, (yj r1 r2).2.2)) (Int.toNat r2) ((yj (List.set r1 (Int.toNat r2) ((yj r1 r2).1, true, (yj r1 r2).2.2)) r2).1, (yj (List.set r1 (Int.toNat r2) ((yj r1 r2).1, true, (yj r1 r2).2.2)) r2).2.1, x.2)), r2, true) else none else none else none else none
theorem yBt : EV [q98, yzs, yw5, ywu] lpN 99 Tryz.f99 yyQ ygr yxS J6 := fun x => by kernel_rfl
def q99 : QF := ⟨99, J6, okN (n := 0) Tryz.func99 trivial yBt⟩
abbrev wl : Type := yml
def wm (k0 : Int → Option R) (k1 : Unit → Option R) (again : wl → Option R) (t2 : wl) : Option R :=
 bif (decide (t2.2.2.1 ≥ (0 : Int))) then if (0 : Int) ≤ t2.2.2.1 then if t2.2.2.1 < (List.length t2.2.2.2.1 : Int) then Option.bind (YZ (t2.1, t2.2.1)) fun r1 => bif (decide ((zC t2.2.2.2.1 t2.2.2.1) ≤ r1)) then k0 t2.2.2.1 else again (t2.1, t2.2.1, (Go.IntKind.wrap .i64 (t2.2.2.1 - (1 : Int))), t2.2.2.2.1, t2.2.2.2.2) else none else none else k1 ()
def qq k0 k1 := zE (@wm R k0 k1) zW
def JU (x : ysV) : Option Int :=
 qq (fun x2 => some x2) (fun x3 => some (-1 : Int)) (x.2.2.1, x.2.2.2, (Go.IntKind.wrap .i64 ((List.length x.1 : Int) - (1 : Int))), x.1, x.2.1)
def yk1 : List QF := [yvW]
def y6D (t : yml) : St := ⟨.dead :: vI t.1 :: vI t.2.1 :: .box 3 0 :: dd 3 (vI t.2.2.1 :: dd 18 []), [(3, .box [z7 t.2.2.2.1, yu t.2.2.2.2])]⟩
def yhr : Gk wl := fun κ => wm (fun t => κ none ⟨dd 6 (vI t :: dd 19 []), []⟩) (fun t => κ (some 0) ⟨dd 26 [], []⟩)
def yk2 : Lp := lpC 2 (unG ymm y6D) @yhr lpN
theorem yrm : LF yk1 yk2 219 2 Tryz.f219 0 y6D @yhr fun t => t := fun R κ again t => by kernel_rfl
theorem yrn : LK yk1 yk2 219 Tryz.f219 0 := lkN (u := (unG ymm y6D)) (yr fun t => by kernel_rfl) yrm
theorem ywB : EV yk1 yk2 219 Tryz.f219 yoN ysW [(.int .i64)] JU := fun x => by kernel_rfl
def yBu : QF := ⟨219, JU, okN (n := 1) Tryz.func219 ⟨yrn, trivial⟩ ywB⟩
def zJ (x : ysY) : Option (List ya) :=
 Option.bind (yH x.1) fun r1 => Option.bind (ZR (r1, x.2)) fun r2 => Option.bind (jV r2) fun r3 => some r3
theorem ywC : EV [ykR, yzo, yvM] lpN 221 Tryz.f221 yoO ysZ [(.sl 64 yk)] zJ := fun x => by kernel_rfl
def yzv : QF := ⟨221, zJ, okN (n := 0) Tryz.func221 trivial ywC⟩
abbrev vZ : Type := ymn
def JV (k0 : ysX → Option R) (k1 : yes → Option R) (again : vZ → Option R) (t2 : vZ) : Option R :=
 bif (decide (t2.2.2.2.2.1 < t2.2.2.2.1)) then if (0 : Int) ≤ t2.2.2.2.2.1 then if t2.2.2.2.2.1 < (List.length t2.2.2.1 : Int) then Option.bind (bif ((y8 t2.2.2.1 t2.2.2.2.2.1).1 == t2.1) then some ((y8 t2.2.2.1 t2.2.2.2.2.1).2.1 == t2.2.1) else some false) fun u1 => bif u1 then k0 (true, (y8 t2.2.2.1 t2.2.2.2.2.1).1, (y8 t2.2.2.1 t2.2.2.2.2.1).2.1, (y8 t2.2.2.1 t2.2.2.2.2.1).2.2.1, (y8 t2.2.2.1 t2.2.2.2.2.1).2.2.2.1, (y8 t2.2.2.1 t2.2.2.2.2.1).2.2.2.2) else again (t2.1, t2.2.1, t2.2.2.1, t2.2.2.2.1, (Go.IntKind.wrap .i64 (t2.2.2.2.2.1 + (1 : Int))), t2.2.2.2.2.2.1, t2.2.2.2.2.2.2.1, t2.2.2.2.2.2.2.2.1, t2.2.2.2.2.2.2.2.2.1, t2.2.2.2.2.2.2.2.2.2) else none else none else k1 t2.2.2.2.2.2
def y02 k0 k1 := zE (@JV R k0 k1) zW
def kW (x : yxX) : Option yi3 :=
 y02 (fun x2 => some (x2.2.1, x2.2.2.1, x2.2.2.2.1, x2.2.2.2.2.1, x2.2.2.2.2.2, x2.1)) (fun x3 => some ((0 : Int), (0 : Int), (0 : Int), (0 : Int), (0 : Int), false)) (x.2.1, x.2.2, x.1, (List.length x.1 : Int), (0 : Int), (0 : Int), (0 : Int), (0 : Int), (0 : Int), (0 : Int))
def yk3 : List QF := []
def y6E (t : ymn) : St := ⟨.dead :: vI t.1 :: vI t.2.1 :: dd 3 (.box 6 0 :: dd 3 (VN t.2.2.1 :: vI t.2.2.2.1 :: vI t.2.2.2.2.1 :: dd 16 [])), [(6, .box [vI t.2.2.2.2.2.1, vI t.2.2.2.2.2.2.1, vI t.2.2.2.2.2.2.2.1, vI t.2.2.2.2.2.2.2.2.1, vI t.2.2.2.2.2.2.2.2.2])]⟩
def yhs : Gk vZ := fun κ => JV (fun t => κ none ⟨dd 6 (.box 6 0 :: vB t.1 :: dd 21 []), [(6, .box [vI t.2.1, vI t.2.2.1, vI t.2.2.2.1, vI t.2.2.2.2.1, vI t.2.2.2.2.2])]⟩) (fun t => κ (some 0) ⟨dd 6 (.box 6 0 :: dd 22 []), [(6, .box [vI t.1, vI t.2.1, vI t.2.2.1, vI t.2.2.2.1, vI t.2.2.2.2])]⟩)
def yk4 : Lp := lpC 2 (unG ymo y6E) @yhs lpN
theorem yro : LF yk3 yk4 301 2 Tryz.f301 0 y6E @yhs fun t => t := fun R κ again t => by kernel_rfl
theorem yrp : LK yk3 yk4 301 Tryz.f301 0 := lkN (u := (unG ymo y6E)) (yr fun t => by kernel_rfl) yro
theorem ywD : EV yk3 yk4 301 Tryz.f301 yoP yxY yi4 kW := fun x => by kernel_rfl
def yBv : QF := ⟨301, kW, okN (n := 1) Tryz.func301 ⟨yrp, trivial⟩ ywD⟩
def JW (x : ysY) : Option yxZ :=
 Option.bind (zt x.1) fun r1 => bif (decide ((Go.IntKind.wrap .i64 ((List.length x.1 : Int) - (1 : Int))) ≥ (0 : Int))) then if (0 : Int) ≤ (Go.IntKind.wrap .i64 ((List.length x.1 : Int) - (1 : Int))) then if (Go.IntKind.wrap .i64 ((List.length x.1 : Int) - (1 : Int))) < (List.length x.1 : Int) then Option.bind (kW ((yp x.1 (Go.IntKind.wrap .i64 ((List.length x.1 : Int) - (1 : Int)))), x.2.1, x.2.2.1)) fun r2 => Option.bind (bif r2.2.2.2.2.2 then some true else if (0 : Int) ≤ (Go.IntKind.wrap .i64 ((List.length x.1 : Int) - (1 : Int))) then if (Go.IntKind.wrap .i64 ((List.length x.1 : Int) - (1 : Int))) < (List.length x.1 : Int) then some (decide (((List.length (yp x.1 (Go.IntKind.wrap .i64 ((List.length x.1 : Int) - (1 : Int)))) : Nat) : Int) < (4 : Int))) else none else none) fun u3 => bif u3 then if (0 : Int) ≤ (Go.IntKind.wrap .i64 ((List.length x.1 : Int) - (1 : Int))) then if (Go.IntKind.wrap .i64 ((List.length x.1 : Int) - (1 : Int))) < (List.length x.1 : Int) then Option.bind (ZR ((yp x.1 (Go.IntKind.wrap .i64 ((List.length x.1 : Int) - (1 : Int)))), x.2.1, x.2.2.1, x.2.2.2.1, x.2.2.2.2.1, x.2.2.2.2.2)) fun r4 => if (0 : Int) ≤ (Go.IntKind.wrap .i64 ((List.length x.1 : Int) - (1 : Int))) then if (Go.IntKind.wrap .i64 ((List.length x.1 : Int) - (1 : Int))) < (List.length r1 : Int) then Option.bind (zy (List.set r1 (Int.toNat (Go.IntKind.wrap .i64 ((List.length x.1 : Int) - (1 : Int)))) r4)) fun r5 => bif r5 then some ((List.set r1 (Int.toNat (Go.IntKind.wrap .i64 ((List.length x.1 : Int) - (1 : Int)))) r4), true) else Option.bind (zJ x) fun r6 => Option.bind (zh r6) fun r7 => Option.bind (bif (decide ((List.length r6 : Int) > (8 : Int))) then some true else Option.bind (zy r7) fun r9 => some (!r9)) fun u8 => bif u8 then Option.bind (zt x.1) fun r10 => some (r10, false) else some (r7, true) else none else none else none else none else if (List.length r1 + List.length ([([x.2] : List ya)] : List yb)) * 24 < 140737488355328 then Option.bind (zy (r1 ++ ([([x.2] : List ya)] : List yb))) fun r11 => bif r11 then some ((r1 ++ ([([x.2] : List ya)] : List yb)), true) else Option.bind (zJ x) fun r12 => Option.bind (zh r12) fun r13 => Option.bind (bif (decide ((List.length r12 : Int) > (8 : Int))) then some true else Option.bind (zy r13) fun r15 => some (!r15)) fun u14 => bif u14 then Option.bind (zt x.1) fun r16 => some (r16, false) else some (r13, true) else none else none else none else if (List.length r1 + List.length ([([x.2] : List ya)] : List yb)) * 24 < 140737488355328 then Option.bind (zy (r1 ++ ([([x.2] : List ya)] : List yb))) fun r17 => bif r17 then some ((r1 ++ ([([x.2] : List ya)] : List yb)), true) else Option.bind (zJ x) fun r18 => Option.bind (zh r18) fun r19 => Option.bind (bif (decide ((List.length r18 : Int) > (8 : Int))) then some true else Option.bind (zy r19) fun r21 => some (!r21)) fun u20 => bif u20 then Option.bind (zt x.1) fun r22 => some (r22, false) else some (r19, true) else none
theorem ywE : EV [yzv, ysq, yzq, yzu, yBv, yvM] lpN 220 Tryz.f220 yoQ ysZ yy0 JW := fun x => by kernel_rfl
def yBw : QF := ⟨220, JW, okN (n := 0) Tryz.func220 trivial ywE⟩
def zV (x : ytm) : Option Qz8 :=
 if (0 : Int) ≤ (0 : Int) then if (0 : Int) ≤ x.2.2.1 then if x.2.2.1 ≤ (List.length x.1 : Int) then Option.bind (Zt (List.drop (Int.toNat (0 : Int)) (List.take (Int.toNat x.2.2.1) x.1))) fun r1 => if (List.length r1 + List.length x.2.2.2.2.1) * 8 < 140737488355328 then if (0 : Int) ≤ (Go.IntKind.wrap .i64 (x.2.2.1 + x.2.2.2.1)) then if (Go.IntKind.wrap .i64 (x.2.2.1 + x.2.2.2.1)) ≤ (List.length x.1 : Int) then if (List.length x.1 : Int) ≤ (List.length x.1 : Int) then if (List.length (r1 ++ x.2.2.2.2.1) + List.length (List.drop (Int.toNat (Go.IntKind.wrap .i64 (x.2.2.1 + x.2.2.2.1))) (List.take (Int.toNat (List.length x.1 : Int)) x.1))) * 8 < 140737488355328 then if (0 : Int) ≤ (0 : Int) then if (0 : Int) ≤ x.2.2.1 then if x.2.2.1 ≤ (List.length x.2.1 : Int) then if (List.length ([] : List y0) + List.length (List.drop (Int.toNat (0 : Int)) (List.take (Int.toNat x.2.2.1) x.2.1))) * 24 < 140737488355328 then if (List.length (([] : List y0) ++ (List.drop (Int.toNat (0 : Int)) (List.take (Int.toNat x.2.2.1) x.2.1))) + List.length x.2.2.2.2.2) * 24 < 140737488355328 then if (0 : Int) ≤ (Go.IntKind.wrap .i64 (x.2.2.1 + x.2.2.2.1)) then if (Go.IntKind.wrap .i64 (x.2.2.1 + x.2.2.2.1)) ≤ (List.length x.2.1 : Int) then if (List.length x.2.1 : Int) ≤ (List.length x.2.1 : Int) then if (List.length ((([] : List y0) ++ (List.drop (Int.toNat (0 : Int)) (List.take (Int.toNat x.2.2.1) x.2.1))) ++ x.2.2.2.2.2) + List.length (List.drop (Int.toNat (Go.IntKind.wrap .i64 (x.2.2.1 + x.2.2.2.1))) (List.take (Int.toNat (List.length x.2.1 : Int)) x.2.1))) * 24 < 140737488355328 then some (((r1 ++ x.2.2.2.2.1) ++ (List.drop (Int.toNat (Go.IntKind.wrap .i64 (x.2.2.1 + x.2.2.2.1))) (List.take (Int.toNat (List.length x.1 : Int)) x.1))), (((([] : List y0) ++ (List.drop (Int.toNat (0 : Int)) (List.take (Int.toNat x.2.2.1) x.2.1))) ++ x.2.2.2.2.2) ++ (List.drop (Int.toNat (Go.IntKind.wrap .i64 (x.2.2.1 + x.2.2.2.1))) (List.take (Int.toNat (List.length x.2.1 : Int)) x.2.1)))) else none else none else none else none else none else none else none else none else none else none else none else none else none else none else none else none else none
theorem ywF : EV [yzt] lpN 222 Tryz.f222 yoR ytn qz8 zV := fun x => by kernel_rfl
def yzw : QF := ⟨222, zV, okN (n := 0) Tryz.func222 trivial ywF⟩
abbrev vh : Type := y8L ⊕ y8L
def vi (k0 : Qz8 → Option R) (k1 : Qz8 → Option R) (again : vh → Option R) : vh → Option R
 | .inl t2 => bif (decide ((Go.IntKind.wrap .i64 (t2.1 + (1 : Int))) < (List.length t2.2.2 : Int))) then if (0 : Int) ≤ t2.1 then if t2.1 < (List.length t2.2.2 : Int) then Option.bind (yH (yg t2.2.2 t2.1)) fun r1 => if (0 : Int) ≤ (Go.IntKind.wrap .i64 (t2.1 + (1 : Int))) then if (Go.IntKind.wrap .i64 (t2.1 + (1 : Int))) < (List.length t2.2.2 : Int) then Option.bind (yH (yg t2.2.2 (Go.IntKind.wrap .i64 (t2.1 + (1 : Int))))) fun r2 => if (List.length r1 + List.length r2) * 40 < 140737488355328 then bif (decide ((List.length (r1 ++ r2) : Int) ≤ (6 : Int))) then if (0 : Int) ≤ t2.1 then if t2.1 < (List.length t2.2.1 : Int) then Option.bind (zh (r1 ++ r2)) fun r3 => Option.bind (zV (t2.2.1, t2.2.2, t2.1, (2 : Int), ([(zC t2.2.1 t2.1)] : List yf), ([r3] : List y0))) fun r4 => again (Sum.inr ((Go.IntKind.wrap .i64 ((-1 : Int) + (1 : Int))), r4.1, r4.2)) else none else none else again (Sum.inl ((Go.IntKind.wrap .i64 (t2.1 + (1 : Int))), t2.2.1, t2.2.2)) else none else none else none else none else none else k0 t2.2
 | .inr t2 => bif (decide ((Go.IntKind.wrap .i64 (t2.1 + (1 : Int))) < (List.length t2.2.2 : Int))) then if (0 : Int) ≤ t2.1 then if t2.1 < (List.length t2.2.2 : Int) then Option.bind (yH (yg t2.2.2 t2.1)) fun r5 => if (0 : Int) ≤ (Go.IntKind.wrap .i64 (t2.1 + (1 : Int))) then if (Go.IntKind.wrap .i64 (t2.1 + (1 : Int))) < (List.length t2.2.2 : Int) then Option.bind (yH (yg t2.2.2 (Go.IntKind.wrap .i64 (t2.1 + (1 : Int))))) fun r6 => if (List.length r5 + List.length r6) * 40 < 140737488355328 then bif (decide ((List.length (r5 ++ r6) : Int) ≤ (6 : Int))) then if (0 : Int) ≤ t2.1 then if t2.1 < (List.length t2.2.1 : Int) then Option.bind (zh (r5 ++ r6)) fun r7 => Option.bind (zV (t2.2.1, t2.2.2, t2.1, (2 : Int), ([(zC t2.2.1 t2.1)] : List yf), ([r7] : List y0))) fun r8 => again (Sum.inr ((Go.IntKind.wrap .i64 ((-1 : Int) + (1 : Int))), r8.1, r8.2)) else none else none else again (Sum.inr ((Go.IntKind.wrap .i64 (t2.1 + (1 : Int))), t2.2.1, t2.2.2)) else none else none else none else none else none else k1 t2.2
def Qk k0 k1 := zE (@vi R k0 k1) zW
def Z1 (x : Qz8) : Option Qz8 :=
 Qk (fun x9 => some x9) (fun x10 => some x10) (Sum.inl ((0 : Int), x.1, x.2))
def ydc : List QF := [ykR, yzw, ysq]
def y2B (t : y8L) : St := ⟨.dead :: .box 1 0 :: .box 2 0 :: vI t.1 :: dd 39 [], [(1, .box [z7 t.2.1, yu t.2.2]), (2, .box [.nils, .nils])]⟩
theorem yfc : ∀ s t, unG ydN y2B s = some t → y2B t = s := yr fun t => by kernel_rfl
def y2C (t : y8L) : St := ⟨.dead :: .box 1 0 :: .box 2 0 :: vI t.1 :: dd 39 [], [(1, .box [.own 10000000, .own 10000001]), (2, .box [.nils, .nils]), (10000000, .root true 3 yi t.2.1), (10000001, .root true 140 yh t.2.2)]⟩
theorem yfd : ∀ s t, unG ydN y2C s = some t → y2C t = s := yr fun t => by kernel_rfl
def y2D : (y8L ⊕ y8L) → St := Sum.elim y2B y2C
def y6F (s : St) : Option (y8L ⊕ y8L) := ((unG ydN y2B s).map Sum.inl).or (((unG ydN y2C) s).map Sum.inr)
theorem yfe : ∀ s t, y6F s = some t → y2D t = s := y3h yfc yfd
def yaB : Gk vh := fun κ => vi (fun t => κ (some 0) ⟨.dead :: .box 1 0 :: .box 2 0 :: dd 40 [], [(1, .box [z7 t.1, yu t.2]), (2, .box [.nils, .nils])]⟩) (fun t => κ (some 0) ⟨.dead :: .box 1 0 :: .box 2 0 :: dd 40 [], [(1, .box [.own 10000000, .own 10000001]), (2, .box [.nils, .nils]), (10000000, .root true 3 yi t.1), (10000001, .root true 140 yh t.2)]⟩)
def ydd : Lp := lpC 2 y6F @yaB lpN
theorem yff : LF ydc ydd 225 2 Tryz.f225 0 y2D @yaB fun v : y8L => .inl v := fun R κ again v => by kernel_rfl
theorem yfg : LF ydc ydd 225 2 Tryz.f225 0 y2D @yaB fun v : y8L => .inr v := fun R κ again v => by kernel_rfl
theorem yrq : LF ydc ydd 225 2 Tryz.f225 0 y2D @yaB fun t => t := (LC.sum yff yfg)
theorem yrr : LK ydc ydd 225 Tryz.f225 0 := lkN (u := y6F) yfe yrq
theorem ywG : EV ydc ydd 225 Tryz.f225 yoS qz8 qz8 Z1 := fun x => by kernel_rfl
def yBx : QF := ⟨225, Z1, okN (n := 1) Tryz.func225 ⟨yrr, trivial⟩ ywG⟩
def jp (x : yy1) : Option yy3 :=
 Option.bind (Yb (x.1, x.2.1)) fun r1 => Option.bind (bif (!r1) then some true else Option.bind (wJ x.2.2) fun r3 => some (!r3)) fun u2 => bif u2 then Option.bind (zn (x.1, x.2.1)) fun r4 => some (r4.1, r4.2, false) else Option.bind (JU (x.1, x.2.1, x.2.2.1, x.2.2.2.1)) fun r5 => Option.bind (zn (x.1, x.2.1)) fun r6 => if (0 : Int) ≤ r5 then if r5 < (List.length r6.2 : Int) then Option.bind (JW ((yg r6.2 r5), x.2.2.1, x.2.2.2.1, x.2.2.2.2.1, x.2.2.2.2.2.1, x.2.2.2.2.2.2)) fun r7 => bif (!r7.2) then if (0 : Int) ≤ r5 then if r5 < (List.length r6.2 : Int) then Option.bind (zJ ((yg r6.2 r5), x.2.2.1, x.2.2.2.1, x.2.2.2.2.1, x.2.2.2.2.2.1, x.2.2.2.2.2.2)) fun r8 => if (0 : Int) ≤ (Go.IntKind.wrap .i64 (Int.tdiv (Go.IntKind.wrap .i64 ((List.length r8 : Int) + (1 : Int))) (2 : Int))) then if (Go.IntKind.wrap .i64 (Int.tdiv (Go.IntKind.wrap .i64 ((List.length r8 : Int) + (1 : Int))) (2 : Int))) < (List.length r8 : Int) then if (0 : Int) ≤ r5 then if r5 < (List.length x.1 : Int) then Option.bind (YZ ((y8 r8 (Go.IntKind.wrap .i64 (Int.tdiv (Go.IntKind.wrap .i64 ((List.length r8 : Int) + (1 : Int))) (2 : Int)))).1, (y8 r8 (Go.IntKind.wrap .i64 (Int.tdiv (Go.IntKind.wrap .i64 ((List.length r8 : Int) + (1 : Int))) (2 : Int)))).2.1)) fun r9 => if (0 : Int) ≤ (0 : Int) then if (0 : Int) ≤ (Go.IntKind.wrap .i64 (Int.tdiv (Go.IntKind.wrap .i64 ((List.length r8 : Int) + (1 : Int))) (2 : Int))) then if (Go.IntKind.wrap .i64 (Int.tdiv (Go.IntKind.wrap .i64 ((List.length r8 : Int) + (1 : Int))) (2 : Int))) ≤ (List.length r8 : Int) then Option.bind (zh (List.drop (Int.toNat (0 : Int)) (List.take (Int.toNat (Go.IntKind.wrap .i64 (Int.tdiv (Go.IntKind.wrap .i64 ((List.length r8 : Int) + (1 : Int))) (2 : Int)))) r8))) fun r10 => if (0 : Int) ≤ (Go.IntKind.wrap .i64 (Int.tdiv (Go.IntKind.wrap .i64 ((List.length r8 : Int) + (1 : Int))) (2 : Int))) then if (Go.IntKind.wrap .i64 (Int.tdiv (Go.IntKind.wrap .i64 ((List.length r8 : Int) + (1 : Int))) (2 : Int))) ≤ (List.length r8 : Int) then if (List.length r8 : Int) ≤ (List.length r8 : Int) then Option.bind (zh (List.drop (Int.toNat (Go.IntKind.wrap .i64 (Int.tdiv (Go.IntKind.wrap .i64 ((List.length r8 : Int) + (1 : Int))) (2 : Int)))) (List.take (Int.toNat (List.length r8 : Int)) r8))) fun r11 => Option.bind (zV (r6.1, r6.2, r5, (1 : Int), ([(zC x.1 r5), r9] : List yf), ([r10, r11] : List y0))) fun r12 => Option.bind (Z1 r12) fun r13 => Option.bind (Yb r13) fun r14 => bif (!r14) then Option.bind (zn (x.1, x.2.1)) fun r15 => some (r15.1, r15.2, false) else some (r13.1, r13.2, true) else none else none else none else none else none else none else none else none else none else none else none else none else Option.bind (bif (decide (r5 > (0 : Int))) then Option.bind (yH r7.1) fun r17 => some ((List.length r17 : Int) == (0 : Int)) else some false) fun u16 => bif u16 then Option.bind (zV (r6.1, r6.2, r5, (1 : Int), ([] : List yf), ([] : List y0))) fun r18 => Option.bind (Z1 r18) fun r19 => Option.bind (Yb r19) fun r20 => bif (!r20) then Option.bind (zn (x.1, x.2.1)) fun r21 => some (r21.1, r21.2, false) else some (r19.1, r19.2, true) else if (0 : Int) ≤ r5 then if r5 < (List.length r6.2 : Int) then Option.bind (Z1 (r6.1, (List.set r6.2 (Int.toNat r5) r7.1))) fun r22 => Option.bind (Yb r22) fun r23 => bif (!r23) then Option.bind (zn (x.1, x.2.1)) fun r24 => some (r24.1, r24.2, false) else some (r22.1, r22.2, true) else none else none else none else none
theorem ywH : EV [ykR, yzr, ywr, yzp, yBu, yBw, yzv, yzw, yvW, ysq, yBx] lpN 100 Tryz.f100 yoT yy2 yy4 jp := fun x => by kernel_rfl
def yBy : QF := ⟨100, jp, okN (n := 0) Tryz.func100 trivial ywH⟩
def Zu (x : ygq) : Option (List y9) :=
 Option.bind (zv x.1) fun r1 => Option.bind (Ze x.1) fun r2 => Option.bind (bif (!r2) then some true else Option.bind (yF (x.2, (0 : Int), (23 : Int))) fun r4 => some (!r4)) fun u3 => Option.bind (bif u3 then some true else if (0 : Int) ≤ x.2 then if x.2 < (List.length x.1 : Int) then some (!((yj x.1 x.2).2.1)) else none else none) fun u5 => bif u5 then some r1 else if (0 : Int) ≤ x.2 then if x.2 < (List.length x.1 : Int) then if (0 : Int) ≤ x.2 then if x.2 < (List.length r1 : Int) then some (List.set r1 (Int.toNat x.2) ((Int.tmod (Go.IntKind.wrap .i64 ((yj x.1 x.2).1 + (1 : Int))) (1000 : Int)), false, (0 : Int))) else none else none else none else none
theorem ywI : EV [q92, yw5, ywu] lpN 101 Tryz.f101 yoU ygr [(.sl 113 ye)] Zu := fun x => by kernel_rfl
def yBz : QF := ⟨101, Zu, okN (n := 0) Tryz.func101 trivial ywI⟩
abbrev Jx : Type := ycH ⊕ ycI
def Zv (k0 : yto → Option R) (k1 : ytp → Option R) (k2 : ytq → Option R) (k3 : ytr → Option R) (again : Jx → Option R) : Jx → Option R
 | .inl t7 => bif (decide (t7.2.2.2.1 < t7.2.2.1)) then if (0 : Int) ≤ t7.2.2.2.1 then if t7.2.2.2.1 < (List.length t7.2.2.2.2.2.2.2.2.2.2.2.2.2.1 : Int) then Option.bind (bif ((y8 t7.2.2.2.2.2.2.2.2.2.2.2.2.2.1 t7.2.2.2.1).2.2.1 == (1 : Int)) then some ((y8 t7.2.2.2.2.2.2.2.2.2.2.2.2.2.1 t7.2.2.2.1).2.2.2.1 == t7.1) else some false) fun u12 => bif u12 then if (0 : Int) ≤ t7.2.1 then if t7.2.1 < (List.length t7.2.2.2.2.2.2.2.2.2.2.2.2.1 : Int) then Option.bind (jp (t7.2.2.2.2.1, t7.2.2.2.2.2.1, (y8 t7.2.2.2.2.2.2.2.2.2.2.2.2.2.1 t7.2.2.2.1).1, (y8 t7.2.2.2.2.2.2.2.2.2.2.2.2.2.1 t7.2.2.2.1).2.1, (y8 t7.2.2.2.2.2.2.2.2.2.2.2.2.2.1 t7.2.2.2.1).2.2.1, t7.2.1, (yj t7.2.2.2.2.2.2.2.2.2.2.2.2.1 t7.2.1).1)) fun r13 => bif (!r13.2.2) then Option.bind (yY (t7.2.2.2.2.1, t7.2.2.2.2.2.1, t7.2.2.2.2.2.2.1, t7.2.2.2.2.2.2.2.1, t7.2.2.2.2.2.2.2.2.1, t7.2.2.2.2.2.2.2.2.2.1)) fun r14 => k0 (t7.1, false, t7.2.2.2.2.1, t7.2.2.2.2.2.1, t7.2.2.2.2.2.2.1, t7.2.2.2.2.2.2.2.1, t7.2.2.2.2.2.2.2.2.1, t7.2.2.2.2.2.2.2.2.2.1, r14.2.2.2.2.2, t7.2.2.2.2.2.2.2.2.2.2.2.1, t7.2.2.2.2.2.2.2.2.2.2.2.2.1, r14.1, r14.2.1, r14.2.2.1, r14.2.2.2.1, r14.2.2.2.2.1, t7.2.2.2.2.2.2.2.2.2.2.2.2.2.2) else again (Sum.inr (t7.1, t7.2.1, t7.2.2.1, (Go.IntKind.wrap .i64 (t7.2.2.2.1 + (1 : Int))), t7.2.2.2.2.1, t7.2.2.2.2.2.1, t7.2.2.2.2.2.2.1, t7.2.2.2.2.2.2.2.1, t7.2.2.2.2.2.2.2.2.1, t7.2.2.2.2.2.2.2.2.2.1, t7.2.2.2.2.2.2.2.2.2.2.1, r13.1, r13.2.1, t7.2.2.2.2.2.2.2.2.2.2.2.1, t7.2.2.2.2.2.2.2.2.2.2.2.2.1, t7.2.2.2.2.2.2.2.2.2.2.2.2.2.1, t7.2.2.2.2.2.2.2.2.2.2.2.2.2.2.2.2.1, t7.2.2.2.2.2.2.2.2.2.2.2.2.2.2.2.2.2.1, t7.2.2.2.2.2.2.2.2.2.2.2.2.2.2.2.2.2.2)) else none else none else again (Sum.inl (t7.1, t7.2.1, t7.2.2.1, (Go.IntKind.wrap .i64 (t7.2.2.2.1 + (1 : Int))), t7.2.2.2.2.1, t7.2.2.2.2.2.1, t7.2.2.2.2.2.2.1, t7.2.2.2.2.2.2.2.1, t7.2.2.2.2.2.2.2.2.1, t7.2.2.2.2.2.2.2.2.2.1, t7.2.2.2.2.2.2.2.2.2.2.1, t7.2.2.2.2.2.2.2.2.2.2.2.1, t7.2.2.2.2.2.2.2.2.2.2.2.2.1, t7.2.2.2.2.2.2.2.2.2.2.2.2.2.1, t7.2.2.2.2.2.2.2.2.2.2.2.2.2.2.1, t7.2.2.2.2.2.2.2.2.2.2.2.2.2.2.2.1, t7.2.2.2.2.2.2.2.2.2.2.2.2.2.2.2.2.1, t7.2.2.2.2.2.2.2.2.2.2.2.2.2.2.2.2.2.1, t7.2.2.2.2.2.2.2.2.2.2.2.2.2.2.2.2.2.2)) else none else none else k1 (t7.1, t7.2.2.2.2.1, t7.2.2.2.2.2.1, t7.2.2.2.2.2.2.1, t7.2.2.2.2.2.2.2.1, t7.2.2.2.2.2.2.2.2.1, t7.2.2.2.2.2.2.2.2.2.1, t7.2.2.2.2.2.2.2.2.2.2.1, t7.2.2.2.2.2.2.2.2.2.2.2.1, t7.2.2.2.2.2.2.2.2.2.2.2.2.1, t7.2.2.2.2.2.2.2.2.2.2.2.2.2.2)
 | .inr t7 => bif (decide (t7.2.2.2.1 < t7.2.2.1)) then if (0 : Int) ≤ t7.2.2.2.1 then if t7.2.2.2.1 < (List.length t7.2.2.2.2.2.2.2.2.2.2.2.2.2.2.2.1 : Int) then Option.bind (bif ((y8 t7.2.2.2.2.2.2.2.2.2.2.2.2.2.2.2.1 t7.2.2.2.1).2.2.1 == (1 : Int)) then some ((y8 t7.2.2.2.2.2.2.2.2.2.2.2.2.2.2.2.1 t7.2.2.2.1).2.2.2.1 == t7.1) else some false) fun u15 => bif u15 then if (0 : Int) ≤ t7.2.1 then if t7.2.1 < (List.length t7.2.2.2.2.2.2.2.2.2.2.2.2.2.2.1 : Int) then Option.bind (jp (t7.2.2.2.2.1, t7.2.2.2.2.2.1, (y8 t7.2.2.2.2.2.2.2.2.2.2.2.2.2.2.2.1 t7.2.2.2.1).1, (y8 t7.2.2.2.2.2.2.2.2.2.2.2.2.2.2.2.1 t7.2.2.2.1).2.1, (y8 t7.2.2.2.2.2.2.2.2.2.2.2.2.2.2.2.1 t7.2.2.2.1).2.2.1, t7.2.1, (yj t7.2.2.2.2.2.2.2.2.2.2.2.2.2.2.1 t7.2.1).1)) fun r16 => bif (!r16.2.2) then Option.bind (yY (t7.2.2.2.2.1, t7.2.2.2.2.2.1, t7.2.2.2.2.2.2.1, t7.2.2.2.2.2.2.2.1, t7.2.2.2.2.2.2.2.2.1, t7.2.2.2.2.2.2.2.2.2.1)) fun r17 => k2 (t7.1, false, t7.2.2.2.2.1, t7.2.2.2.2.2.1, t7.2.2.2.2.2.2.1, t7.2.2.2.2.2.2.2.1, t7.2.2.2.2.2.2.2.2.1, t7.2.2.2.2.2.2.2.2.2.1, r17.2.2.2.2.2, t7.2.2.2.2.2.2.2.2.2.2.2.1, t7.2.2.2.2.2.2.2.2.2.2.2.2.1, t7.2.2.2.2.2.2.2.2.2.2.2.2.2.1, t7.2.2.2.2.2.2.2.2.2.2.2.2.2.2.1, r17.1, r17.2.1, r17.2.2.1, r17.2.2.2.1, r17.2.2.2.2.1, t7.2.2.2.2.2.2.2.2.2.2.2.2.2.2.2.2) else again (Sum.inr (t7.1, t7.2.1, t7.2.2.1, (Go.IntKind.wrap .i64 (t7.2.2.2.1 + (1 : Int))), t7.2.2.2.2.1, t7.2.2.2.2.2.1, t7.2.2.2.2.2.2.1, t7.2.2.2.2.2.2.2.1, t7.2.2.2.2.2.2.2.2.1, t7.2.2.2.2.2.2.2.2.2.1, t7.2.2.2.2.2.2.2.2.2.2.1, r16.1, r16.2.1, t7.2.2.2.2.2.2.2.2.2.2.2.2.2.1, t7.2.2.2.2.2.2.2.2.2.2.2.2.2.2.1, t7.2.2.2.2.2.2.2.2.2.2.2.2.2.2.2.1, t7.2.2.2.2.2.2.2.2.2.2.2.2.2.2.2.2.1, t7.2.2.2.2.2.2.2.2.2.2.2.2.2.2.2.2.2.1, t7.2.2.2.2.2.2.2.2.2.2.2.2.2.2.2.2.2.2)) else none else none else again (Sum.inr (t7.1, t7.2.1, t7.2.2.1, (Go.IntKind.wrap .i64 (t7.2.2.2.1 + (1 : Int))), t7.2.2.2.2.1, t7.2.2.2.2.2.1, t7.2.2.2.2.2.2.1, t7.2.2.2.2.2.2.2.1, t7.2.2.2.2.2.2.2.2.1, t7.2.2.2.2.2.2.2.2.2.1, t7.2.2.2.2.2.2.2.2.2.2.1, t7.2.2.2.2.2.2.2.2.2.2.2.1, t7.2.2.2.2.2.2.2.2.2.2.2.2.1, t7.2.2.2.2.2.2.2.2.2.2.2.2.2.1, t7.2.2.2.2.2.2.2.2.2.2.2.2.2.2.1, t7.2.2.2.2.2.2.2.2.2.2.2.2.2.2.2.1, t7.2.2.2.2.2.2.2.2.2.2.2.2.2.2.2.2.1, t7.2.2.2.2.2.2.2.2.2.2.2.2.2.2.2.2.2.1, t7.2.2.2.2.2.2.2.2.2.2.2.2.2.2.2.2.2.2)) else none else none else k3 (t7.1, t7.2.2.2.2.1, t7.2.2.2.2.2.1, t7.2.2.2.2.2.2.1, t7.2.2.2.2.2.2.2.1, t7.2.2.2.2.2.2.2.2.1, t7.2.2.2.2.2.2.2.2.2.1, t7.2.2.2.2.2.2.2.2.2.2.1, t7.2.2.2.2.2.2.2.2.2.2.2.1, t7.2.2.2.2.2.2.2.2.2.2.2.2.1, t7.2.2.2.2.2.2.2.2.2.2.2.2.2.1, t7.2.2.2.2.2.2.2.2.2.2.2.2.2.2.1, t7.2.2.2.2.2.2.2.2.2.2.2.2.2.2.2.2)
def Vp k0 k1 k2 k3 := zE (@Zv R k0 k1 k2 k3) zW
def YF (x : y7c) : Option ykN :=
 Option.bind (Jw x.2.2.2.1) fun r1 => Option.bind (Yc (x.1, x.2.1, x.2.2.1, x.2.2.2.1, x.2.2.2.2.1, x.2.2.2.2.2.1)) fun r2 => Option.bind (bif (!r2) then some true else Option.bind (yF (x.2.2.2.2.2.2, (0 : Int), (23 : Int))) fun r4 => some (!r4)) fun u3 => Option.bind (bif u3 then some true else if (0 : Int) ≤ x.2.2.2.2.2.2 then if x.2.2.2.2.2.2 < (List.length x.2.2.2.1 : Int) then some (!((yj x.2.2.2.1 x.2.2.2.2.2.2).2.1)) else none else none) fun u5 => Option.bind (bif u5 then some true else some (decide (r1 < (0 : Int)))) fun u6 => Option.bind (bif u6 then some true else some (decide (r1 > x.2.2.2.2.2.2))) fun u7 => bif u7 then Option.bind (yY (x.1, x.2.1, x.2.2.1, x.2.2.2.1, x.2.2.2.2.1, x.2.2.2.2.2.1)) fun r8 => some (r8.1, r8.2.1, r8.2.2.1, r8.2.2.2.1, r8.2.2.2.2.1, r8.2.2.2.2.2, false) else Option.bind (yY (x.1, x.2.1, x.2.2.1, x.2.2.2.1, x.2.2.2.2.1, x.2.2.2.2.2.1)) fun r9 => if (0 : Int) ≤ x.2.2.2.2.2.2 then if x.2.2.2.2.2.2 < (List.length x.2.2.2.1 : Int) then Option.bind (J6 (x.2.2.2.1, (yj x.2.2.2.1 x.2.2.2.2.2.2).2.2)) fun r10 => Option.bind (Yd (x.1, x.2.1)) fun r11 => Vp (fun x18 => some (x18.2.2.2.2.2.2.2.2.2.2.2.1, x18.2.2.2.2.2.2.2.2.2.2.2.2.1, x18.2.2.2.2.2.2.2.2.2.2.2.2.2.1, x18.2.2.2.2.2.2.2.2.2.2.2.2.2.2.1, x18.2.2.2.2.2.2.2.2.2.2.2.2.2.2.2.1, x18.2.2.2.2.2.2.2.2.1, x18.2.1)) (fun x19 => Option.bind (Zu (x19.2.2.2.2.2.2.2.2.2.1, x19.1)) fun r20 => Option.bind (Yc (x19.2.2.2.2.2.2.2.2.2.2.1, x19.2.2.2.2.2.2.2.2.2.2.2.1, x19.2.2.2.2.2.2.2.2.2.2.2.2.1, r20, x19.2.2.2.2.2.2.2.2.2.2.2.2.2.2, x19.2.2.2.2.2.2.2.2.1)) fun r21 => bif (!r21) then Option.bind (yY (x19.2.1, x19.2.2.1, x19.2.2.2.1, x19.2.2.2.2.1, x19.2.2.2.2.2.1, x19.2.2.2.2.2.2.1)) fun r22 => some (r22.1, r22.2.1, r22.2.2.1, r22.2.2.2.1, r22.2.2.2.2.1, r22.2.2.2.2.2, false) else some (x19.2.2.2.2.2.2.2.2.2.2.1, x19.2.2.2.2.2.2.2.2.2.2.2.1, x19.2.2.2.2.2.2.2.2.2.2.2.2.1, r20, x19.2.2.2.2.2.2.2.2.2.2.2.2.2.2, x19.2.2.2.2.2.2.2.2.1, true)) (fun x23 => some (x23.2.2.2.2.2.2.2.2.2.2.2.2.2.1, x23.2.2.2.2.2.2.2.2.2.2.2.2.2.2.1, x23.2.2.2.2.2.2.2.2.2.2.2.2.2.2.2.1, x23.2.2.2.2.2.2.2.2.2.2.2.2.2.2.2.2.1, x23.2.2.2.2.2.2.2.2.2.2.2.2.2.2.2.2.2.1, x23.2.2.2.2.2.2.2.2.1, x23.2.1)) (fun x24 => Option.bind (Zu (x24.2.2.2.2.2.2.2.2.2.2.2.1, x24.1)) fun r25 => Option.bind (Yc (x24.2.2.2.2.2.2.2.2.1, x24.2.2.2.2.2.2.2.2.2.1, x24.2.2.2.2.2.2.2.2.2.2.2.2.1, r25, x24.2.2.2.2.2.2.2.2.2.2.2.2.2.2, x24.2.2.2.2.2.2.2.2.2.2.1)) fun r26 => bif (!r26) then Option.bind (yY (x24.2.1, x24.2.2.1, x24.2.2.2.1, x24.2.2.2.2.1, x24.2.2.2.2.2.1, x24.2.2.2.2.2.2.1)) fun r27 => some (r27.1, r27.2.1, r27.2.2.1, r27.2.2.2.1, r27.2.2.2.2.1, r27.2.2.2.2.2, false) else some (x24.2.2.2.2.2.2.2.2.1, x24.2.2.2.2.2.2.2.2.2.1, x24.2.2.2.2.2.2.2.2.2.2.2.2.1, r25, x24.2.2.2.2.2.2.2.2.2.2.2.2.2.2, x24.2.2.2.2.2.2.2.2.2.2.1, true)) (Sum.inl (x.2.2.2.2.2.2, r10.2.1, (List.length r11 : Int), (0 : Int), x.1, x.2.1, x.2.2.1, x.2.2.2.1, x.2.2.2.2.1, x.2.2.2.2.2.1, (0 : Int), r9.2.2.2.2.2, r10.1, r11, r9.1, r9.2.1, r9.2.2.1, r9.2.2.2.1, r9.2.2.2.2.1)) else none else none
def yrs : List QF := [q29, q30, q91, q92, q98, q99, yBy, yBz]
def y6G (t : ycH) : St := ⟨.dead :: vI t.1 :: .box 2 0 :: .dead :: .box 4 0 :: dd 2 (.box 7 0 :: .own 10000000 :: vI t.2.1 :: dd 53 (.own 10000001 :: vI t.2.2.1 :: vI t.2.2.2.1 :: dd 44 [])), [(2, .box [z7 t.2.2.2.2.1, yu t.2.2.2.2.2.1, zk t.2.2.2.2.2.2.1, yN t.2.2.2.2.2.2.2.1, Y3 t.2.2.2.2.2.2.2.2.1, vI t.2.2.2.2.2.2.2.2.2.1]), (4, .box [.nils, .nils, .nils, .nils, .nils, vI t.2.2.2.2.2.2.2.2.2.2.1]), (7, .box [.own 10000002, .own 10000003, .own 10000004, .own 10000005, .own 10000006, vI t.2.2.2.2.2.2.2.2.2.2.2.1]), (10000000, .root true 113 ye t.2.2.2.2.2.2.2.2.2.2.2.2.1), (10000001, .root true 64 yk t.2.2.2.2.2.2.2.2.2.2.2.2.2.1), (10000002, .root true 3 yi t.2.2.2.2.2.2.2.2.2.2.2.2.2.2.1), (10000003, .root true 140 yh t.2.2.2.2.2.2.2.2.2.2.2.2.2.2.2.1), (10000004, .root true 146 yo t.2.2.2.2.2.2.2.2.2.2.2.2.2.2.2.2.1), (10000005, .root true 113 ye t.2.2.2.2.2.2.2.2.2.2.2.2.2.2.2.2.2.1), (10000006, .root true 46 yx t.2.2.2.2.2.2.2.2.2.2.2.2.2.2.2.2.2.2)]⟩
theorem yk5 : ∀ s t, unG ymp y6G s = some t → y6G t = s := yr fun t => by kernel_rfl
def y6H (t : ycI) : St := ⟨.dead :: vI t.1 :: .box 2 0 :: .dead :: .box 4 0 :: dd 2 (.box 7 0 :: .own 10000000 :: vI t.2.1 :: dd 53 (.own 10000001 :: vI t.2.2.1 :: vI t.2.2.2.1 :: dd 44 [])), [(2, .box [z7 t.2.2.2.2.1, yu t.2.2.2.2.2.1, zk t.2.2.2.2.2.2.1, yN t.2.2.2.2.2.2.2.1, Y3 t.2.2.2.2.2.2.2.2.1, vI t.2.2.2.2.2.2.2.2.2.1]), (4, .box [.nils, .nils, .nils, .nils, .nils, vI t.2.2.2.2.2.2.2.2.2.2.1]), (7, .box [z7 t.2.2.2.2.2.2.2.2.2.2.2.1, yu t.2.2.2.2.2.2.2.2.2.2.2.2.1, .own 10000002, .own 10000003, .own 10000004, vI t.2.2.2.2.2.2.2.2.2.2.2.2.2.1]), (10000000, .root true 113 ye t.2.2.2.2.2.2.2.2.2.2.2.2.2.2.1), (10000001, .root true 64 yk t.2.2.2.2.2.2.2.2.2.2.2.2.2.2.2.1), (10000002, .root true 146 yo t.2.2.2.2.2.2.2.2.2.2.2.2.2.2.2.2.1), (10000003, .root true 113 ye t.2.2.2.2.2.2.2.2.2.2.2.2.2.2.2.2.2.1), (10000004, .root true 46 yx t.2.2.2.2.2.2.2.2.2.2.2.2.2.2.2.2.2.2)]⟩
theorem yk6 : ∀ s t, unG ymq y6H s = some t → y6H t = s := yr fun t => by kernel_rfl
def y6I : (ycH ⊕ ycI) → St := Sum.elim y6G y6H
def y9t (s : St) : Option (ycH ⊕ ycI) := ((unG ymp y6G s).map Sum.inl).or (((unG ymq y6H) s).map Sum.inr)
theorem yk7 : ∀ s t, y9t s = some t → y6I t = s := y3h yk5 yk6
def yfh : Gk Jx := fun κ => Zv (fun t => κ none ⟨.dead :: vI t.1 :: .box 2 0 :: .dead :: .box 4 0 :: vB t.2.1 :: .dead :: .box 7 0 :: .own 10000000 :: dd 101 [], [(2, .box [z7 t.2.2.1, yu t.2.2.2.1, zk t.2.2.2.2.1, yN t.2.2.2.2.2.1, Y3 t.2.2.2.2.2.2.1, vI t.2.2.2.2.2.2.2.1]), (4, .box [.own 10000001, .own 10000002, .own 10000003, .own 10000004, .own 10000005, vI t.2.2.2.2.2.2.2.2.1]), (7, .box [.own 10000006, .own 10000007, .own 10000008, .own 10000009, .own 10000010, vI t.2.2.2.2.2.2.2.2.2.1]), (10000000, .root true 113 ye t.2.2.2.2.2.2.2.2.2.2.1), (10000001, .root true 3 yi t.2.2.2.2.2.2.2.2.2.2.2.1), (10000002, .root true 140 yh t.2.2.2.2.2.2.2.2.2.2.2.2.1), (10000003, .root true 146 yo t.2.2.2.2.2.2.2.2.2.2.2.2.2.1), (10000004, .root true 113 ye t.2.2.2.2.2.2.2.2.2.2.2.2.2.2.1), (10000005, .root true 46 yx t.2.2.2.2.2.2.2.2.2.2.2.2.2.2.2.1), (10000006, .root true 3 yi t.2.2.2.2.2.2.2.2.2.2.2.2.2.2.2.2.1), (10000007, .root true 140 yh t.2.2.2.2.2.2.2.2.2.2.2.2.2.2.2.2.2.1), (10000008, .root true 146 yo t.2.2.2.2.2.2.2.2.2.2.2.2.2.2.2.2.2.2.1), (10000009, .root true 113 ye t.2.2.2.2.2.2.2.2.2.2.2.2.2.2.2.2.2.2.2.1), (10000010, .root true 46 yx t.2.2.2.2.2.2.2.2.2.2.2.2.2.2.2.2.2.2.2.2)]⟩) (fun t => κ (some 0) ⟨.dead :: vI t.1 :: .box 2 0 :: .dead :: .box 4 0 :: dd 2 (.box 7 0 :: .own 10000000 :: dd 101 []), [(2, .box [z7 t.2.1, yu t.2.2.1, zk t.2.2.2.1, yN t.2.2.2.2.1, Y3 t.2.2.2.2.2.1, vI t.2.2.2.2.2.2.1]), (4, .box [.nils, .nils, .nils, .nils, .nils, vI t.2.2.2.2.2.2.2.1]), (7, .box [.own 10000001, .own 10000002, .own 10000003, .own 10000004, .own 10000005, vI t.2.2.2.2.2.2.2.2.1]), (10000000, .root true 113 ye t.2.2.2.2.2.2.2.2.2.1), (10000001, .root true 3 yi t.2.2.2.2.2.2.2.2.2.2.1), (10000002, .root true 140 yh t.2.2.2.2.2.2.2.2.2.2.2.1), (10000003, .root true 146 yo t.2.2.2.2.2.2.2.2.2.2.2.2.1), (10000004, .root true 113 ye t.2.2.2.2.2.2.2.2.2.2.2.2.2.1), (10000005, .root true 46 yx t.2.2.2.2.2.2.2.2.2.2.2.2.2.2)]⟩) (fun t => κ none ⟨.dead :: vI t.1 :: .box 2 0 :: .dead :: .box 4 0 :: vB t.2.1 :: .dead :: .box 7 0 :: .own 10000000 :: dd 101 [], [(2, .box [z7 t.2.2.1, yu t.2.2.2.1, zk t.2.2.2.2.1, yN t.2.2.2.2.2.1, Y3 t.2.2.2.2.2.2.1, vI t.2.2.2.2.2.2.2.1]), (4, .box [.own 10000001, .own 10000002, .own 10000003, .own 10000004, .own 10000005, vI t.2.2.2.2.2.2.2.2.1]), (7, .box [z7 t.2.2.2.2.2.2.2.2.2.1, yu t.2.2.2.2.2.2.2.2.2.2.1, .own 10000006, .own 10000007, .own 10000008, vI t.2.2.2.2.2.2.2.2.2.2.2.1]), (10000000, .root true 113 ye t.2.2.2.2.2.2.2.2.2.2.2.2.1), (10000001, .root true 3 yi t.2.2.2.2.2.2.2.2.2.2.2.2.2.1), (10000002, .root true 140 yh t.2.2.2.2.2.2.2.2.2.2.2.2.2.2.1), (10000003, .root true 146 yo t.2.2.2.2.2.2.2.2.2.2.2.2.2.2.2.1), (10000004, .root true 113 ye t.2.2.2.2.2.2.2.2.2.2.2.2.2.2.2.2.1), (10000005, .root true 46 yx t.2.2.2.2.2.2.2.2.2.2.2.2.2.2.2.2.2.1), (10000006, .root true 146 yo t.2.2.2.2.2.2.2.2.2.2.2.2.2.2.2.2.2.2.1), (10000007, .root true 113 ye t.2.2.2.2.2.2.2.2.2.2.2.2.2.2.2.2.2.2.2.1), (10000008, .root true 46 yx t.2.2.2.2.2.2.2.2.2.2.2.2.2.2.2.2.2.2.2.2)]⟩) (fun t => κ (some 0) ⟨.dead :: vI t.1 :: .box 2 0 :: .dead :: .box 4 0 :: dd 2 (.box 7 0 :: .own 10000000 :: dd 101 []), [(2, .box [z7 t.2.1, yu t.2.2.1, zk t.2.2.2.1, yN t.2.2.2.2.1, Y3 t.2.2.2.2.2.1, vI t.2.2.2.2.2.2.1]), (4, .box [.nils, .nils, .nils, .nils, .nils, vI t.2.2.2.2.2.2.2.1]), (7, .box [z7 t.2.2.2.2.2.2.2.2.1, yu t.2.2.2.2.2.2.2.2.2.1, .own 10000001, .own 10000002, .own 10000003, vI t.2.2.2.2.2.2.2.2.2.2.1]), (10000000, .root true 113 ye t.2.2.2.2.2.2.2.2.2.2.2.1), (10000001, .root true 146 yo t.2.2.2.2.2.2.2.2.2.2.2.2.1), (10000002, .root true 113 ye t.2.2.2.2.2.2.2.2.2.2.2.2.2.1), (10000003, .root true 46 yx t.2.2.2.2.2.2.2.2.2.2.2.2.2.2)]⟩)
def yrt : Lp := lpC 7 y9t @yfh lpN
theorem yk8 : LF yrs yrt 14 7 Tryz.f14 0 y6I @yfh fun v : ycH => .inl v := fun R κ again v => by kernel_rfl
theorem yk9 : LF yrs yrt 14 7 Tryz.f14 0 y6I @yfh fun v : ycI => .inr v := fun R κ again v => by kernel_rfl
theorem ywJ : LF yrs yrt 14 7 Tryz.f14 0 y6I @yfh fun t => t := (LC.sum yk8 yk9)
theorem ywK : LK yrs yrt 14 Tryz.f14 0 := lkN (u := y9t) yk7 ywJ
theorem yBA : EV yrs yrt 14 Tryz.f14 yyR y7d ykO YF := fun x => by kernel_rfl
def q14 : QF := ⟨14, YF, okN (n := 1) Tryz.func14 ⟨ywK, trivial⟩ yBA⟩
abbrev wo : Type := ycJ ⊕ ycK
def jd (k0 : yts → Option R) (k1 : ytt → Option R) (again : wo → Option R) : wo → Option R
 | .inl t4 => bif (decide (t4.1 > (0 : Int))) then Option.bind (zL (t4.2.2.1, t4.2.2.2.1, t4.2.2.2.2.1)) fun r5 => Option.bind (ZN (t4.2.2.2.2.2.1, t4.2.2.2.2.2.2.1, t4.2.2.2.2.2.2.2.1, t4.2.2.2.2.2.2.2.2.1, t4.2.2.2.2.2.2.2.2.2.2, t4.2.2.2.2.2.2.2.2.2.1, r5.1)) fun r6 => again (Sum.inr ((Go.IntKind.wrap .i64 (t4.1 - (1 : Int))), t4.2.1, r5.2.1, r5.2.2.1, r5.2.2.2, r6.1, r6.2.1, r6.2.2.1, r6.2.2.2.2.2.1, r6.2.2.2.1, r6.2.2.2.2.1)) else k0 (t4.2.1, t4.2.2.2.2.2)
 | .inr t4 => bif (decide (t4.1 > (0 : Int))) then Option.bind (zL (t4.2.2.1, t4.2.2.2.1, t4.2.2.2.2.1)) fun r7 => Option.bind (ZN (t4.2.2.2.2.2.1, t4.2.2.2.2.2.2.1, t4.2.2.2.2.2.2.2.1, t4.2.2.2.2.2.2.2.2.2.1, t4.2.2.2.2.2.2.2.2.2.2, t4.2.2.2.2.2.2.2.2.1, r7.1)) fun r8 => again (Sum.inr ((Go.IntKind.wrap .i64 (t4.1 - (1 : Int))), t4.2.1, r7.2.1, r7.2.2.1, r7.2.2.2, r8.1, r8.2.1, r8.2.2.1, r8.2.2.2.2.2.1, r8.2.2.2.1, r8.2.2.2.2.1)) else k1 (t4.2.1, t4.2.2.2.2.2)
def qr k0 k1 := zE (@jd R k0 k1) zW
def JX (x : List vu) : Option Qz9 :=
 Option.bind (kM x) fun r1 => Option.bind (Ji (x, (24 : Int))) fun r2 => Option.bind (Ju (r1.1, r1.2.1, r1.2.2, (Go.IntKind.wrap .i64 ((6 : Int) + r2)))) fun r3 => Option.bind (yc (r3.2.2.2.2.2.2.1, r3.2.2.2.2.2.2.2.1, r3.2.2.2.2.2.2.2.2, (3 : Int))) fun r4 => qr (fun x9 => some (x9.2.1, x9.2.2.1, x9.2.2.2.1, x9.2.2.2.2.1, x9.2.2.2.2.2.2, x9.2.2.2.2.2.1)) (fun x10 => some (x10.2.1, x10.2.2.1, x10.2.2.2.1, x10.2.2.2.2.2.1, x10.2.2.2.2.2.2, x10.2.2.2.2.1)) (Sum.inl (r4.1, (0 : Int), r4.2.1, r4.2.2.1, r4.2.2.2, r3.1, r3.2.1, r3.2.2.1, r3.2.2.2.1, r3.2.2.2.2.2.1, r3.2.2.2.2.1))
def yde : List QF := [q64, yyY, yyZ, y45, yzm, yz0]
def y2E (t : ycJ) : St := ⟨dd 2 (.box 2 0 :: .box 8500 0 :: .box 4 0 :: vI t.1 :: dd 21 []), [(2, .box [.nils, .nils, .nils, .nils, .nils, vI t.2.1]), (8500, .box [y3Y t.2.2.1, vI t.2.2.2.1, vI t.2.2.2.2.1]), (4, .box [z7 t.2.2.2.2.2.1, yu t.2.2.2.2.2.2.1, zk t.2.2.2.2.2.2.2.1, yN t.2.2.2.2.2.2.2.2.1, .own 10000000, vI t.2.2.2.2.2.2.2.2.2.1]), (10000000, .root true 46 yx t.2.2.2.2.2.2.2.2.2.2)]⟩
theorem yfi : ∀ s t, unG ymr y2E s = some t → y2E t = s := yr fun t => by kernel_rfl
def y2F (t : ycK) : St := ⟨dd 2 (.box 2 0 :: .box 8500 0 :: .box 4 0 :: vI t.1 :: dd 21 []), [(2, .box [.nils, .nils, .nils, .nils, .nils, vI t.2.1]), (8500, .box [y3Y t.2.2.1, vI t.2.2.2.1, vI t.2.2.2.2.1]), (4, .box [z7 t.2.2.2.2.2.1, yu t.2.2.2.2.2.2.1, zk t.2.2.2.2.2.2.2.1, .own 10000000, .own 10000001, vI t.2.2.2.2.2.2.2.2.1]), (10000000, .root true 113 ye t.2.2.2.2.2.2.2.2.2.1), (10000001, .root true 46 yx t.2.2.2.2.2.2.2.2.2.2)]⟩
theorem yfj : ∀ s t, unG yms y2F s = some t → y2F t = s := yr fun t => by kernel_rfl
def y2G : (ycJ ⊕ ycK) → St := Sum.elim y2E y2F
def y6J (s : St) : Option (ycJ ⊕ ycK) := ((unG ymr y2E s).map Sum.inl).or (((unG yms y2F) s).map Sum.inr)
theorem yfk : ∀ s t, y6J s = some t → y2G t = s := y3h yfi yfj
def yaC : Gk wo := fun κ => jd (fun t => κ (some 0) ⟨dd 2 (.box 2 0 :: .dead :: .box 4 0 :: dd 22 []), [(2, .box [.nils, .nils, .nils, .nils, .nils, vI t.1]), (4, .box [z7 t.2.1, yu t.2.2.1, zk t.2.2.2.1, yN t.2.2.2.2.1, .own 10000000, vI t.2.2.2.2.2.1]), (10000000, .root true 46 yx t.2.2.2.2.2.2)]⟩) (fun t => κ (some 0) ⟨dd 2 (.box 2 0 :: .dead :: .box 4 0 :: dd 22 []), [(2, .box [.nils, .nils, .nils, .nils, .nils, vI t.1]), (4, .box [z7 t.2.1, yu t.2.2.1, zk t.2.2.2.1, .own 10000000, .own 10000001, vI t.2.2.2.2.1]), (10000000, .root true 113 ye t.2.2.2.2.2.1), (10000001, .root true 46 yx t.2.2.2.2.2.2)]⟩)
def ydf : Lp := lpC 4 y6J @yaC lpN
theorem yfl : LF yde ydf 106 4 Tryz.f106 0 y2G @yaC fun v : ycJ => .inl v := fun R κ again v => by kernel_rfl
theorem yfm : LF yde ydf 106 4 Tryz.f106 0 y2G @yaC fun v : ycK => .inr v := fun R κ again v => by kernel_rfl
theorem yru : LF yde ydf 106 4 Tryz.f106 0 y2G @yaC fun t => t := (LC.sum yfl yfm)
theorem yrv : LK yde ydf 106 Tryz.f106 0 := lkN (u := y6J) yfk yru
theorem ywL : EV yde ydf 106 Tryz.f106 yoV [(.sl 5 Ym)] qz9 JX := fun x => by kernel_rfl
def yBB : QF := ⟨106, JX, okN (n := 1) Tryz.func106 ⟨yrv, trivial⟩ ywL⟩
def Z2 (x : List vu) : Option Qz9 :=
 Option.bind (JX x) fun r1 => some r1
theorem yBC : EV [yBB] lpN 16 Tryz.f16 yyS [(.sl 5 Ym)] qz9 Z2 := fun x => by kernel_rfl
def q16 : QF := ⟨16, Z2, okN (n := 0) Tryz.func16 trivial yBC⟩
abbrev kh : Type := ymt
def Zw (k0 : Bool → Option R) (k1 : Unit → Option R) (again : kh → Option R) (t4 : kh) : Option R :=
 bif (decide (t4.2.2 < (List.length t4.1 : Int))) then if (0 : Int) ≤ t4.2.2 then if t4.2.2 < (List.length t4.1 : Int) then if (0 : Int) ≤ t4.2.2 then if t4.2.2 < (List.length t4.2.1 : Int) then bif ((zC t4.1 t4.2.2) != (zC t4.2.1 t4.2.2)) then k0 false else again (t4.1, t4.2.1, (Go.IntKind.wrap .i64 (t4.2.2 + (1 : Int)))) else none else none else none else none else k1 ()
def Vq k0 k1 := zE (@Zw R k0 k1) zW
def J7 (x : ytu) : Option Bool :=
 bif ((List.length x.1 : Int) != (List.length x.2 : Int)) then some false else Vq (fun x1 => some x1) (fun x2 => some true) (x.1, x.2, (0 : Int))
def ywM : List QF := []
def y9u (t : ymt) : St := ⟨z7 t.1 :: z7 t.2.1 :: dd 3 (vI t.2.2 :: dd 20 []), []⟩
def yrw : Gk kh := fun κ => Zw (fun t => κ none ⟨dd 4 (vB t :: dd 21 []), []⟩) (fun t => κ (some 0) ⟨dd 26 [], []⟩)
def ywN : Lp := lpC 4 (unG ymu y9u) @yrw lpN
theorem ywO : LF ywM ywN 27 4 Tryz.f27 0 y9u @yrw fun t => t := fun R κ again t => by kernel_rfl
theorem ywP : LK ywM ywN 27 Tryz.f27 0 := lkN (u := (unG ymu y9u)) (yr fun t => by kernel_rfl) ywO
theorem yBD : EV ywM ywN 27 Tryz.f27 yyT ytv [.bool] J7 := fun x => by kernel_rfl
def q27 : QF := ⟨27, J7, okN (n := 1) Tryz.func27 ⟨ywP, trivial⟩ yBD⟩
abbrev ki : Type := ymv
def Zx (k0 : Bool → Option R) (k1 : Unit → Option R) (again : ki → Option R) (t4 : ki) : Option R :=
 bif (decide (t4.2.2 < (List.length t4.1 : Int))) then if (0 : Int) ≤ t4.2.2 then if t4.2.2 < (List.length t4.1 : Int) then if (0 : Int) ≤ t4.2.2 then if t4.2.2 < (List.length t4.2.1 : Int) then bif (!(((y8 t4.1 t4.2.2).1 == (y8 t4.2.1 t4.2.2).1) && (((y8 t4.1 t4.2.2).2.1 == (y8 t4.2.1 t4.2.2).2.1) && (((y8 t4.1 t4.2.2).2.2.1 == (y8 t4.2.1 t4.2.2).2.2.1) && (((y8 t4.1 t4.2.2).2.2.2.1 == (y8 t4.2.1 t4.2.2).2.2.2.1) && (((y8 t4.1 t4.2.2).2.2.2.2 == (y8 t4.2.1 t4.2.2).2.2.2.2) && true)))))) then k0 false else again (t4.1, t4.2.1, (Go.IntKind.wrap .i64 (t4.2.2 + (1 : Int)))) else none else none else none else none else k1 ()
def Vr k0 k1 := zE (@Zx R k0 k1) zW
def J8 (x : ysK) : Option Bool :=
 bif ((List.length x.1 : Int) != (List.length x.2 : Int)) then some false else Vr (fun x1 => some x1) (fun x2 => some true) (x.1, x.2, (0 : Int))
def yka : List QF := []
def y6K (t : ymv) : St := ⟨VN t.1 :: VN t.2.1 :: dd 3 (vI t.2.2 :: dd 20 []), []⟩
def yht : Gk ki := fun κ => Zx (fun t => κ none ⟨dd 4 (vB t :: dd 21 []), []⟩) (fun t => κ (some 0) ⟨dd 26 [], []⟩)
def ykb : Lp := lpC 4 (unG ymw y6K) @yht lpN
theorem yrx : LF yka ykb 311 4 Tryz.f311 0 y6K @yht fun t => t := fun R κ again t => by kernel_rfl
theorem yry : LK yka ykb 311 Tryz.f311 0 := lkN (u := (unG ymw y6K)) (yr fun t => by kernel_rfl) yrx
theorem ywQ : EV yka ykb 311 Tryz.f311 yoW ysL [.bool] J8 := fun x => by kernel_rfl
def yBE : QF := ⟨311, J8, okN (n := 1) Tryz.func311 ⟨yry, trivial⟩ ywQ⟩
abbrev kj : Type := yhZ
def Zy (k0 : Bool → Option R) (k1 : Unit → Option R) (again : kj → Option R) (t4 : kj) : Option R :=
 bif (decide (t4.1 < (List.length t4.2.1 : Int))) then if (0 : Int) ≤ t4.1 then if t4.1 < (List.length t4.2.1 : Int) then if (0 : Int) ≤ t4.1 then if t4.1 < (List.length t4.2.2 : Int) then Option.bind (J8 ((yp t4.2.1 t4.1), (yp t4.2.2 t4.1))) fun r1 => bif (!r1) then k0 false else again ((Go.IntKind.wrap .i64 (t4.1 + (1 : Int))), t4.2.1, t4.2.2) else none else none else none else none else k1 ()
def Vs k0 k1 := zE (@Zy R k0 k1) zW
def J9 (x : ytw) : Option Bool :=
 bif ((List.length x.1 : Int) != (List.length x.2 : Int)) then some false else Vs (fun x2 => some x2) (fun x3 => some true) ((0 : Int), x.1, x.2)
def ykc : List QF := [yBE]
def y6L (t : yhZ) : St := ⟨dd 2 (.box 2 0 :: .box 3 0 :: .dead :: vI t.1 :: dd 26 []), [(2, .box [Yj t.2.1]), (3, .box [Yj t.2.2])]⟩
def yhu : Gk kj := fun κ => Zy (fun t => κ none ⟨dd 4 (vB t :: dd 27 []), []⟩) (fun t => κ (some 0) ⟨dd 32 [], []⟩)
def ykd : Lp := lpC 4 (unG ys4 y6L) @yhu lpN
theorem yrz : LF ykc ykd 237 4 Tryz.f237 0 y6L @yhu fun t => t := fun R κ again t => by kernel_rfl
theorem yrA : LK ykc ykd 237 Tryz.f237 0 := lkN (u := (unG ys4 y6L)) (yr fun t => by kernel_rfl) yrz
theorem ywR : EV ykc ykd 237 Tryz.f237 yoX ytx [.bool] J9 := fun x => by kernel_rfl
def yBF : QF := ⟨237, J9, okN (n := 1) Tryz.func237 ⟨yrA, trivial⟩ ywR⟩
abbrev kl : Type := yi0
def Zz (k0 : Bool → Option R) (k1 : Unit → Option R) (again : kl → Option R) (t4 : kl) : Option R :=
 bif (decide (t4.1 < (List.length t4.2.2.1 : Int))) then if (0 : Int) ≤ t4.1 then if t4.1 < (List.length t4.2.2.1 : Int) then if (0 : Int) ≤ t4.1 then if t4.1 < (List.length t4.2.2.2.2 : Int) then Option.bind (J9 ((yg t4.2.2.1 t4.1), (yg t4.2.2.2.2 t4.1))) fun r3 => bif (!r3) then k0 false else again ((Go.IntKind.wrap .i64 (t4.1 + (1 : Int))), t4.2.1, t4.2.2.1, t4.2.2.2.1, t4.2.2.2.2) else none else none else none else none else k1 ()
def Vt k0 k1 := zE (@Zz R k0 k1) zW
def Ja (x : yty) : Option Bool :=
 Option.bind (J7 (x.1, x.2.2.1)) fun r1 => Option.bind (bif (!r1) then some true else some ((List.length x.2.1 : Int) != (List.length x.2.2.2 : Int))) fun u2 => bif u2 then some false else Vt (fun x4 => some x4) (fun x5 => some true) ((0 : Int), x.1, x.2.1, x.2.2.1, x.2.2.2)
def yke : List QF := [q27, yBF]
def y6M (t : yi0) : St := ⟨dd 2 (.box 2 0 :: .box 3 0 :: .dead :: vI t.1 :: dd 34 []), [(2, .box [z7 t.2.1, yu t.2.2.1]), (3, .box [z7 t.2.2.2.1, yu t.2.2.2.2])]⟩
def yhv : Gk kl := fun κ => Zz (fun t => κ none ⟨dd 4 (vB t :: dd 35 []), []⟩) (fun t => κ (some 0) ⟨dd 40 [], []⟩)
def ykf : Lp := lpC 4 (unG ys5 y6M) @yhv lpN
theorem yrB : LF yke ykf 107 4 Tryz.f107 0 y6M @yhv fun t => t := fun R κ again t => by kernel_rfl
theorem yrC : LK yke ykf 107 Tryz.f107 0 := lkN (u := (unG ys5 y6M)) (yr fun t => by kernel_rfl) yrB
theorem ywS : EV yke ykf 107 Tryz.f107 yoY ytz [.bool] Ja := fun x => by kernel_rfl
def yBG : QF := ⟨107, Ja, okN (n := 1) Tryz.func107 ⟨yrC, trivial⟩ ywS⟩
abbrev km : Type := ymx
def ZA (k0 : Bool → Option R) (k1 : Unit → Option R) (again : km → Option R) (t4 : km) : Option R :=
 bif (decide (t4.2.2 < (List.length t4.1 : Int))) then if (0 : Int) ≤ t4.2.2 then if t4.2.2 < (List.length t4.1 : Int) then if (0 : Int) ≤ t4.2.2 then if t4.2.2 < (List.length t4.2.1 : Int) then bif (!(((yK t4.1 t4.2.2).1 == (yK t4.2.1 t4.2.2).1) && (((yK t4.1 t4.2.2).2 == (yK t4.2.1 t4.2.2).2) && true))) then k0 false else again (t4.1, t4.2.1, (Go.IntKind.wrap .i64 (t4.2.2 + (1 : Int)))) else none else none else none else none else k1 ()
def Vu k0 k1 := zE (@ZA R k0 k1) zW
def Jb (x : ytA) : Option Bool :=
 bif ((List.length x.1 : Int) != (List.length x.2 : Int)) then some false else Vu (fun x1 => some x1) (fun x2 => some true) (x.1, x.2, (0 : Int))
def ykg : List QF := []
def y6N (t : ymx) : St := ⟨zk t.1 :: zk t.2.1 :: dd 3 (vI t.2.2 :: dd 20 []), []⟩
def yhw : Gk km := fun κ => ZA (fun t => κ none ⟨dd 4 (vB t :: dd 21 []), []⟩) (fun t => κ (some 0) ⟨dd 26 [], []⟩)
def ykh : Lp := lpC 4 (unG ymy y6N) @yhw lpN
theorem yrD : LF ykg ykh 108 4 Tryz.f108 0 y6N @yhw fun t => t := fun R κ again t => by kernel_rfl
theorem yrE : LK ykg ykh 108 Tryz.f108 0 := lkN (u := (unG ymy y6N)) (yr fun t => by kernel_rfl) yrD
theorem ywT : EV ykg ykh 108 Tryz.f108 yoZ ytB [.bool] Jb := fun x => by kernel_rfl
def yBH : QF := ⟨108, Jb, okN (n := 1) Tryz.func108 ⟨yrE, trivial⟩ ywT⟩
abbrev WG : Type := ymz
def Z3 (k0 : Bool → Option R) (k1 : Unit → Option R) (again : WG → Option R) (t4 : WG) : Option R :=
 bif (decide (t4.2.2 < (List.length t4.1 : Int))) then if (0 : Int) ≤ t4.2.2 then if t4.2.2 < (List.length t4.1 : Int) then if (0 : Int) ≤ t4.2.2 then if t4.2.2 < (List.length t4.2.1 : Int) then bif (!(((yj t4.1 t4.2.2).1 == (yj t4.2.1 t4.2.2).1) && (((yj t4.1 t4.2.2).2.1 == (yj t4.2.1 t4.2.2).2.1) && (((yj t4.1 t4.2.2).2.2 == (yj t4.2.1 t4.2.2).2.2) && true)))) then k0 false else again (t4.1, t4.2.1, (Go.IntKind.wrap .i64 (t4.2.2 + (1 : Int)))) else none else none else none else none else k1 ()
def vN k0 k1 := zE (@Z3 R k0 k1) zW
def je (x : ytC) : Option Bool :=
 bif ((List.length x.1 : Int) != (List.length x.2 : Int)) then some false else vN (fun x1 => some x1) (fun x2 => some true) (x.1, x.2, (0 : Int))
def yki : List QF := []
def y6O (t : ymz) : St := ⟨yN t.1 :: yN t.2.1 :: dd 3 (vI t.2.2 :: dd 20 []), []⟩
def yhx : Gk WG := fun κ => Z3 (fun t => κ none ⟨dd 4 (vB t :: dd 21 []), []⟩) (fun t => κ (some 0) ⟨dd 26 [], []⟩)
def ykj : Lp := lpC 4 (unG ymA y6O) @yhx lpN
theorem yrF : LF yki ykj 109 4 Tryz.f109 0 y6O @yhx fun t => t := fun R κ again t => by kernel_rfl
theorem yrG : LK yki ykj 109 Tryz.f109 0 := lkN (u := (unG ymA y6O)) (yr fun t => by kernel_rfl) yrF
theorem ywU : EV yki ykj 109 Tryz.f109 yp0 ytD [.bool] je := fun x => by kernel_rfl
def yBI : QF := ⟨109, je, okN (n := 1) Tryz.func109 ⟨yrG, trivial⟩ ywU⟩
abbrev kn : Type := ymB
def ZB (k0 : Bool → Option R) (k1 : Unit → Option R) (again : kn → Option R) (t4 : kn) : Option R :=
 bif (decide (t4.1 < (List.length t4.2.2.2.2.2.1 : Int))) then if (0 : Int) ≤ t4.1 then if t4.1 < (List.length t4.2.2.2.2.2.1 : Int) then if (0 : Int) ≤ t4.1 then if t4.1 < (List.length t4.2.2.2.2.2.2.2.2.2.2.2.1 : Int) then bif (!((ByteArray.toList ((yq t4.2.2.2.2.2.1 t4.1).1) == ByteArray.toList ((yq t4.2.2.2.2.2.2.2.2.2.2.2.1 t4.1).1)) && (((yq t4.2.2.2.2.2.1 t4.1).2.1 == (yq t4.2.2.2.2.2.2.2.2.2.2.2.1 t4.1).2.1) && (((yq t4.2.2.2.2.2.1 t4.1).2.2.1 == (yq t4.2.2.2.2.2.2.2.2.2.2.2.1 t4.1).2.2.1) && (((yq t4.2.2.2.2.2.1 t4.1).2.2.2 == (yq t4.2.2.2.2.2.2.2.2.2.2.2.1 t4.1).2.2.2) && true))))) then k0 false else again ((Go.IntKind.wrap .i64 (t4.1 + (1 : Int))), t4.2.1, t4.2.2.1, t4.2.2.2.1, t4.2.2.2.2.1, t4.2.2.2.2.2.1, t4.2.2.2.2.2.2.1, t4.2.2.2.2.2.2.2.1, t4.2.2.2.2.2.2.2.2.1, t4.2.2.2.2.2.2.2.2.2.1, t4.2.2.2.2.2.2.2.2.2.2.1, t4.2.2.2.2.2.2.2.2.2.2.2.1, t4.2.2.2.2.2.2.2.2.2.2.2.2) else none else none else none else none else k1 ()
def ko k0 k1 := zE (@ZB R k0 k1) zW
def YG (x : ymD) : Option Bool :=
 Option.bind (Ja (x.1, x.2.1, x.2.2.2.2.2.2.1, x.2.2.2.2.2.2.2.1)) fun r1 => Option.bind (bif (!r1) then some true else Option.bind (Jb (x.2.2.1, x.2.2.2.2.2.2.2.2.1)) fun r3 => some (!r3)) fun u2 => Option.bind (bif u2 then some true else Option.bind (je (x.2.2.2.1, x.2.2.2.2.2.2.2.2.2.1)) fun r5 => some (!r5)) fun u4 => Option.bind (bif u4 then some true else some ((List.length x.2.2.2.2.1 : Int) != (List.length x.2.2.2.2.2.2.2.2.2.2.1 : Int))) fun u6 => Option.bind (bif u6 then some true else some (x.2.2.2.2.2.1 != x.2.2.2.2.2.2.2.2.2.2.2)) fun u7 => bif u7 then some false else ko (fun x8 => some x8) (fun x9 => some true) ((0 : Int), x.1, x.2.1, x.2.2.1, x.2.2.2.1, x.2.2.2.2.1, x.2.2.2.2.2.1, x.2.2.2.2.2.2.1, x.2.2.2.2.2.2.2.1, x.2.2.2.2.2.2.2.2.1, x.2.2.2.2.2.2.2.2.2.1, x.2.2.2.2.2.2.2.2.2.2.1, x.2.2.2.2.2.2.2.2.2.2.2)
def ywV : List QF := [yBG, yBH, yBI]
def y9v (t : ymB) : St := ⟨dd 2 (.box 2 0 :: .box 3 0 :: .dead :: vI t.1 :: dd 56 []), [(2, .box [z7 t.2.1, yu t.2.2.1, zk t.2.2.2.1, yN t.2.2.2.2.1, Y3 t.2.2.2.2.2.1, vI t.2.2.2.2.2.2.1]), (3, .box [z7 t.2.2.2.2.2.2.2.1, yu t.2.2.2.2.2.2.2.2.1, zk t.2.2.2.2.2.2.2.2.2.1, yN t.2.2.2.2.2.2.2.2.2.2.1, Y3 t.2.2.2.2.2.2.2.2.2.2.2.1, vI t.2.2.2.2.2.2.2.2.2.2.2.2])]⟩
def yrH : Gk kn := fun κ => ZB (fun t => κ none ⟨dd 4 (vB t :: dd 57 []), []⟩) (fun t => κ (some 0) ⟨dd 62 [], []⟩)
def ywW : Lp := lpC 4 (unG ymC y9v) @yrH lpN
theorem ywX : LF ywV ywW 17 4 Tryz.f17 0 y9v @yrH fun t => t := fun R κ again t => by kernel_rfl
theorem ywY : LK ywV ywW 17 Tryz.f17 0 := lkN (u := (unG ymC y9v)) (yr fun t => by kernel_rfl) ywX
theorem yBJ : EV ywV ywW 17 Tryz.f17 yyU ytE [.bool] YG := fun x => by kernel_rfl
def q17 : QF := ⟨17, YG, okN (n := 1) Tryz.func17 ⟨ywY, trivial⟩ yBJ⟩
abbrev Jy : Type := ygq
def Jz (k0 : Int → Option R) (k1 : Unit → Option R) (again : Jy → Option R) (t2 : Jy) : Option R :=
 bif (decide (t2.2 ≥ (0 : Int))) then if (0 : Int) ≤ t2.2 then if t2.2 < (List.length t2.1 : Int) then bif (yj t2.1 t2.2).2.1 then k0 t2.2 else again (t2.1, (Go.IntKind.wrap .i64 (t2.2 - (1 : Int)))) else none else none else k1 ()
def Vv k0 k1 := zE (@Jz R k0 k1) zW
def ZC (x : List y9) : Option Int :=
 Vv (fun x1 => some x1) (fun x2 => some (-1 : Int)) (x, (Go.IntKind.wrap .i64 ((List.length x : Int) - (1 : Int))))
def ykk : List QF := []
def y6P (t : ygq) : St := ⟨yN t.1 :: dd 2 (vI t.2 :: dd 13 []), []⟩
def yhy : Gk Jy := fun κ => Jz (fun t => κ none ⟨dd 2 (vI t :: dd 14 []), []⟩) (fun t => κ (some 0) ⟨dd 17 [], []⟩)
def ykl : Lp := lpC 2 (unG ygr y6P) @yhy lpN
theorem yrI : LF ykk ykl 110 2 Tryz.f110 0 y6P @yhy fun t => t := fun R κ again t => by kernel_rfl
theorem yrJ : LK ykk ykl 110 Tryz.f110 0 := lkN (u := (unG ygr y6P)) (yr fun t => by kernel_rfl) yrI
theorem ywZ : EV ykk ykl 110 Tryz.f110 yp1 [(.sl 113 ye)] [(.int .i64)] ZC := fun x => by kernel_rfl
def yBK : QF := ⟨110, ZC, okN (n := 1) Tryz.func110 ⟨yrJ, trivial⟩ ywZ⟩
abbrev K9 : Type := y9k ⊕ ycL
def jg (k0 : ybB → Option R) (k1 : ymF → Option R) (k2 : ytF → Option R) (again : K9 → Option R) : K9 → Option R
 | .inl t3 => bif (decide (t3.1 < (24 : Int))) then Option.bind (ZC t3.2.2.2.2.2.2.1) fun r2 => Option.bind (YF (t3.2.2.2.1, t3.2.2.2.2.1, t3.2.2.2.2.2.1, t3.2.2.2.2.2.2.1, t3.2.2.2.2.2.2.2, t3.2.2.1, r2)) fun r3 => bif (!r3.2.2.2.2.2.2) then k0 (t3.2.1, t3.2.2.2.1, t3.2.2.2.2.1, t3.2.2.2.2.2.1, t3.2.2.2.2.2.2.1, t3.2.2.2.2.2.2.2, t3.2.2.1) else again (Sum.inr ((Go.IntKind.wrap .i64 (t3.1 + (1 : Int))), t3.2.1, r3.1, r3.2.1, r3.2.2.2.2.2.1, r3.2.2.1, r3.2.2.2.1, r3.2.2.2.2.1)) else k1 t3.2
 | .inr t3 => bif (decide (t3.1 < (24 : Int))) then Option.bind (ZC t3.2.2.2.2.2.2.1) fun r4 => Option.bind (YF (t3.2.2.1, t3.2.2.2.1, t3.2.2.2.2.2.1, t3.2.2.2.2.2.2.1, t3.2.2.2.2.2.2.2, t3.2.2.2.2.1, r4)) fun r5 => bif (!r5.2.2.2.2.2.2) then k0 (t3.2.1, t3.2.2.1, t3.2.2.2.1, t3.2.2.2.2.2.1, t3.2.2.2.2.2.2.1, t3.2.2.2.2.2.2.2, t3.2.2.2.2.1) else again (Sum.inr ((Go.IntKind.wrap .i64 (t3.1 + (1 : Int))), t3.2.1, r5.1, r5.2.1, r5.2.2.2.2.2.1, r5.2.2.1, r5.2.2.2.1, r5.2.2.2.2.1)) else k2 t3.2
def qs k0 k1 k2 := zE (@jg R k0 k1 k2) zW
def JY (x : Qz9) : Option Qz9 :=
 Option.bind (yY x) fun r1 => qs (fun x6 => some x6.2) (fun x7 => some (x7.2.2.1, x7.2.2.2.1, x7.2.2.2.2.1, x7.2.2.2.2.2.1, x7.2.2.2.2.2.2, x7.2.1)) (fun x8 => some (x8.2.1, x8.2.2.1, x8.2.2.2.2.1, x8.2.2.2.2.2.1, x8.2.2.2.2.2.2, x8.2.2.2.1)) (Sum.inl ((0 : Int), (0 : Int), r1.2.2.2.2.2, r1.1, r1.2.1, r1.2.2.1, r1.2.2.2.1, r1.2.2.2.2.1))
def yrK : List QF := [q14, q91, yBK]
def y6Q (t : y9k) : St := ⟨dd 2 (.box 2 0 :: .box 3 0 :: dd 4 (vI t.1 :: dd 14 [])), [(2, .box [.nils, .nils, .nils, .nils, .nils, vI t.2.1]), (3, .box [.own 10000000, .own 10000001, .own 10000002, .own 10000003, .own 10000004, vI t.2.2.1]), (10000000, .root true 3 yi t.2.2.2.1), (10000001, .root true 140 yh t.2.2.2.2.1), (10000002, .root true 146 yo t.2.2.2.2.2.1), (10000003, .root true 113 ye t.2.2.2.2.2.2.1), (10000004, .root true 46 yx t.2.2.2.2.2.2.2)]⟩
theorem ykm : ∀ s t, unG yez y6Q s = some t → y6Q t = s := yr fun t => by kernel_rfl
def y6R (t : ycL) : St := ⟨dd 2 (.box 2 0 :: .box 3 0 :: dd 4 (vI t.1 :: dd 14 [])), [(2, .box [.nils, .nils, .nils, .nils, .nils, vI t.2.1]), (3, .box [z7 t.2.2.1, yu t.2.2.2.1, .own 10000000, .own 10000001, .own 10000002, vI t.2.2.2.2.1]), (10000000, .root true 146 yo t.2.2.2.2.2.1), (10000001, .root true 113 ye t.2.2.2.2.2.2.1), (10000002, .root true 46 yx t.2.2.2.2.2.2.2)]⟩
theorem ykn : ∀ s t, unG ymE y6R s = some t → y6R t = s := yr fun t => by kernel_rfl
def y6S : (y9k ⊕ ycL) → St := Sum.elim y6Q y6R
def y9w (s : St) : Option (y9k ⊕ ycL) := ((unG yez y6Q s).map Sum.inl).or (((unG ymE y6R) s).map Sum.inr)
theorem yko : ∀ s t, y9w s = some t → y6S t = s := y3h ykm ykn
def yfn : Gk K9 := fun κ => jg (fun t => κ (some 0) ⟨dd 2 (.box 2 0 :: .box 3 0 :: dd 19 []), [(2, .box [.nils, .nils, .nils, .nils, .nils, vI t.1]), (3, .box [z7 t.2.1, yu t.2.2.1, zk t.2.2.2.1, yN t.2.2.2.2.1, Y3 t.2.2.2.2.2.1, vI t.2.2.2.2.2.2])]⟩) (fun t => κ (some 0) ⟨dd 2 (.box 2 0 :: .box 3 0 :: dd 19 []), [(2, .box [.nils, .nils, .nils, .nils, .nils, vI t.1]), (3, .box [.own 10000000, .own 10000001, .own 10000002, .own 10000003, .own 10000004, vI t.2.1]), (10000000, .root true 3 yi t.2.2.1), (10000001, .root true 140 yh t.2.2.2.1), (10000002, .root true 146 yo t.2.2.2.2.1), (10000003, .root true 113 ye t.2.2.2.2.2.1), (10000004, .root true 46 yx t.2.2.2.2.2.2)]⟩) (fun t => κ (some 0) ⟨dd 2 (.box 2 0 :: .box 3 0 :: dd 19 []), [(2, .box [.nils, .nils, .nils, .nils, .nils, vI t.1]), (3, .box [z7 t.2.1, yu t.2.2.1, .own 10000000, .own 10000001, .own 10000002, vI t.2.2.2.1]), (10000000, .root true 146 yo t.2.2.2.2.1), (10000001, .root true 113 ye t.2.2.2.2.2.1), (10000002, .root true 46 yx t.2.2.2.2.2.2)]⟩)
def yrL : Lp := lpC 3 y9w @yfn lpN
theorem ykp : LF yrK yrL 18 3 Tryz.f18 0 y6S @yfn fun v : y9k => .inl v := fun R κ again v => by kernel_rfl
theorem ykq : LF yrK yrL 18 3 Tryz.f18 0 y6S @yfn fun v : ycL => .inr v := fun R κ again v => by kernel_rfl
theorem yx0 : LF yrK yrL 18 3 Tryz.f18 0 y6S @yfn fun t => t := (LC.sum ykp ykq)
theorem yx1 : LK yrK yrL 18 Tryz.f18 0 := lkN (u := y9w) yko yx0
theorem yBL : EV yrK yrL 18 Tryz.f18 yyV qz9 qz9 JY := fun x => by kernel_rfl
def q18 : QF := ⟨18, JY, okN (n := 1) Tryz.func18 ⟨yx1, trivial⟩ yBL⟩
abbrev wq : Type := ybB
def ws (k0 : Int → Option R) (again : wq → Option R) (t2 : wq) : Option R :=
 Option.bind (bif (decide (t2.1 ≥ (0 : Int))) then if (0 : Int) ≤ t2.1 then if t2.1 < (List.length t2.2.2.2.2.1 : Int) then some (!((yj t2.2.2.2.2.1 t2.1).2.1)) else none else none else some false) fun u1 => bif u1 then again ((Go.IntKind.wrap .i64 (t2.1 - (1 : Int))), t2.2.1, t2.2.2.1, t2.2.2.2.1, t2.2.2.2.2.1, t2.2.2.2.2.2.1, t2.2.2.2.2.2.2) else k0 t2.1
def qt k0 := zE (@ws R k0) zW
def JZ (x : Qz9) : Option Int :=
 qt (fun x2 => some x2) ((Go.IntKind.wrap .i64 ((List.length x.2.2.2.1 : Int) - (1 : Int))), x.1, x.2.1, x.2.2.1, x.2.2.2.1, x.2.2.2.2.1, x.2.2.2.2.2)
def ykr : List QF := []
def y6T (t : ybB) : St := ⟨.dead :: .box 1 0 :: .dead :: vI t.1 :: dd 18 [], [(1, .box [z7 t.2.1, yu t.2.2.1, zk t.2.2.2.1, yN t.2.2.2.2.1, Y3 t.2.2.2.2.2.1, vI t.2.2.2.2.2.2])]⟩
def yhz : Gk wq := fun κ => ws (fun t => κ (some 0) ⟨dd 3 (vI t :: dd 18 []), []⟩)
def yks : Lp := lpC 2 (unG ygs y6T) @yhz lpN
theorem yrM : LF ykr yks 111 2 Tryz.f111 0 y6T @yhz fun t => t := fun R κ again t => by kernel_rfl
theorem yrN : LK ykr yks 111 Tryz.f111 0 := lkN (u := (unG ygs y6T)) (yr fun t => by kernel_rfl) yrM
theorem yx2 : EV ykr yks 111 Tryz.f111 yp2 qz9 [(.int .i64)] JZ := fun x => by kernel_rfl
def yBM : QF := ⟨111, JZ, okN (n := 1) Tryz.func111 ⟨yrN, trivial⟩ yx2⟩
abbrev Ka : Type := y9k
def wu (k0 : ymD → Option R) (k1 : ymF → Option R) (again : Ka → Option R) (t3 : Ka) : Option R :=
 bif (decide (t3.1 < (24 : Int))) then Option.bind (JZ (t3.2.2.2.1, t3.2.2.2.2.1, t3.2.2.2.2.2.1, t3.2.2.2.2.2.2.1, t3.2.2.2.2.2.2.2, t3.2.2.1)) fun r2 => Option.bind (zs (t3.2.2.2.1, t3.2.2.2.2.1, t3.2.2.2.2.2.1, t3.2.2.2.2.2.2.1, t3.2.2.2.2.2.2.2, t3.2.2.1, r2)) fun r3 => bif (!r3.2.2.2.2.2.2) then k0 (t3.2.2.2.1, t3.2.2.2.2.1, t3.2.2.2.2.2.1, t3.2.2.2.2.2.2.1, t3.2.2.2.2.2.2.2, t3.2.2.1, t3.2.2.2.1, t3.2.2.2.2.1, t3.2.2.2.2.2.1, t3.2.2.2.2.2.2.1, t3.2.2.2.2.2.2.2, t3.2.2.1) else again ((Go.IntKind.wrap .i64 (t3.1 + (1 : Int))), t3.2.1, r3.2.2.2.2.2.1, r3.1, r3.2.1, r3.2.2.1, r3.2.2.2.1, r3.2.2.2.2.1) else k1 t3.2
def qu k0 k1 := zE (@wu R k0 k1) zW
def w7 (x : Qz9) : Option Qz9 :=
 Option.bind (yl x) fun r1 => qu (fun x4 => some (x4.1, x4.2.1, x4.2.2.1, x4.2.2.2.1, x4.2.2.2.2.1, x4.2.2.2.2.2.1)) (fun x5 => some (x5.2.2.1, x5.2.2.2.1, x5.2.2.2.2.1, x5.2.2.2.2.2.1, x5.2.2.2.2.2.2, x5.2.1)) ((0 : Int), (0 : Int), r1.2.2.2.2.2, r1.1, r1.2.1, r1.2.2.1, r1.2.2.2.1, r1.2.2.2.2.1)
def yx3 : List QF := [q15, q94, yBM]
def y9x (t : y9k) : St := ⟨dd 2 (.box 2 0 :: .box 3 0 :: vI t.1 :: dd 20 []), [(2, .box [.nils, .nils, .nils, .nils, .nils, vI t.2.1]), (3, .box [.own 10000000, .own 10000001, .own 10000002, .own 10000003, .own 10000004, vI t.2.2.1]), (10000000, .root true 3 yi t.2.2.2.1), (10000001, .root true 140 yh t.2.2.2.2.1), (10000002, .root true 146 yo t.2.2.2.2.2.1), (10000003, .root true 113 ye t.2.2.2.2.2.2.1), (10000004, .root true 46 yx t.2.2.2.2.2.2.2)]⟩
def yrO : Gk Ka := fun κ => wu (fun t => κ none ⟨dd 2 (.box 2 0 :: .box 3 0 :: dd 21 []), [(2, .box [z7 t.1, yu t.2.1, zk t.2.2.1, yN t.2.2.2.1, Y3 t.2.2.2.2.1, vI t.2.2.2.2.2.1]), (3, .box [z7 t.2.2.2.2.2.2.1, yu t.2.2.2.2.2.2.2.1, zk t.2.2.2.2.2.2.2.2.1, yN t.2.2.2.2.2.2.2.2.2.1, Y3 t.2.2.2.2.2.2.2.2.2.2.1, vI t.2.2.2.2.2.2.2.2.2.2.2])]⟩) (fun t => κ (some 0) ⟨dd 2 (.box 2 0 :: .box 3 0 :: dd 21 []), [(2, .box [.nils, .nils, .nils, .nils, .nils, vI t.1]), (3, .box [.own 10000000, .own 10000001, .own 10000002, .own 10000003, .own 10000004, vI t.2.1]), (10000000, .root true 3 yi t.2.2.1), (10000001, .root true 140 yh t.2.2.2.1), (10000002, .root true 146 yo t.2.2.2.2.1), (10000003, .root true 113 ye t.2.2.2.2.2.1), (10000004, .root true 46 yx t.2.2.2.2.2.2)]⟩)
def yx4 : Lp := lpC 3 (unG yez y9x) @yrO lpN
theorem yx5 : LF yx3 yx4 19 3 Tryz.f19 0 y9x @yrO fun t => t := fun R κ again t => by kernel_rfl
theorem yx6 : LK yx3 yx4 19 Tryz.f19 0 := lkN (u := (unG yez y9x)) (yr fun t => by kernel_rfl) yx5
theorem yBN : EV yx3 yx4 19 Tryz.f19 yyW qz9 qz9 w7 := fun x => by kernel_rfl
def q19 : QF := ⟨19, w7, okN (n := 1) Tryz.func19 ⟨yx6, trivial⟩ yBN⟩
def zN (x : List vu) : Option Bool :=
 Option.bind (QG x) fun r1 => bif r1 then some true else Option.bind (YC x) fun r2 => Option.bind (J4 r2) fun r3 => Option.bind (zI r2) fun r4 => Option.bind (YE x) fun r5 => Option.bind (YF r5) fun r6 => Option.bind (zs r5) fun r7 => Option.bind (Z2 x) fun r8 => Option.bind (bif (r3.2.2.2.2.2.2 == r4.2.2.2.2.2.2) then Option.bind (YG (r3.1, r3.2.1, r3.2.2.1, r3.2.2.2.1, r3.2.2.2.2.1, r3.2.2.2.2.2.1, r4.1, r4.2.1, r4.2.2.1, r4.2.2.2.1, r4.2.2.2.2.1, r4.2.2.2.2.2.1)) fun r10 => some r10 else some false) fun u9 => Option.bind (bif u9 then some (r6.2.2.2.2.2.2 == r7.2.2.2.2.2.2) else some false) fun u11 => Option.bind (bif u11 then Option.bind (YG (r6.1, r6.2.1, r6.2.2.1, r6.2.2.2.1, r6.2.2.2.2.1, r6.2.2.2.2.2.1, r7.1, r7.2.1, r7.2.2.1, r7.2.2.2.1, r7.2.2.2.2.1, r7.2.2.2.2.2.1)) fun r13 => some r13 else some false) fun u12 => bif u12 then Option.bind (JY r8) fun r14 => Option.bind (w7 r8) fun r15 => Option.bind (YG (r14.1, r14.2.1, r14.2.2.1, r14.2.2.2.1, r14.2.2.2.2.1, r14.2.2.2.2.2, r15)) fun r16 => some r16 else some false
theorem ev3 : EV [q9, q10, q11, q12, q13, q14, q15, q16, q17, q18, q19] lpN 3 Tryz.f3 sg3 [(.sl 5 Ym)] [.bool] zN := fun x => by kernel_rfl
def q3 : QF := ⟨3, zN, okN (n := 0) Tryz.func3 trivial ev3⟩
end
end Go.Proofs.YthgdjjdigalckaaGreat.XT
