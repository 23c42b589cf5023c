/- What functions compute, and that they do; part 0 of N; by a program (dec.py). No condition. -/
import Derived.Test.YtmapoakbdgpamaaGreatXN
set_option linter.all false
namespace Go.Proofs.YtmapoakbdgpamaaGreat.XN
open Go.Proofs.YtmapoakbdgpamaaGreat.R
set_option maxRecDepth 100000
noncomputable section
variable {R : Type}
abbrev KQ : Type := Qz0 ⊕ Qz1
def Yb (k0 : Unit → Option R) (k1 : List y9 → Option R) (again : KQ → Option R) : KQ → Option R
 | .inl t3 => bif (decide (t3.1 < (List.length t3.2 : Int))) then if (0 : Int) ≤ t3.1 then if t3.1 < (List.length t3.2 : Int) then if (List.length ([] : List ya) + List.length (yh t3.2 t3.1)) * 40 < 140737488355328 then if List.length ([(([] : List ya) ++ (yh t3.2 t3.1))] : List y9) * 24 < 140737488355328 then again (Sum.inr ((Go.IntKind.wrap .i64 (t3.1 + (1 : Int))), t3.2, ([(([] : List ya) ++ (yh t3.2 t3.1))] : List y9))) else none else none else none else none else k0 ()
 | .inr t3 => bif (decide (t3.1 < (List.length t3.2.1 : Int))) then if (0 : Int) ≤ t3.1 then if t3.1 < (List.length t3.2.1 : Int) then if (List.length ([] : List ya) + List.length (yh t3.2.1 t3.1)) * 40 < 140737488355328 then if (List.length t3.2.2 + List.length ([(([] : List ya) ++ (yh t3.2.1 t3.1))] : List y9)) * 24 < 140737488355328 then again (Sum.inr ((Go.IntKind.wrap .i64 (t3.1 + (1 : Int))), t3.2.1, (t3.2.2 ++ ([(([] : List ya) ++ (yh t3.2.1 t3.1))] : List y9)))) else none else none else none else none else k1 t3.2.2
def qZ k0 k1 := z6 (@Yb R k0 k1) zd
def Zr (x : List y9) : Option (List y9) :=
 qZ (fun x1 => some ([] : List y9)) (fun x2 => some x2) (Sum.inl ((0 : Int), x))
def ydH : List QF := []
def y2p (t : Qz0) : St := ⟨.dead :: .box 1 0 :: .box 2 0 :: .box 3 0 :: vI t.1 :: dd 21 [], [(1, .box [zH t.2]), (2, .box [.nils]), (3, .box [.nils])]⟩
theorem yfG : ∀ s t, unG qz0 y2p s = some t → y2p t = s := yf fun t => by kernel_rfl
def y2q (t : Qz1) : St := ⟨.dead :: .box 1 0 :: .box 2 0 :: .box 3 0 :: vI t.1 :: dd 21 [], [(1, .box [zH t.2.1]), (2, .box [.nils]), (3, .box [.own 10000000]), (10000000, .root true 100 yr t.2.2)]⟩
theorem yfH : ∀ s t, unG qz1 y2q s = some t → y2q t = s := yf fun t => by kernel_rfl
def y2r : (Qz0 ⊕ Qz1) → St := Sum.elim y2p y2q
def y5U (s : St) : Option (Qz0 ⊕ Qz1) := ((unG qz0 y2p s).map Sum.inl).or (((unG qz1 y2q) s).map Sum.inr)
theorem yfI : ∀ s t, y5U s = some t → y2r t = s := y0P yfG yfH
def ybi : Gk KQ := fun κ => Yb (fun t => κ (some 0) ⟨dd 2 (.box 2 0 :: .box 3 0 :: dd 22 []), [(2, .box [.nils]), (3, .box [.nils])]⟩) (fun t => κ (some 0) ⟨dd 2 (.box 2 0 :: .box 3 0 :: dd 22 []), [(2, .box [.nils]), (3, .box [.own 10000000]), (10000000, .root true 100 yr t)]⟩)
def ydI : Lp := lpC 3 y5U @ybi lpN
theorem yfJ : LF ydH ydI 227 3 Tryz.f227 0 y2r @ybi fun v : Qz0 => .inl v := fun R κ again v => by kernel_rfl
theorem yfK : LF ydH ydI 227 3 Tryz.f227 0 y2r @ybi fun v : Qz1 => .inr v := fun R κ again v => by kernel_rfl
theorem ypc : LF ydH ydI 227 3 Tryz.f227 0 y2r @ybi fun t => t := (LC.sum yfJ yfK)
theorem ypd : LK ydH ydI 227 Tryz.f227 0 := lkN (u := y5U) yfI ypc
theorem ytL : EV ydH ydI 227 Tryz.f227 ynl [(.sl 100 yr)] [(.sl 100 yr)] Zr := fun x => by kernel_rfl
def yzJ : QF := ⟨227, Zr, okN (n := 1) Tryz.func227 ⟨ypd, trivial⟩ ytL⟩
abbrev KR : Type := Qz2 ⊕ Qz3
def Yc (k0 : List yx → Option R) (k1 : Qz4 → Option R) (again : KR → Option R) : KR → Option R
 | .inl t3 => bif (decide (t3.1 < (List.length t3.2.2.1 : Int))) then if (0 : Int) ≤ t3.1 then if t3.1 < (List.length t3.2.2.1 : Int) then Option.bind (Zr (yn t3.2.2.1 t3.1)) fun r1 => if List.length ([r1] : List y8) * 24 < 140737488355328 then again (Sum.inr ((Go.IntKind.wrap .i64 (t3.1 + (1 : Int))), t3.2.1, t3.2.2.1, t3.2.2.2, ([r1] : List y8))) else none else none else none else k0 t3.2.2.2
 | .inr t3 => bif (decide (t3.1 < (List.length t3.2.2.1 : Int))) then if (0 : Int) ≤ t3.1 then if t3.1 < (List.length t3.2.2.1 : Int) then Option.bind (Zr (yn t3.2.2.1 t3.1)) fun r2 => if (List.length t3.2.2.2.2 + List.length ([r2] : List y8)) * 24 < 140737488355328 then again (Sum.inr ((Go.IntKind.wrap .i64 (t3.1 + (1 : Int))), t3.2.1, t3.2.2.1, t3.2.2.2.1, (t3.2.2.2.2 ++ ([r2] : List y8)))) else none else none else none else k1 t3.2.2.2
def Q0 k0 k1 := z6 (@Yc R k0 k1) zd
def jS (x : Qz4) : Option Qz4 :=
 if (List.length ([] : List yx) + List.length x.1) * 8 < 140737488355328 then Q0 (fun x3 => some (x3, ([] : List y8))) (fun x4 => some x4) (Sum.inl ((0 : Int), x.1, x.2, (([] : List yx) ++ x.1))) else none
def ydJ : List QF := [yzJ]
def y2s (t : Qz2) : St := ⟨.dead :: .box 1 0 :: .box 2 0 :: .box 3 0 :: vI t.1 :: dd 24 [], [(1, .box [zn t.2.1, yH t.2.2.1]), (2, .box [.nils, .nils]), (3, .box [.own 10000000, .nils]), (10000000, .root true 3 yu t.2.2.2)]⟩
theorem yfL : ∀ s t, unG qz2 y2s s = some t → y2s t = s := yf fun t => by kernel_rfl
def y2t (t : Qz3) : St := ⟨.dead :: .box 1 0 :: .box 2 0 :: .box 3 0 :: vI t.1 :: dd 24 [], [(1, .box [zn t.2.1, yH t.2.2.1]), (2, .box [.nils, .nils]), (3, .box [.own 10000000, .own 10000001]), (10000000, .root true 3 yu t.2.2.2.1), (10000001, .root true 98 yk t.2.2.2.2)]⟩
theorem yfM : ∀ s t, unG qz3 y2t s = some t → y2t t = s := yf fun t => by kernel_rfl
def y2u : (Qz2 ⊕ Qz3) → St := Sum.elim y2s y2t
def y5V (s : St) : Option (Qz2 ⊕ Qz3) := ((unG qz2 y2s s).map Sum.inl).or (((unG qz3 y2t) s).map Sum.inr)
theorem yfN : ∀ s t, y5V s = some t → y2u t = s := y0P yfL yfM
def ybj : Gk KR := fun κ => Yc (fun t => κ (some 0) ⟨dd 2 (.box 2 0 :: .box 3 0 :: dd 25 []), [(2, .box [.nils, .nils]), (3, .box [.own 10000000, .nils]), (10000000, .root true 3 yu t)]⟩) (fun t => κ (some 0) ⟨dd 2 (.box 2 0 :: .box 3 0 :: dd 25 []), [(2, .box [.nils, .nils]), (3, .box [.own 10000000, .own 10000001]), (10000000, .root true 3 yu t.1), (10000001, .root true 98 yk t.2)]⟩)
def ydK : Lp := lpC 3 y5V @ybj lpN
theorem yfO : LF ydJ ydK 185 3 Tryz.f185 0 y2u @ybj fun v : Qz2 => .inl v := fun R κ again v => by kernel_rfl
theorem yfP : LF ydJ ydK 185 3 Tryz.f185 0 y2u @ybj fun v : Qz3 => .inr v := fun R κ again v => by kernel_rfl
theorem ype : LF ydJ ydK 185 3 Tryz.f185 0 y2u @ybj fun t => t := (LC.sum yfO yfP)
theorem ypf : LK ydJ ydK 185 Tryz.f185 0 := lkN (u := y5V) yfN ype
theorem ytM : EV ydJ ydK 185 Tryz.f185 ynm qz4 qz4 jS := fun x => by kernel_rfl
def yzK : QF := ⟨185, jS, okN (n := 1) Tryz.func185 ⟨ypf, trivial⟩ ytM⟩
def Kq (x : List yb) : Option (List yb) :=
 if (List.length ([] : List yb) + List.length x) * 24 < 140737488355328 then some (([] : List yb) ++ x) else none
theorem ytN : EV [] lpN 186 Tryz.f186 ynn [(.sl 95 yl)] [(.sl 95 yl)] Kq := fun x => by kernel_rfl
def yzL : QF := ⟨186, Kq, okN (n := 0) Tryz.func186 trivial ytN⟩
def J8 (x : Qz5) : Option Qz5 :=
 Option.bind (jS (x.1, x.2.1)) fun r1 => if (List.length ([] : List yq) + List.length x.2.2.1) * 16 < 140737488355328 then Option.bind (Kq x.2.2.2.1) fun r2 => if (List.length ([] : List yD) + List.length x.2.2.2.2.1) * 40 < 140737488355328 then some (r1.1, r1.2, (([] : List yq) ++ x.2.2.1), r2, (([] : List yD) ++ x.2.2.2.2.1), x.2.2.2.2.2) else none else none
theorem ytO : EV [yzK, yzL] lpN 114 Tryz.f114 yno qz5 qz5 J8 := fun x => by kernel_rfl
def yzM : QF := ⟨114, J8, okN (n := 0) Tryz.func114 trivial ytO⟩
abbrev KS : Type := Qz6 ⊕ Qz7
def Yd (k0 : Qz8 → Option R) (k1 : Qz9 → Option R) (again : KS → Option R) : KS → Option R
 | .inl t3 => bif (decide (t3.1 < (List.length t3.2.1 : Int))) then if (0 : Int) ≤ t3.1 then if t3.1 < (List.length t3.2.1 : Int) then if (List.length ([] : List z7) + List.length (zL t3.2.1 t3.1)) * 1 < 140737488355328 then if List.length ([(([] : List z7) ++ (zL t3.2.1 t3.1))] : List y7) * 24 < 140737488355328 then again (Sum.inr ((Go.IntKind.wrap .i64 (t3.1 + (1 : Int))), t3.2.1, t3.2.2.1, t3.2.2.2.1, t3.2.2.2.2.1, t3.2.2.2.2.2.1, t3.2.2.2.2.2.2.1, t3.2.2.2.2.2.2.2.1, t3.2.2.2.2.2.2.2.2, ([(([] : List z7) ++ (zL t3.2.1 t3.1))] : List y7))) else none else none else none else none else k0 t3.2
 | .inr t3 => bif (decide (t3.1 < (List.length t3.2.1 : Int))) then if (0 : Int) ≤ t3.1 then if t3.1 < (List.length t3.2.1 : Int) then if (List.length ([] : List z7) + List.length (zL t3.2.1 t3.1)) * 1 < 140737488355328 then if (List.length t3.2.2.2.2.2.2.2.2.2 + List.length ([(([] : List z7) ++ (zL t3.2.1 t3.1))] : List y7)) * 24 < 140737488355328 then again (Sum.inr ((Go.IntKind.wrap .i64 (t3.1 + (1 : Int))), t3.2.1, t3.2.2.1, t3.2.2.2.1, t3.2.2.2.2.1, t3.2.2.2.2.2.1, t3.2.2.2.2.2.2.1, t3.2.2.2.2.2.2.2.1, t3.2.2.2.2.2.2.2.2.1, (t3.2.2.2.2.2.2.2.2.2 ++ ([(([] : List z7) ++ (zL t3.2.1 t3.1))] : List y7)))) else none else none else none else none else k1 t3.2
def KT k0 k1 := z6 (@Yd R k0 k1) zd
abbrev KU : Type := Qz6 ⊕ yiP ⊕ Qz7 ⊕ yfB
def z9 (k0 : ysK → Option R) (k1 : yx7 → Option R) (k2 : ysL → Option R) (k3 : ysh → Option R) (again : KU → Option R) : KU → Option R
 | .inl t7 => bif (decide (t7.1 < (List.length t7.2.2.1 : Int))) then if (0 : Int) ≤ t7.1 then if t7.1 < (List.length t7.2.2.1 : Int) then if (0 : Int) ≤ t7.1 then if t7.1 < (List.length t7.2.2.1 : Int) then if (List.length ([] : List z7) + List.length ((yW t7.2.2.1 t7.1).2)) * 1 < 140737488355328 then if List.length ([((yW t7.2.2.1 t7.1).1, (([] : List z7) ++ (yW t7.2.2.1 t7.1).2))] : List yQ) * 32 < 140737488355328 then again (Sum.inr (Sum.inl ((Go.IntKind.wrap .i64 (t7.1 + (1 : Int))), t7.2.1, t7.2.2.1, t7.2.2.2.1, t7.2.2.2.2.1, t7.2.2.2.2.2.1, t7.2.2.2.2.2.2.1, t7.2.2.2.2.2.2.2.1, t7.2.2.2.2.2.2.2.2, ([((yW t7.2.2.1 t7.1).1, (([] : List z7) ++ (yW t7.2.2.1 t7.1).2))] : List yQ)))) else none else none else none else none else none else none else k0 t7.2.2.2.2.2
 | .inr (.inl t7) => bif (decide (t7.1 < (List.length t7.2.2.1 : Int))) then if (0 : Int) ≤ t7.1 then if t7.1 < (List.length t7.2.2.1 : Int) then if (0 : Int) ≤ t7.1 then if t7.1 < (List.length t7.2.2.1 : Int) then if (List.length ([] : List z7) + List.length ((yW t7.2.2.1 t7.1).2)) * 1 < 140737488355328 then if (List.length t7.2.2.2.2.2.2.2.2.2 + List.length ([((yW t7.2.2.1 t7.1).1, (([] : List z7) ++ (yW t7.2.2.1 t7.1).2))] : List yQ)) * 32 < 140737488355328 then again (Sum.inr (Sum.inl ((Go.IntKind.wrap .i64 (t7.1 + (1 : Int))), t7.2.1, t7.2.2.1, t7.2.2.2.1, t7.2.2.2.2.1, t7.2.2.2.2.2.1, t7.2.2.2.2.2.2.1, t7.2.2.2.2.2.2.2.1, t7.2.2.2.2.2.2.2.2.1, (t7.2.2.2.2.2.2.2.2.2 ++ ([((yW t7.2.2.1 t7.1).1, (([] : List z7) ++ (yW t7.2.2.1 t7.1).2))] : List yQ))))) else none else none else none else none else none else none else k1 t7.2.2.2.2.2
 | .inr (.inr (.inl t7)) => bif (decide (t7.1 < (List.length t7.2.2.1 : Int))) then if (0 : Int) ≤ t7.1 then if t7.1 < (List.length t7.2.2.1 : Int) then if (0 : Int) ≤ t7.1 then if t7.1 < (List.length t7.2.2.1 : Int) then if (List.length ([] : List z7) + List.length ((yW t7.2.2.1 t7.1).2)) * 1 < 140737488355328 then if List.length ([((yW t7.2.2.1 t7.1).1, (([] : List z7) ++ (yW t7.2.2.1 t7.1).2))] : List yQ) * 32 < 140737488355328 then again (Sum.inr (Sum.inr (Sum.inr ((Go.IntKind.wrap .i64 (t7.1 + (1 : Int))), t7.2.1, t7.2.2.1, t7.2.2.2.1, t7.2.2.2.2.1, t7.2.2.2.2.2.1, t7.2.2.2.2.2.2.1, t7.2.2.2.2.2.2.2.1, t7.2.2.2.2.2.2.2.2.1, t7.2.2.2.2.2.2.2.2.2, ([((yW t7.2.2.1 t7.1).1, (([] : List z7) ++ (yW t7.2.2.1 t7.1).2))] : List yQ))))) else none else none else none else none else none else none else k2 t7.2.2.2.2.2
 | .inr (.inr (.inr t7)) => bif (decide (t7.1 < (List.length t7.2.2.1 : Int))) then if (0 : Int) ≤ t7.1 then if t7.1 < (List.length t7.2.2.1 : Int) then if (0 : Int) ≤ t7.1 then if t7.1 < (List.length t7.2.2.1 : Int) then if (List.length ([] : List z7) + List.length ((yW t7.2.2.1 t7.1).2)) * 1 < 140737488355328 then if (List.length t7.2.2.2.2.2.2.2.2.2.2 + List.length ([((yW t7.2.2.1 t7.1).1, (([] : List z7) ++ (yW t7.2.2.1 t7.1).2))] : List yQ)) * 32 < 140737488355328 then again (Sum.inr (Sum.inr (Sum.inr ((Go.IntKind.wrap .i64 (t7.1 + (1 : Int))), t7.2.1, t7.2.2.1, t7.2.2.2.1, t7.2.2.2.2.1, t7.2.2.2.2.2.1, t7.2.2.2.2.2.2.1, t7.2.2.2.2.2.2.2.1, t7.2.2.2.2.2.2.2.2.1, t7.2.2.2.2.2.2.2.2.2.1, (t7.2.2.2.2.2.2.2.2.2.2 ++ ([((yW t7.2.2.1 t7.1).1, (([] : List z7) ++ (yW t7.2.2.1 t7.1).2))] : List yQ)))))) else none else none else none else none else none else none else k3 t7.2.2.2.2.2
def YE k0 k1 k2 k3 := z6 (@z9 R k0 k1 k2 k3) zd
def w7 (x : y9d) : Option y9d :=
 KT (fun x1 => YE (fun x2 => some (([] : List y7), ([] : List yQ), x2.2.2.1, x2.2.2.2)) (fun x3 => some (([] : List y7), x3.2.2.2.2, x3.2.2.1, x3.2.2.2.1)) (fun x4 => some (x4.2.2.2.2, ([] : List yQ), x4.2.2.1, x4.2.2.2.1)) (fun x5 => some (x5.2.2.2.2.1, x5.2.2.2.2.2, x5.2.2.1, x5.2.2.2.1)) (Sum.inl ((0 : Int), x1.1, x1.2.1, x1.2.2.1, x1.2.2.2.1, x1.2.2.2.2.1, x1.2.2.2.2.2.1, x1.2.2.2.2.2.2.1, x1.2.2.2.2.2.2.2))) (fun x6 => YE (fun x7 => some (([] : List y7), ([] : List yQ), x7.2.2.1, x7.2.2.2)) (fun x8 => some (([] : List y7), x8.2.2.2.2, x8.2.2.1, x8.2.2.2.1)) (fun x9 => some (x9.2.2.2.2, ([] : List yQ), x9.2.2.1, x9.2.2.2.1)) (fun x10 => some (x10.2.2.2.2.1, x10.2.2.2.2.2, x10.2.2.1, x10.2.2.2.1)) (Sum.inr (Sum.inr (Sum.inl ((0 : Int), x6.1, x6.2.1, x6.2.2.1, x6.2.2.2.1, x6.2.2.2.2.1, x6.2.2.2.2.2.1, x6.2.2.2.2.2.2.1, x6.2.2.2.2.2.2.2.1, x6.2.2.2.2.2.2.2.2))))) (Sum.inl ((0 : Int), x.1, x.2.1, x.2.2.1, x.2.2.2, (0 : Int), false, x.2.2.1, x.2.2.2))
def y3x : List QF := []
def y2v (t : Qz6) : St := ⟨.dead :: .box 1 0 :: .box 2 0 :: .box 3 0 :: vI t.1 :: dd 53 [], [(1, .box [Yt t.2.1, QS t.2.2.1, vI t.2.2.2.1, vB t.2.2.2.2.1]), (2, .box [.nils, .nils, vI t.2.2.2.2.2.1, vB t.2.2.2.2.2.2.1]), (3, .box [.nils, .nils, vI t.2.2.2.2.2.2.2.1, vB t.2.2.2.2.2.2.2.2])]⟩
theorem yfQ : ∀ s t, unG qz6 y2v s = some t → y2v t = s := yf fun t => by kernel_rfl
def y2w (t : Qz7) : St := ⟨.dead :: .box 1 0 :: .box 2 0 :: .box 3 0 :: vI t.1 :: dd 53 [], [(1, .box [Yt t.2.1, QS t.2.2.1, vI t.2.2.2.1, vB t.2.2.2.2.1]), (2, .box [.nils, .nils, vI t.2.2.2.2.2.1, vB t.2.2.2.2.2.2.1]), (3, .box [.own 10000000, .nils, vI t.2.2.2.2.2.2.2.1, vB t.2.2.2.2.2.2.2.2.1]), (10000000, .root true 32 yg t.2.2.2.2.2.2.2.2.2)]⟩
theorem yfR : ∀ s t, unG qz7 y2w s = some t → y2w t = s := yf fun t => by kernel_rfl
def y2x : (Qz6 ⊕ Qz7) → St := Sum.elim y2v y2w
def y5W (s : St) : Option (Qz6 ⊕ Qz7) := ((unG qz6 y2v s).map Sum.inl).or (((unG qz7 y2w) s).map Sum.inr)
theorem yfS : ∀ s t, y5W s = some t → y2x t = s := y0P yfQ yfR
def ybk : Gk KS := fun κ => Yd (fun t => κ (some 0) ⟨.dead :: .box 1 0 :: .box 2 0 :: .box 3 0 :: dd 54 [], [(1, .box [Yt t.1, QS t.2.1, vI t.2.2.1, vB t.2.2.2.1]), (2, .box [.nils, .nils, vI t.2.2.2.2.1, vB t.2.2.2.2.2.1]), (3, .box [.nils, .nils, vI t.2.2.2.2.2.2.1, vB t.2.2.2.2.2.2.2])]⟩) (fun t => κ (some 0) ⟨.dead :: .box 1 0 :: .box 2 0 :: .box 3 0 :: dd 54 [], [(1, .box [Yt t.1, QS t.2.1, vI t.2.2.1, vB t.2.2.2.1]), (2, .box [.nils, .nils, vI t.2.2.2.2.1, vB t.2.2.2.2.2.1]), (3, .box [.own 10000000, .nils, vI t.2.2.2.2.2.2.1, vB t.2.2.2.2.2.2.2.1]), (10000000, .root true 32 yg t.2.2.2.2.2.2.2.2)]⟩)
def y2y (t : Qz6) : St := ⟨.dead :: .box 1 0 :: .box 2 0 :: .box 3 0 :: .dead :: vI t.1 :: dd 52 [], [(1, .box [Yt t.2.1, QS t.2.2.1, vI t.2.2.2.1, vB t.2.2.2.2.1]), (2, .box [.nils, .nils, vI t.2.2.2.2.2.1, vB t.2.2.2.2.2.2.1]), (3, .box [.nils, .nils, vI t.2.2.2.2.2.2.2.1, vB t.2.2.2.2.2.2.2.2])]⟩
theorem yfT : ∀ s t, unG qz6 y2y s = some t → y2y t = s := yf fun t => by kernel_rfl
def y2z (t : yiP) : St := ⟨.dead :: .box 1 0 :: .box 2 0 :: .box 3 0 :: .dead :: vI t.1 :: dd 52 [], [(1, .box [Yt t.2.1, QS t.2.2.1, vI t.2.2.2.1, vB t.2.2.2.2.1]), (2, .box [.nils, .nils, vI t.2.2.2.2.2.1, vB t.2.2.2.2.2.2.1]), (3, .box [.nils, .own 10000000, vI t.2.2.2.2.2.2.2.1, vB t.2.2.2.2.2.2.2.2.1]), (10000000, .root true 186 zc t.2.2.2.2.2.2.2.2.2)]⟩
theorem yfU : ∀ s t, unG yx5 y2z s = some t → y2z t = s := yf fun t => by kernel_rfl
def y2A (t : Qz7) : St := ⟨.dead :: .box 1 0 :: .box 2 0 :: .box 3 0 :: .dead :: vI t.1 :: dd 52 [], [(1, .box [Yt t.2.1, QS t.2.2.1, vI t.2.2.2.1, vB t.2.2.2.2.1]), (2, .box [.nils, .nils, vI t.2.2.2.2.2.1, vB t.2.2.2.2.2.2.1]), (3, .box [.own 10000000, .nils, vI t.2.2.2.2.2.2.2.1, vB t.2.2.2.2.2.2.2.2.1]), (10000000, .root true 32 yg t.2.2.2.2.2.2.2.2.2)]⟩
theorem yfV : ∀ s t, unG qz7 y2A s = some t → y2A t = s := yf fun t => by kernel_rfl
def y2B (t : yfB) : St := ⟨.dead :: .box 1 0 :: .box 2 0 :: .box 3 0 :: .dead :: vI t.1 :: dd 52 [], [(1, .box [Yt t.2.1, QS t.2.2.1, vI t.2.2.2.1, vB t.2.2.2.2.1]), (2, .box [.nils, .nils, vI t.2.2.2.2.2.1, vB t.2.2.2.2.2.2.1]), (3, .box [.own 10000000, .own 10000001, vI t.2.2.2.2.2.2.2.1, vB t.2.2.2.2.2.2.2.2.1]), (10000000, .root true 32 yg t.2.2.2.2.2.2.2.2.2.1), (10000001, .root true 186 zc t.2.2.2.2.2.2.2.2.2.2)]⟩
theorem yfW : ∀ s t, unG yx6 y2B s = some t → y2B t = s := yf fun t => by kernel_rfl
def ybl : (Qz7 ⊕ yfB) → St := Sum.elim y2A y2B
def ybm (s : St) : Option (Qz7 ⊕ yfB) := ((unG qz7 y2A s).map Sum.inl).or (((unG yx6 y2B) s).map Sum.inr)
theorem yfX : ∀ s t, ybm s = some t → ybl t = s := y0P yfV yfW
def ybn : (yiP ⊕ Qz7 ⊕ yfB) → St := Sum.elim y2z ybl
def ybo (s : St) : Option (yiP ⊕ Qz7 ⊕ yfB) := ((unG yx5 y2z s).map Sum.inl).or ((ybm s).map Sum.inr)
theorem yfY : ∀ s t, ybo s = some t → ybn t = s := y0P yfU yfX
def QH : (Qz6 ⊕ yiP ⊕ Qz7 ⊕ yfB) → St := Sum.elim y2y ybn
def y5X (s : St) : Option (Qz6 ⊕ yiP ⊕ Qz7 ⊕ yfB) := ((unG qz6 y2y s).map Sum.inl).or ((ybo s).map Sum.inr)
theorem yfZ : ∀ s t, y5X s = some t → QH t = s := y0P yfT yfY
def y5b : Gk KU := fun κ => z9 (fun t => κ (some 2) ⟨dd 2 (.box 2 0 :: .box 3 0 :: dd 54 []), [(2, .box [.nils, .nils, vI t.1, vB t.2.1]), (3, .box [.nils, .nils, vI t.2.2.1, vB t.2.2.2])]⟩) (fun t => κ (some 2) ⟨dd 2 (.box 2 0 :: .box 3 0 :: dd 54 []), [(2, .box [.nils, .nils, vI t.1, vB t.2.1]), (3, .box [.nils, .own 10000000, vI t.2.2.1, vB t.2.2.2.1]), (10000000, .root true 186 zc t.2.2.2.2)]⟩) (fun t => κ (some 2) ⟨dd 2 (.box 2 0 :: .box 3 0 :: dd 54 []), [(2, .box [.nils, .nils, vI t.1, vB t.2.1]), (3, .box [.own 10000000, .nils, vI t.2.2.1, vB t.2.2.2.1]), (10000000, .root true 32 yg t.2.2.2.2)]⟩) (fun t => κ (some 2) ⟨dd 2 (.box 2 0 :: .box 3 0 :: dd 54 []), [(2, .box [.nils, .nils, vI t.1, vB t.2.1]), (3, .box [.own 10000000, .own 10000001, vI t.2.2.1, vB t.2.2.2.1]), (10000000, .root true 32 yg t.2.2.2.2.1), (10000001, .root true 186 zc t.2.2.2.2.2)]⟩)
def y3y : Lp := lpC 7 y5X @y5b (lpC 3 y5W @ybk lpN)
theorem yg0 : LF y3x y3y 176 3 Tryz.f176 0 y2x @ybk fun v : Qz6 => .inl v := fun R κ again v => by kernel_rfl
theorem yg1 : LF y3x y3y 176 3 Tryz.f176 0 y2x @ybk fun v : Qz7 => .inr v := fun R κ again v => by kernel_rfl
theorem ypg : LF y3x y3y 176 3 Tryz.f176 0 y2x @ybk fun t => t := (LC.sum yg0 yg1)
theorem yph : LK y3x y3y 176 Tryz.f176 0 := lkN (u := y5W) yfS ypg
theorem yg2 : LF y3x y3y 176 7 Tryz.f176 1 QH @y5b fun v : Qz6 => .inl v := fun R κ again v => by kernel_rfl
theorem yg3 : LF y3x y3y 176 7 Tryz.f176 1 QH @y5b fun v : yiP => .inr (.inl v) := fun R κ again v => by kernel_rfl
theorem yg4 : LF y3x y3y 176 7 Tryz.f176 1 QH @y5b fun v : Qz7 => .inr (.inr (.inl v)) := fun R κ again v => by kernel_rfl
theorem yg5 : LF y3x y3y 176 7 Tryz.f176 1 QH @y5b fun v : yfB => .inr (.inr (.inr v)) := fun R κ again v => by kernel_rfl
theorem ypi : LF y3x y3y 176 7 Tryz.f176 1 QH @y5b fun t => t := (LC.sum yg2 (LC.sum yg3 (LC.sum yg4 yg5)))
theorem ypj : LK y3x y3y 176 Tryz.f176 1 := lkN (u := y5X) yfZ ypi
theorem ytP : EV y3x y3y 176 Tryz.f176 ynp QT QT w7 := fun x => by kernel_rfl
def yzN : QF := ⟨176, w7, okN (n := 2) Tryz.func176 ⟨yph, ypj, trivial⟩ ytP⟩
def J9 (x : y7K) : Option y7K :=
 Option.bind (w7 (x.1, x.2.1, x.2.2.1, x.2.2.2.1)) fun r1 => Option.bind (J8 (x.2.2.2.2.1, x.2.2.2.2.2.1, x.2.2.2.2.2.2.1, x.2.2.2.2.2.2.2.1, x.2.2.2.2.2.2.2.2.1, x.2.2.2.2.2.2.2.2.2.1)) fun r2 => some (r1.1, r1.2.1, r1.2.2.1, r1.2.2.2, r2.1, r2.2.1, r2.2.2.1, r2.2.2.2.1, r2.2.2.2.2.1, r2.2.2.2.2.2, x.2.2.2.2.2.2.2.2.2.2)
theorem ytQ : EV [yzM, yzN] lpN 100 Tryz.f100 ynq qb qb J9 := fun x => by kernel_rfl
def yzO : QF := ⟨100, J9, okN (n := 0) Tryz.func100 trivial ytQ⟩
def yt (x : ysM) : Option Bool :=
 Option.bind (bif (decide (x.1 ≥ x.2.1)) then some (decide (x.1 ≤ x.2.2)) else some false) fun u1 => some u1
theorem ytR : EV [] lpN 107 Tryz.f107 ynr ysN [.bool] yt := fun x => by kernel_rfl
def y9f : QF := ⟨107, yt, okN (n := 0) Tryz.func107 trivial ytR⟩
abbrev qc : Type := ysi
def w8 (k0 : List ya → Option R) (again : qc → Option R) (t3 : qc) : Option R :=
 bif (decide (t3.2.1 < (List.length t3.1 : Int))) then if (0 : Int) ≤ t3.2.1 then if t3.2.1 < (List.length t3.1 : Int) then bif ((y0 t3.1 t3.2.1).2.2.1 != (0 : Int)) then if (0 : Int) ≤ t3.2.1 then if t3.2.1 < (List.length t3.1 : Int) then if (List.length t3.2.2 + List.length ([((y0 t3.1 t3.2.1).1, (y0 t3.1 t3.2.1).2.1, (y0 t3.1 t3.2.1).2.2.1, (y0 t3.1 t3.2.1).2.2.2.1, (y0 t3.1 t3.2.1).2.2.2.2)] : List ya)) * 40 < 140737488355328 then again (t3.1, (Go.IntKind.wrap .i64 (t3.2.1 + (1 : Int))), (t3.2.2 ++ ([((y0 t3.1 t3.2.1).1, (y0 t3.1 t3.2.1).2.1, (y0 t3.1 t3.2.1).2.2.1, (y0 t3.1 t3.2.1).2.2.2.1, (y0 t3.1 t3.2.1).2.2.2.2)] : List ya))) else none else none else none else again (t3.1, (Go.IntKind.wrap .i64 (t3.2.1 + (1 : Int))), t3.2.2) else none else none else k0 t3.2.2
def y0Q k0 := z6 (@w8 R k0) zd
def Wt (x : List ya) : Option (List ya) :=
 y0Q (fun x1 => some x1) (x, (0 : Int), ([] : List ya))
def yiY : List QF := []
def y5Y (t : ysi) : St := ⟨Vx t.1 :: dd 2 (.own 10000000 :: vI t.2.1 :: dd 21 []), [(10000000, .root true 106 yj t.2.2)]⟩
def yh8 : Gk qc := fun κ => w8 (fun t => κ (some 0) ⟨dd 3 (.own 10000000 :: dd 22 []), [(10000000, .root true 106 yj t)]⟩)
def yiZ : Lp := lpC 3 (unG ysj y5Y) @yh8 lpN
theorem ypk : LF yiY yiZ 235 3 Tryz.f235 0 y5Y @yh8 fun t => t := fun R κ again t => by kernel_rfl
theorem ypl : LK yiY yiZ 235 Tryz.f235 0 := lkN (u := (unG ysj y5Y)) (yf fun t => by kernel_rfl) ypk
theorem ytS : EV yiY yiZ 235 Tryz.f235 yns [(.sl 106 yj)] [(.sl 106 yj)] Wt := fun x => by kernel_rfl
def yzP : QF := ⟨235, Wt, okN (n := 1) Tryz.func235 ⟨ypl, trivial⟩ ytS⟩
def ZS (x : yln) : Option Bool :=
 bif (x.1 != x.2.2.2.2.2.1) then some (decide (x.1 < x.2.2.2.2.2.1)) else some (decide (x.2.1 < x.2.2.2.2.2.2.1))
theorem ytT : EV [] lpN 266 Tryz.f266 ynt ylo [.bool] ZS := fun x => by kernel_rfl
def yzg : QF := ⟨266, ZS, okN (n := 0) Tryz.func266 trivial ytT⟩
def YF (x : yln) : Option Bool :=
 Option.bind (bif (x.1 == x.2.2.2.2.2.1) then some (x.2.1 == x.2.2.2.2.2.2.1) else some false) fun u1 => some u1
theorem ytU : EV [] lpN 267 Tryz.f267 ynu ylo [.bool] YF := fun x => by kernel_rfl
def yzQ : QF := ⟨267, YF, okN (n := 0) Tryz.func267 trivial ytU⟩
abbrev w9 : Type := yx8
def Ye (k0 : yxa → Option R) (again : w9 → Option R) (t4 : w9) : Option R :=
 bif (decide (t4.2.2.1 < (List.length t4.1 : Int))) then Option.bind (bif (!t4.2.1) then if (0 : Int) ≤ t4.2.2.1 then if t4.2.2.1 < (List.length t4.1 : Int) then Option.bind (ZS ((y0 t4.1 t4.2.2.1).1, (y0 t4.1 t4.2.2.1).2.1, (y0 t4.1 t4.2.2.1).2.2.1, (y0 t4.1 t4.2.2.1).2.2.2.1, (y0 t4.1 t4.2.2.1).2.2.2.2, t4.2.2.2.1, t4.2.2.2.2.1, t4.2.2.2.2.2.1, t4.2.2.2.2.2.2.1, t4.2.2.2.2.2.2.2.1)) fun r2 => some (!r2) else none else none else some false) fun u1 => bif u1 then if (List.length t4.2.2.2.2.2.2.2.2 + List.length ([(t4.2.2.2.1, t4.2.2.2.2.1, t4.2.2.2.2.2.1, t4.2.2.2.2.2.2.1, t4.2.2.2.2.2.2.2.1)] : List ya)) * 40 < 140737488355328 then if (0 : Int) ≤ t4.2.2.1 then if t4.2.2.1 < (List.length t4.1 : Int) then Option.bind (YF ((y0 t4.1 t4.2.2.1).1, (y0 t4.1 t4.2.2.1).2.1, (y0 t4.1 t4.2.2.1).2.2.1, (y0 t4.1 t4.2.2.1).2.2.2.1, (y0 t4.1 t4.2.2.1).2.2.2.2, t4.2.2.2.1, t4.2.2.2.2.1, t4.2.2.2.2.2.1, t4.2.2.2.2.2.2.1, t4.2.2.2.2.2.2.2.1)) fun r3 => bif (!r3) then if (0 : Int) ≤ t4.2.2.1 then if t4.2.2.1 < (List.length t4.1 : Int) then if (List.length (t4.2.2.2.2.2.2.2.2 ++ ([(t4.2.2.2.1, t4.2.2.2.2.1, t4.2.2.2.2.2.1, t4.2.2.2.2.2.2.1, t4.2.2.2.2.2.2.2.1)] : List ya)) + List.length ([((y0 t4.1 t4.2.2.1).1, (y0 t4.1 t4.2.2.1).2.1, (y0 t4.1 t4.2.2.1).2.2.1, (y0 t4.1 t4.2.2.1).2.2.2.1, (y0 t4.1 t4.2.2.1).2.2.2.2)] : List ya)) * 40 < 140737488355328 then again (t4.1, true, (Go.IntKind.wrap .i64 (t4.2.2.1 + (1 : Int))), t4.2.2.2.1, t4.2.2.2.2.1, t4.2.2.2.2.2.1, t4.2.2.2.2.2.2.1, t4.2.2.2.2.2.2.2.1, ((t4.2.2.2.2.2.2.2.2 ++ ([(t4.2.2.2.1, t4.2.2.2.2.1, t4.2.2.2.2.2.1, t4.2.2.2.2.2.2.1, t4.2.2.2.2.2.2.2.1)] : List ya)) ++ ([((y0 t4.1 t4.2.2.1).1, (y0 t4.1 t4.2.2.1).2.1, (y0 t4.1 t4.2.2.1).2.2.1, (y0 t4.1 t4.2.2.1).2.2.2.1, (y0 t4.1 t4.2.2.1).2.2.2.2)] : List ya))) else none else none else none else again (t4.1, true, (Go.IntKind.wrap .i64 (t4.2.2.1 + (1 : Int))), t4.2.2.2.1, t4.2.2.2.2.1, t4.2.2.2.2.2.1, t4.2.2.2.2.2.2.1, t4.2.2.2.2.2.2.2.1, (t4.2.2.2.2.2.2.2.2 ++ ([(t4.2.2.2.1, t4.2.2.2.2.1, t4.2.2.2.2.2.1, t4.2.2.2.2.2.2.1, t4.2.2.2.2.2.2.2.1)] : List ya))) else none else none else none else if (0 : Int) ≤ t4.2.2.1 then if t4.2.2.1 < (List.length t4.1 : Int) then Option.bind (YF ((y0 t4.1 t4.2.2.1).1, (y0 t4.1 t4.2.2.1).2.1, (y0 t4.1 t4.2.2.1).2.2.1, (y0 t4.1 t4.2.2.1).2.2.2.1, (y0 t4.1 t4.2.2.1).2.2.2.2, t4.2.2.2.1, t4.2.2.2.2.1, t4.2.2.2.2.2.1, t4.2.2.2.2.2.2.1, t4.2.2.2.2.2.2.2.1)) fun r4 => bif (!r4) then if (0 : Int) ≤ t4.2.2.1 then if t4.2.2.1 < (List.length t4.1 : Int) then if (List.length t4.2.2.2.2.2.2.2.2 + List.length ([((y0 t4.1 t4.2.2.1).1, (y0 t4.1 t4.2.2.1).2.1, (y0 t4.1 t4.2.2.1).2.2.1, (y0 t4.1 t4.2.2.1).2.2.2.1, (y0 t4.1 t4.2.2.1).2.2.2.2)] : List ya)) * 40 < 140737488355328 then again (t4.1, t4.2.1, (Go.IntKind.wrap .i64 (t4.2.2.1 + (1 : Int))), t4.2.2.2.1, t4.2.2.2.2.1, t4.2.2.2.2.2.1, t4.2.2.2.2.2.2.1, t4.2.2.2.2.2.2.2.1, (t4.2.2.2.2.2.2.2.2 ++ ([((y0 t4.1 t4.2.2.1).1, (y0 t4.1 t4.2.2.1).2.1, (y0 t4.1 t4.2.2.1).2.2.1, (y0 t4.1 t4.2.2.1).2.2.2.1, (y0 t4.1 t4.2.2.1).2.2.2.2)] : List ya))) else none else none else none else again (t4.1, t4.2.1, (Go.IntKind.wrap .i64 (t4.2.2.1 + (1 : Int))), t4.2.2.2.1, t4.2.2.2.2.1, t4.2.2.2.2.2.1, t4.2.2.2.2.2.2.1, t4.2.2.2.2.2.2.2.1, t4.2.2.2.2.2.2.2.2) else none else none else k0 (t4.2.1, t4.2.2.2)
def KV k0 := z6 (@Ye R k0) zd
def wc (x : yxb) : Option (List ya) :=
 KV (fun x5 => bif (!x5.1) then if (List.length x5.2.2.2.2.2.2 + List.length ([(x5.2.1, x5.2.2.1, x5.2.2.2.1, x5.2.2.2.2.1, x5.2.2.2.2.2.1)] : List ya)) * 40 < 140737488355328 then some (x5.2.2.2.2.2.2 ++ ([(x5.2.1, x5.2.2.1, x5.2.2.2.1, x5.2.2.2.2.1, x5.2.2.2.2.2.1)] : List ya)) else none else some x5.2.2.2.2.2.2) (x.1, false, (0 : Int), x.2.1, x.2.2.1, x.2.2.2.1, x.2.2.2.2.1, x.2.2.2.2.2, ([] : List ya))
def yj0 : List QF := [yzg, yzQ]
def y5Z (t : yx8) : St := ⟨Vx t.1 :: dd 2 (.box 3 0 :: .dead :: .own 10000000 :: vB t.2.1 :: vI t.2.2.1 :: dd 43 []), [(3, .box [vI t.2.2.2.1, vI t.2.2.2.2.1, vI t.2.2.2.2.2.1, vI t.2.2.2.2.2.2.1, vI t.2.2.2.2.2.2.2.1]), (10000000, .root true 106 yj t.2.2.2.2.2.2.2.2)]⟩
def yh9 : Gk w9 := fun κ => Ye (fun t => κ (some 0) ⟨dd 3 (.box 3 0 :: .dead :: .own 10000000 :: vB t.1 :: dd 44 []), [(3, .box [vI t.2.1, vI t.2.2.1, vI t.2.2.2.1, vI t.2.2.2.2.1, vI t.2.2.2.2.2.1]), (10000000, .root true 106 yj t.2.2.2.2.2.2)]⟩)
def yj1 : Lp := lpC 4 (unG yx9 y5Z) @yh9 lpN
theorem ypm : LF yj0 yj1 236 4 Tryz.f236 0 y5Z @yh9 fun t => t := fun R κ again t => by kernel_rfl
theorem ypn : LK yj0 yj1 236 Tryz.f236 0 := lkN (u := (unG yx9 y5Z)) (yf fun t => by kernel_rfl) ypm
theorem ytV : EV yj0 yj1 236 Tryz.f236 ynv yxc [(.sl 106 yj)] wc := fun x => by kernel_rfl
def yzR : QF := ⟨236, wc, okN (n := 1) Tryz.func236 ⟨ypn, trivial⟩ ytV⟩
abbrev wd : Type := ysi
def Yu (k0 : List ya → Option R) (again : wd → Option R) (t3 : wd) : Option R :=
 bif (decide (t3.2.1 < (List.length t3.1 : Int))) then if (0 : Int) ≤ t3.2.1 then if t3.2.1 < (List.length t3.1 : Int) then Option.bind (wc (t3.2.2, (y0 t3.1 t3.2.1).1, (y0 t3.1 t3.2.1).2.1, (y0 t3.1 t3.2.1).2.2.1, (y0 t3.1 t3.2.1).2.2.2.1, (y0 t3.1 t3.2.1).2.2.2.2)) fun r1 => again (t3.1, (Go.IntKind.wrap .i64 (t3.2.1 + (1 : Int))), r1) else none else none else k0 t3.2.2
def vP k0 := z6 (@Yu R k0) zd
def Yl (x : ysO) : Option (List ya) :=
 if (List.length ([] : List ya) + List.length x.1) * 40 < 140737488355328 then vP (fun x2 => some x2) (x.2, (0 : Int), (([] : List ya) ++ x.1)) else none
def yj2 : List QF := [yzR]
def y60 (t : ysi) : St := ⟨.dead :: Vx t.1 :: dd 3 (.own 10000000 :: vI t.2.1 :: dd 16 []), [(10000000, .root true 106 yj t.2.2)]⟩
def yha : Gk wd := fun κ => Yu (fun t => κ (some 0) ⟨dd 5 (.own 10000000 :: dd 17 []), [(10000000, .root true 106 yj t)]⟩)
def yj3 : Lp := lpC 3 (unG ysj y60) @yha lpN
theorem ypo : LF yj2 yj3 261 3 Tryz.f261 0 y60 @yha fun t => t := fun R κ again t => by kernel_rfl
theorem ypp : LK yj2 yj3 261 Tryz.f261 0 := lkN (u := (unG ysj y60)) (yf fun t => by kernel_rfl) ypo
theorem ytW : EV yj2 yj3 261 Tryz.f261 ynw ysP [(.sl 106 yj)] Yl := fun x => by kernel_rfl
def yzS : QF := ⟨261, Yl, okN (n := 1) Tryz.func261 ⟨ypp, trivial⟩ ytW⟩
abbrev Wu : Type := yxd
def YG (k0 : List ya → Option R) (again : Wu → Option R) (t3 : Wu) : Option R :=
 bif (decide (t3.1 < (List.length t3.2.1 : Int))) then if (0 : Int) ≤ t3.1 then if t3.1 < (List.length t3.2.1 : Int) then Option.bind (Yl (t3.2.2, (yh t3.2.1 t3.1))) fun r1 => again ((Go.IntKind.wrap .i64 (t3.1 + (1 : Int))), t3.2.1, r1) else none else none else k0 t3.2.2
def Vy k0 := z6 (@YG R k0) zd
def zS (x : List y9) : Option (List ya) :=
 Vy (fun x2 => Option.bind (Wt x2) fun r3 => some r3) ((0 : Int), x, ([] : List ya))
def yj4 : List QF := [yzP, yzS]
def y61 (t : yxd) : St := ⟨.dead :: .box 1 0 :: .dead :: .own 10000000 :: vI t.1 :: dd 17 [], [(1, .box [zH t.2.1]), (10000000, .root true 106 yj t.2.2)]⟩
def yhb : Gk Wu := fun κ => YG (fun t => κ (some 0) ⟨dd 3 (.own 10000000 :: dd 18 []), [(10000000, .root true 106 yj t)]⟩)
def yj5 : Lp := lpC 3 (unG yxe y61) @yhb lpN
theorem ypq : LF yj4 yj5 230 3 Tryz.f230 0 y61 @yhb fun t => t := fun R κ again t => by kernel_rfl
theorem ypr : LK yj4 yj5 230 Tryz.f230 0 := lkN (u := (unG yxe y61)) (yf fun t => by kernel_rfl) ypq
theorem ytX : EV yj4 yj5 230 Tryz.f230 ynx [(.sl 100 yr)] [(.sl 106 yj)] zS := fun x => by kernel_rfl
def yzh : QF := ⟨230, zS, okN (n := 1) Tryz.func230 ⟨ypr, trivial⟩ ytX⟩
abbrev Wv : Type := yxf
def YH (k0 : List ya → Option R) (again : Wv → Option R) (t3 : Wv) : Option R :=
 bif (decide (t3.1 < (List.length t3.2.2.1 : Int))) then if (0 : Int) ≤ t3.1 then if t3.1 < (List.length t3.2.2.1 : Int) then Option.bind (zS (yn t3.2.2.1 t3.1)) fun r1 => if (List.length t3.2.2.2 + List.length r1) * 40 < 140737488355328 then again ((Go.IntKind.wrap .i64 (t3.1 + (1 : Int))), t3.2.1, t3.2.2.1, (t3.2.2.2 ++ r1)) else none else none else none else k0 t3.2.2.2
def Vz k0 := z6 (@YH R k0) zd
def zT (x : Qz4) : Option (List ya) :=
 Vz (fun x2 => some x2) ((0 : Int), x.1, x.2, ([] : List ya))
def yj6 : List QF := [yzh]
def y62 (t : yxf) : St := ⟨.dead :: .box 1 0 :: .dead :: .own 10000000 :: vI t.1 :: dd 17 [], [(1, .box [zn t.2.1, yH t.2.2.1]), (10000000, .root true 106 yj t.2.2.2)]⟩
def yhc : Gk Wv := fun κ => YH (fun t => κ (some 0) ⟨dd 3 (.own 10000000 :: dd 18 []), [(10000000, .root true 106 yj t)]⟩)
def yj7 : Lp := lpC 3 (unG yxg y62) @yhc lpN
theorem yps : LF yj6 yj7 188 3 Tryz.f188 0 y62 @yhc fun t => t := fun R κ again t => by kernel_rfl
theorem ypt : LK yj6 yj7 188 Tryz.f188 0 := lkN (u := (unG yxg y62)) (yf fun t => by kernel_rfl) yps
theorem ytY : EV yj6 yj7 188 Tryz.f188 yny qz4 [(.sl 106 yj)] zT := fun x => by kernel_rfl
def yzi : QF := ⟨188, zT, okN (n := 1) Tryz.func188 ⟨ypt, trivial⟩ ytY⟩
def Kr (x : y9e) : Option Int :=
 some (Go.IntKind.wrap .i64 ((Go.IntKind.wrap .i64 ((64 : Int) * x.1)) + x.2))
theorem ytZ : EV [] lpN 264 Tryz.f264 ynz yh6 [(.int .i64)] Kr := fun x => by kernel_rfl
def yzT : QF := ⟨264, Kr, okN (n := 0) Tryz.func264 trivial ytZ⟩
def Kt (x : yiQ) : Option Int :=
 Option.bind (Kr (x.1, x.2.1)) fun r1 => some r1
theorem yu0 : EV [yzT] lpN 237 Tryz.f237 ynA y16 [(.int .i64)] Kt := fun x => by kernel_rfl
def yzU : QF := ⟨237, Kt, okN (n := 0) Tryz.func237 trivial yu0⟩
def JS (x : yiQ) : Option Bool :=
 Option.bind (yt (x.1, (0 : Int), (15 : Int))) fun r1 => Option.bind (bif (!r1) then some true else Option.bind (yt (x.2.1, (1 : Int), (60 : Int))) fun r3 => some (!r3)) fun u2 => Option.bind (bif u2 then some true else Option.bind (yt (x.2.2.1, (0 : Int), (2 : Int))) fun r5 => some (!r5)) fun u4 => bif u4 then some false else bif (x.2.2.1 == (1 : Int)) then Option.bind (yt (x.2.2.2.1, (0 : Int), (23 : Int))) fun r6 => Option.bind (bif r6 then Option.bind (yt (x.2.2.2.2, (0 : Int), (999 : Int))) fun r8 => some r8 else some false) fun u7 => some u7 else Option.bind (bif (x.2.2.2.1 == (0 : Int)) then some (x.2.2.2.2 == (0 : Int)) else some false) fun u9 => some u9
theorem yu1 : EV [y9f] lpN 202 Tryz.f202 ynB y16 [.bool] JS := fun x => by kernel_rfl
def yzj : QF := ⟨202, JS, okN (n := 0) Tryz.func202 trivial yu1⟩
abbrev kO : Type := ykX
def Zy (k0 : Bool → Option R) (k1 : Unit → Option R) (again : kO → Option R) (t2 : kO) : Option R :=
 bif (decide (t2.2 < (List.length t2.1 : Int))) then if (0 : Int) ≤ (Go.IntKind.wrap .i64 (t2.2 - (1 : Int))) then if (Go.IntKind.wrap .i64 (t2.2 - (1 : Int))) < (List.length t2.1 : Int) then if (0 : Int) ≤ t2.2 then if t2.2 < (List.length t2.1 : Int) then Option.bind (ZS ((y0 t2.1 (Go.IntKind.wrap .i64 (t2.2 - (1 : Int)))).1, (y0 t2.1 (Go.IntKind.wrap .i64 (t2.2 - (1 : Int)))).2.1, (y0 t2.1 (Go.IntKind.wrap .i64 (t2.2 - (1 : Int)))).2.2.1, (y0 t2.1 (Go.IntKind.wrap .i64 (t2.2 - (1 : Int)))).2.2.2.1, (y0 t2.1 (Go.IntKind.wrap .i64 (t2.2 - (1 : Int)))).2.2.2.2, (y0 t2.1 t2.2).1, (y0 t2.1 t2.2).2.1, (y0 t2.1 t2.2).2.2.1, (y0 t2.1 t2.2).2.2.2.1, (y0 t2.1 t2.2).2.2.2.2)) fun r1 => bif (!r1) then k0 false else again (t2.1, (Go.IntKind.wrap .i64 (t2.2 + (1 : Int)))) else none else none else none else none else k1 ()
def qs k0 k1 := z6 (@Zy R k0 k1) zd
def Ja (x : List ya) : Option Bool :=
 qs (fun x2 => some x2) (fun x3 => some true) (x, (1 : Int))
def yj8 : List QF := [yzg]
def y63 (t : ykX) : St := ⟨Vx t.1 :: dd 2 (vI t.2 :: dd 17 []), []⟩
def yhd : Gk kO := fun κ => Zy (fun t => κ none ⟨dd 2 (vB t :: dd 18 []), []⟩) (fun t => κ (some 0) ⟨dd 21 [], []⟩)
def yj9 : Lp := lpC 2 (unG ykY y63) @yhd lpN
theorem ypu : LF yj8 yj9 300 2 Tryz.f300 0 y63 @yhd fun t => t := fun R κ again t => by kernel_rfl
theorem ypv : LK yj8 yj9 300 Tryz.f300 0 := lkN (u := (unG ykY y63)) (yf fun t => by kernel_rfl) ypu
theorem yu2 : EV yj8 yj9 300 Tryz.f300 ynC [(.sl 106 yj)] [.bool] Ja := fun x => by kernel_rfl
def yzV : QF := ⟨300, Ja, okN (n := 1) Tryz.func300 ⟨ypv, trivial⟩ yu2⟩
abbrev V9 : Type := ykX
def Jb (k0 : yxh → Option R) (k1 : List ya → Option R) (again : V9 → Option R) (t2 : V9) : Option R :=
 bif (decide (t2.2 < (List.length t2.1 : Int))) then if (0 : Int) ≤ t2.2 then if t2.2 < (List.length t2.1 : Int) then Option.bind (JS ((y0 t2.1 t2.2).1, (y0 t2.1 t2.2).2.1, (y0 t2.1 t2.2).2.2.1, (y0 t2.1 t2.2).2.2.2.1, (y0 t2.1 t2.2).2.2.2.2)) fun r1 => bif (!r1) then k0 (t2.1, false) else again (t2.1, (Go.IntKind.wrap .i64 (t2.2 + (1 : Int)))) else none else none else k1 t2.1
def QZ k0 k1 := z6 (@Jb R k0 k1) zd
def kD (x : List ya) : Option Bool :=
 QZ (fun x2 => some x2.2) (fun x3 => Option.bind (Ja x3) fun r4 => Option.bind (bif r4 then some (decide ((List.length x3 : Int) ≤ (60 : Int))) else some false) fun u5 => some u5) (x, (0 : Int))
def yja : List QF := [yzj, yzV]
def y64 (t : ykX) : St := ⟨Vx t.1 :: dd 2 (vI t.2 :: dd 19 []), []⟩
def yhe : Gk V9 := fun κ => Jb (fun t => κ none ⟨Vx t.1 :: .dead :: vB t.2 :: dd 20 [], []⟩) (fun t => κ (some 0) ⟨Vx t :: dd 22 [], []⟩)
def yjb : Lp := lpC 2 (unG ykY y64) @yhe lpN
theorem ypw : LF yja yjb 276 2 Tryz.f276 0 y64 @yhe fun t => t := fun R κ again t => by kernel_rfl
theorem ypx : LK yja yjb 276 Tryz.f276 0 := lkN (u := (unG ykY y64)) (yf fun t => by kernel_rfl) ypw
theorem yu3 : EV yja yjb 276 Tryz.f276 ynD [(.sl 106 yj)] [.bool] kD := fun x => by kernel_rfl
def yzW : QF := ⟨276, kD, okN (n := 1) Tryz.func276 ⟨ypx, trivial⟩ yu3⟩
abbrev kP : Type := ysk
def Zz (k0 : Int → Option R) (again : kP → Option R) (t3 : kP) : Option R :=
 bif (decide (t3.2.1 < (List.length t3.2.2 : Int))) then if (0 : Int) ≤ t3.2.1 then if t3.2.1 < (List.length t3.2.2 : Int) then again ((Go.IntKind.wrap .i64 (t3.1 + (List.length (yh t3.2.2 t3.2.1) : Int))), (Go.IntKind.wrap .i64 (t3.2.1 + (1 : Int))), t3.2.2) else none else none else k0 t3.1
def qt k0 := z6 (@Zz R k0) zd
def Jc (x : List y9) : Option Int :=
 qt (fun x1 => some x1) ((0 : Int), (0 : Int), x)
def yjc : List QF := []
def y65 (t : ysk) : St := ⟨.dead :: .box 1 0 :: .dead :: vI t.1 :: vI t.2.1 :: dd 16 [], [(1, .box [zH t.2.2])]⟩
def yhf : Gk kP := fun κ => Zz (fun t => κ (some 0) ⟨dd 3 (vI t :: dd 17 []), []⟩)
def yjd : Lp := lpC 3 (unG ysl y65) @yhf lpN
theorem ypy : LF yjc yjd 277 3 Tryz.f277 0 y65 @yhf fun t => t := fun R κ again t => by kernel_rfl
theorem ypz : LK yjc yjd 277 Tryz.f277 0 := lkN (u := (unG ysl y65)) (yf fun t => by kernel_rfl) ypy
theorem yu4 : EV yjc yjd 277 Tryz.f277 ynE [(.sl 100 yr)] [(.int .i64)] Jc := fun x => by kernel_rfl
def yzX : QF := ⟨277, Jc, okN (n := 1) Tryz.func277 ⟨ypz, trivial⟩ yu4⟩
abbrev KW : Type := Qz0
def ji (k0 : yzv → Option R) (k1 : List y9 → Option R) (again : KW → Option R) (t2 : KW) : Option R :=
 bif (decide (t2.1 < (List.length t2.2 : Int))) then if (0 : Int) ≤ t2.1 then if t2.1 < (List.length t2.2 : Int) then Option.bind (kD (yh t2.2 t2.1)) fun r1 => Option.bind (bif (!r1) then some true else if (0 : Int) ≤ t2.1 then if t2.1 < (List.length t2.2 : Int) then some ((List.length (yh t2.2 t2.1) : Int) == (0 : Int)) else none else none) fun u2 => bif u2 then k0 (false, t2.2) else again ((Go.IntKind.wrap .i64 (t2.1 + (1 : Int))), t2.2) else none else none else k1 t2.2
def Q1 k0 k1 := z6 (@ji R k0 k1) zd
def we (x : List y9) : Option Bool :=
 Q1 (fun x3 => some x3.1) (fun x4 => Option.bind (bif (decide ((List.length x4 : Int) ≤ (3 : Int))) then Option.bind (Jc x4) fun r6 => some (decide (r6 ≤ (8 : Int))) else some false) fun u5 => some u5) ((0 : Int), x)
def yje : List QF := [yzW, yzX]
def y66 (t : Qz0) : St := ⟨.dead :: .box 1 0 :: .dead :: vI t.1 :: dd 32 [], [(1, .box [zH t.2])]⟩
def yhg : Gk KW := fun κ => ji (fun t => κ none ⟨.dead :: .box 1 0 :: vB t.1 :: dd 33 [], [(1, .box [zH t.2])]⟩) (fun t => κ (some 0) ⟨.dead :: .box 1 0 :: dd 34 [], [(1, .box [zH t])]⟩)
def yjf : Lp := lpC 2 (unG qz0 y66) @yhg lpN
theorem ypA : LF yje yjf 244 2 Tryz.f244 0 y66 @yhg fun t => t := fun R κ again t => by kernel_rfl
theorem ypB : LK yje yjf 244 Tryz.f244 0 := lkN (u := (unG qz0 y66)) (yf fun t => by kernel_rfl) ypA
theorem yu5 : EV yje yjf 244 Tryz.f244 ynF [(.sl 100 yr)] [.bool] we := fun x => by kernel_rfl
def yzY : QF := ⟨244, we, okN (n := 1) Tryz.func244 ⟨ypB, trivial⟩ yu5⟩
abbrev KX : Type := yxi
def jj (k0 : yzw → Option R) (k1 : ysQ → Option R) (again : KX → Option R) (t8 : KX) : Option R :=
 if (0 : Int) ≤ t8.2.1 then if t8.2.1 < (List.length t8.2.2.2.2.2 : Int) then bif (decide (t8.2.2.1 < (List.length (yh t8.2.2.2.2.2 t8.2.1) : Int))) then if (0 : Int) ≤ t8.2.1 then if t8.2.1 < (List.length t8.2.2.2.2.2 : Int) then if (0 : Int) ≤ t8.2.2.1 then if t8.2.2.1 < (List.length (yh t8.2.2.2.2.2 t8.2.1) : Int) then Option.bind (Kt ((y0 (yh t8.2.2.2.2.2 t8.2.1) t8.2.2.1).1, (y0 (yh t8.2.2.2.2.2 t8.2.1) t8.2.2.1).2.1, (y0 (yh t8.2.2.2.2.2 t8.2.1) t8.2.2.1).2.2.1, (y0 (yh t8.2.2.2.2.2 t8.2.1) t8.2.2.1).2.2.2.1, (y0 (yh t8.2.2.2.2.2 t8.2.1) t8.2.2.1).2.2.2.2)) fun r5 => if (0 : Int) ≤ t8.1 then if t8.1 < (List.length t8.2.2.2.1 : Int) then Option.bind (bif (decide (r5 < (zI t8.2.2.2.1 t8.1))) then some true else Option.bind (bif (decide ((Go.IntKind.wrap .i64 (t8.1 + (1 : Int))) < (List.length t8.2.2.2.1 : Int))) then if (0 : Int) ≤ (Go.IntKind.wrap .i64 (t8.1 + (1 : Int))) then if (Go.IntKind.wrap .i64 (t8.1 + (1 : Int))) < (List.length t8.2.2.2.1 : Int) then some (decide (r5 ≥ (zI t8.2.2.2.1 (Go.IntKind.wrap .i64 (t8.1 + (1 : Int)))))) else none else none else some false) fun u7 => some u7) fun u6 => bif u6 then k0 (t8.1, false, t8.2.1, t8.2.2.2) else again (t8.1, t8.2.1, (Go.IntKind.wrap .i64 (t8.2.2.1 + (1 : Int))), t8.2.2.2.1, t8.2.2.2.2.1, t8.2.2.2.2.2) else none else none else none else none else none else none else k1 (t8.1, t8.2.1, t8.2.2.2) else none else none
def KY k0 k1 := z6 (@jj R k0 k1) zd
abbrev KZ : Type := ysQ
def jk (k0 : Bool → Option R) (k1 : Unit → Option R) (again : KZ → Option R) (t5 : KZ) : Option R :=
 bif (decide (t5.2.1 < (List.length t5.2.2.2.2 : Int))) then KY (fun x8 => k0 x8.2.1) (fun x9 => again (x9.1, (Go.IntKind.wrap .i64 (x9.2.1 + (1 : Int))), x9.2.2.1, x9.2.2.2.1, x9.2.2.2.2)) (t5.1, t5.2.1, (0 : Int), t5.2.2.1, t5.2.2.2.1, t5.2.2.2.2) else k1 ()
def v5 k0 k1 := z6 (@jk R k0 k1) zd
def wg (x : ysm) : Option Bool :=
 if (0 : Int) ≤ x.2.2 then if x.2.2 < (List.length x.2.1 : Int) then Option.bind (we (yn x.2.1 x.2.2)) fun r1 => Option.bind (bif (!r1) then some true else Option.bind (bif (decide (x.2.2 > (0 : Int))) then Option.bind (zS (yn x.2.1 x.2.2)) fun r4 => some ((List.length r4 : Int) == (0 : Int)) else some false) fun u3 => some u3) fun u2 => bif u2 then some false else v5 (fun x10 => some x10) (fun x11 => some true) (x.2.2, (0 : Int), x.1, x.2.1, (yn x.2.1 x.2.2)) else none else none
def ydL : List QF := [yzh, yzU, yzY]
def y67 (t : yxi) : St := ⟨.dead :: vI t.1 :: .box 2 0 :: dd 2 (.box 5 0 :: vI t.2.1 :: vI t.2.2.1 :: dd 70 []), [(2, .box [zn t.2.2.2.1, yH t.2.2.2.2.1]), (5, .box [zH t.2.2.2.2.2])]⟩
def yhh : Gk KX := fun κ => jj (fun t => κ none ⟨.dead :: vI t.1 :: .box 2 0 :: .dead :: vB t.2.1 :: .box 5 0 :: vI t.2.2.1 :: dd 71 [], [(2, .box [zn t.2.2.2.1, yH t.2.2.2.2.1]), (5, .box [zH t.2.2.2.2.2])]⟩) (fun t => κ (some 2) ⟨.dead :: vI t.1 :: .box 2 0 :: dd 2 (.box 5 0 :: vI t.2.1 :: dd 71 []), [(2, .box [zn t.2.2.1, yH t.2.2.2.1]), (5, .box [zH t.2.2.2.2])]⟩)
def y68 (t : ysQ) : St := ⟨.dead :: vI t.1 :: .box 2 0 :: dd 2 (.box 5 0 :: vI t.2.1 :: dd 71 []), [(2, .box [zn t.2.2.1, yH t.2.2.2.1]), (5, .box [zH t.2.2.2.2])]⟩
def yhi : Gk KZ := fun κ => jk (fun t => κ none ⟨dd 4 (vB t :: dd 73 []), []⟩) (fun t => κ (some 0) ⟨dd 78 [], []⟩)
def ydM : Lp := lpC 5 (unG yxk y68) @yhi (lpC 8 (unG yxj y67) @yhh lpN)
theorem ypC : LF ydL ydM 195 8 Tryz.f195 1 y67 @yhh fun t => t := fun R κ again t => by kernel_rfl
theorem ypD : LK ydL ydM 195 Tryz.f195 1 := lkN (u := (unG yxj y67)) (yf fun t => by kernel_rfl) ypC
theorem ypE : LF ydL ydM 195 5 Tryz.f195 0 y68 @yhi fun t => t := fun R κ again t => by kernel_rfl
theorem ypF : LK ydL ydM 195 Tryz.f195 0 := lkN (u := (unG yxk y68)) (yf fun t => by kernel_rfl) ypE
theorem yu6 : EV ydL ydM 195 Tryz.f195 ynG ysn [.bool] wg := fun x => by kernel_rfl
def yzZ : QF := ⟨195, wg, okN (n := 2) Tryz.func195 ⟨ypF, ypD, trivial⟩ yu6⟩
abbrev v6 : Type := ysR
def jl (k0 : yzx → Option R) (k1 : Qz4 → Option R) (again : v6 → Option R) (t4 : v6) : Option R :=
 bif (decide (t4.1 < (List.length t4.2.2 : Int))) then Option.bind (bif (decide (t4.1 > (0 : Int))) then if (0 : Int) ≤ (Go.IntKind.wrap .i64 (t4.1 - (1 : Int))) then if (Go.IntKind.wrap .i64 (t4.1 - (1 : Int))) < (List.length t4.2.1 : Int) then if (0 : Int) ≤ t4.1 then if t4.1 < (List.length t4.2.1 : Int) then some (decide ((zI t4.2.1 (Go.IntKind.wrap .i64 (t4.1 - (1 : Int)))) ≥ (zI t4.2.1 t4.1))) else none else none else none else none else some false) fun u4 => Option.bind (bif u4 then some true else Option.bind (wg (t4.2.1, t4.2.2, t4.1)) fun r6 => some (!r6)) fun u5 => bif u5 then k0 (false, t4.2) else again ((Go.IntKind.wrap .i64 (t4.1 + (1 : Int))), t4.2.1, t4.2.2) else k1 t4.2
def Q2 k0 k1 := z6 (@jl R k0 k1) zd
def wh (x : Qz4) : Option Bool :=
 Option.bind (yt ((List.length x.2 : Int), (1 : Int), (20 : Int))) fun r1 => Option.bind (bif (!r1) then some true else some ((List.length x.1 : Int) != (List.length x.2 : Int))) fun u2 => Option.bind (bif u2 then some true else if (0 : Int) ≤ (0 : Int) then if (0 : Int) < (List.length x.1 : Int) then some ((zI x.1 (0 : Int)) != (0 : Int)) else none else none) fun u3 => bif u3 then some false else Q2 (fun x7 => some x7.1) (fun x8 => Option.bind (zT x8) fun r9 => some (decide ((List.length r9 : Int) ≤ (60 : Int)))) ((0 : Int), x.1, x.2)
def yjg : List QF := [y9f, yzi, yzZ]
def y69 (t : ysR) : St := ⟨.dead :: .box 1 0 :: .dead :: vI t.1 :: dd 54 [], [(1, .box [zn t.2.1, yH t.2.2])]⟩
def yhj : Gk v6 := fun κ => jl (fun t => κ none ⟨.dead :: .box 1 0 :: vB t.1 :: dd 55 [], [(1, .box [zn t.2.1, yH t.2.2])]⟩) (fun t => κ (some 0) ⟨.dead :: .box 1 0 :: dd 56 [], [(1, .box [zn t.1, yH t.2])]⟩)
def yjh : Lp := lpC 4 (unG ysS y69) @yhj lpN
theorem ypG : LF yjg yjh 120 4 Tryz.f120 0 y69 @yhj fun t => t := fun R κ again t => by kernel_rfl
theorem ypH : LK yjg yjh 120 Tryz.f120 0 := lkN (u := (unG ysS y69)) (yf fun t => by kernel_rfl) ypG
theorem yu7 : EV yjg yjh 120 Tryz.f120 ynH qz4 [.bool] wh := fun x => by kernel_rfl
def yA0 : QF := ⟨120, wh, okN (n := 1) Tryz.func120 ⟨ypH, trivial⟩ yu7⟩
abbrev Va : Type := yso
def Jd (k0 : Int → Option R) (k1 : Unit → Option R) (again : Va → Option R) (t2 : Va) : Option R :=
 bif (decide (t2.2.2 < (List.length t2.1 : Int))) then if (0 : Int) ≤ t2.2.2 then if t2.2.2 < (List.length t2.1 : Int) then bif ((z8 t2.1 t2.2.2).1 == t2.2.1) then k0 t2.2.2 else again (t2.1, t2.2.1, (Go.IntKind.wrap .i64 (t2.2.2 + (1 : Int)))) else none else none else k1 ()
def y00 k0 k1 := z6 (@Jd R k0 k1) zd
def Zj (x : yfC) : Option Int :=
 y00 (fun x1 => some x1) (fun x2 => some (-1 : Int)) (x.1, x.2, (0 : Int))
def yji : List QF := []
def y6a (t : yso) : St := ⟨zv t.1 :: vI t.2.1 :: dd 3 (vI t.2.2 :: dd 14 []), []⟩
def yhk : Gk Va := fun κ => Jd (fun t => κ none ⟨dd 4 (vI t :: dd 15 []), []⟩) (fun t => κ (some 0) ⟨dd 20 [], []⟩)
def yjj : Lp := lpC 2 (unG ysp y6a) @yhk lpN
theorem ypI : LF yji yjj 196 2 Tryz.f196 0 y6a @yhk fun t => t := fun R κ again t => by kernel_rfl
theorem ypJ : LK yji yjj 196 Tryz.f196 0 := lkN (u := (unG ysp y6a)) (yf fun t => by kernel_rfl) ypI
theorem yu8 : EV yji yjj 196 Tryz.f196 ynI yfD [(.int .i64)] Zj := fun x => by kernel_rfl
def yu9 : QF := ⟨196, Zj, okN (n := 1) Tryz.func196 ⟨ypJ, trivial⟩ yu8⟩
abbrev v7 : Type := yfC
def jm (k0 : yxl → Option R) (k1 : List yq → Option R) (again : v7 → Option R) (t2 : v7) : Option R :=
 bif (decide (t2.2 < (List.length t2.1 : Int))) then if (0 : Int) ≤ t2.2 then if t2.2 < (List.length t2.1 : Int) then Option.bind (yt ((z8 t2.1 t2.2).1, (1 : Int), (60 : Int))) fun r1 => Option.bind (bif (!r1) then some true else Option.bind (bif (decide (t2.2 > (0 : Int))) then if (0 : Int) ≤ (Go.IntKind.wrap .i64 (t2.2 - (1 : Int))) then if (Go.IntKind.wrap .i64 (t2.2 - (1 : Int))) < (List.length t2.1 : Int) then if (0 : Int) ≤ t2.2 then if t2.2 < (List.length t2.1 : Int) then some (decide ((z8 t2.1 (Go.IntKind.wrap .i64 (t2.2 - (1 : Int)))).1 ≥ (z8 t2.1 t2.2).1)) else none else none else none else none else some false) fun u3 => some u3) fun u2 => bif u2 then k0 (t2.1, false) else if (0 : Int) ≤ t2.2 then if t2.2 < (List.length t2.1 : Int) then Option.bind (bif ((z8 t2.1 t2.2).2 != (0 : Int)) then if (0 : Int) ≤ (0 : Int) then if (0 : Int) ≤ t2.2 then if t2.2 ≤ (List.length t2.1 : Int) then if (0 : Int) ≤ t2.2 then if t2.2 < (List.length t2.1 : Int) then Option.bind (Zj ((List.drop (Int.toNat (0 : Int)) (List.take (Int.toNat t2.2) t2.1)), (z8 t2.1 t2.2).2)) fun r5 => some (decide (r5 < (0 : Int))) else none else none else none else none else none else some false) fun u4 => bif u4 then k0 (t2.1, false) else again (t2.1, (Go.IntKind.wrap .i64 (t2.2 + (1 : Int)))) else none else none else none else none else k1 t2.1
def Q3 k0 k1 := z6 (@jm R k0 k1) zd
def wj (x : List yq) : Option Bool :=
 Q3 (fun x6 => some x6.2) (fun x7 => some (decide ((List.length x7 : Int) ≤ (16 : Int)))) (x, (0 : Int))
def yjk : List QF := [y9f, yu9]
def y6b (t : yfC) : St := ⟨zv t.1 :: dd 2 (vI t.2 :: dd 52 []), []⟩
def yhl : Gk v7 := fun κ => jm (fun t => κ none ⟨zv t.1 :: .dead :: vB t.2 :: dd 53 [], []⟩) (fun t => κ (some 0) ⟨zv t :: dd 55 [], []⟩)
def yjl : Lp := lpC 2 (unG yfD y6b) @yhl lpN
theorem ypK : LF yjk yjl 121 2 Tryz.f121 0 y6b @yhl fun t => t := fun R κ again t => by kernel_rfl
theorem ypL : LK yjk yjl 121 Tryz.f121 0 := lkN (u := (unG yfD y6b)) (yf fun t => by kernel_rfl) ypK
theorem yua : EV yjk yjl 121 Tryz.f121 ynJ [(.sl 89 yG)] [.bool] wj := fun x => by kernel_rfl
def yA1 : QF := ⟨121, wj, okN (n := 1) Tryz.func121 ⟨ypL, trivial⟩ yua⟩
def wk (x : Int) : Option Bool :=
 Option.bind (yt (x, (0 : Int), (65535 : Int))) fun r1 => some r1
theorem yub : EV [y9f] lpN 197 Tryz.f197 ynK [(.int .i64)] [.bool] wk := fun x => by kernel_rfl
def yA2 : QF := ⟨197, wk, okN (n := 0) Tryz.func197 trivial yub⟩
abbrev kQ : Type := ysq
def ZA (k0 : yxm → Option R) (k1 : List yb → Option R) (again : kQ → Option R) (t2 : kQ) : Option R :=
 bif (decide (t2.2 < (List.length t2.1 : Int))) then if (0 : Int) ≤ t2.2 then if t2.2 < (List.length t2.1 : Int) then Option.bind (yt ((ym t2.1 t2.2).1, (0 : Int), (999 : Int))) fun r1 => Option.bind (bif (!r1) then some true else if (0 : Int) ≤ t2.2 then if t2.2 < (List.length t2.1 : Int) then Option.bind (wk ((ym t2.1 t2.2).2.2)) fun r3 => some (!r3) else none else none) fun u2 => Option.bind (bif u2 then some true else if (0 : Int) ≤ t2.2 then if t2.2 < (List.length t2.1 : Int) then Option.bind (bif (!((ym t2.1 t2.2).2.1)) then if (0 : Int) ≤ t2.2 then if t2.2 < (List.length t2.1 : Int) then some ((ym t2.1 t2.2).2.2 != (0 : Int)) else none else none else some false) fun u5 => some u5 else none else none) fun u4 => bif u4 then k0 (t2.1, false) else again (t2.1, (Go.IntKind.wrap .i64 (t2.2 + (1 : Int)))) else none else none else k1 t2.1
def qu k0 k1 := z6 (@ZA R k0 k1) zd
def Je (x : List yb) : Option Bool :=
 qu (fun x6 => some x6.2) (fun x7 => some ((List.length x7 : Int) == (24 : Int))) (x, (0 : Int))
def yjm : List QF := [y9f, yA2]
def y6c (t : ysq) : St := ⟨yV t.1 :: dd 2 (vI t.2 :: dd 41 []), []⟩
def yhm : Gk kQ := fun κ => ZA (fun t => κ none ⟨yV t.1 :: .dead :: vB t.2 :: dd 42 [], []⟩) (fun t => κ (some 0) ⟨yV t :: dd 44 [], []⟩)
def yjn : Lp := lpC 2 (unG ysr y6c) @yhm lpN
theorem ypM : LF yjm yjn 122 2 Tryz.f122 0 y6c @yhm fun t => t := fun R κ again t => by kernel_rfl
theorem ypN : LK yjm yjn 122 Tryz.f122 0 := lkN (u := (unG ysr y6c)) (yf fun t => by kernel_rfl) ypM
theorem yuc : EV yjm yjn 122 Tryz.f122 ynL [(.sl 95 yl)] [.bool] Je := fun x => by kernel_rfl
def yA3 : QF := ⟨122, Je, okN (n := 1) Tryz.func122 ⟨ypN, trivial⟩ yuc⟩
abbrev v8 : Type := yss
def v9 (k0 : yxn → Option R) (k1 : ByteArray → Option R) (again : v8 → Option R) (t2 : v8) : Option R :=
 bif (decide (t2.2 < ((ByteArray.size t2.1 : Nat) : Int))) then if (0 : Int) ≤ t2.2 then if h1 : Int.toNat t2.2 < ByteArray.size t2.1 then Option.bind (yt ((Go.IntKind.wrap .i64 ((UInt8.toNat (ByteArray.get t2.1 (Int.toNat t2.2) h1) : Nat) : Int)), (97 : Int), (122 : Int))) fun r2 => Option.bind (bif (!r2) then if (0 : Int) ≤ t2.2 then if h4 : Int.toNat t2.2 < ByteArray.size t2.1 then Option.bind (yt ((Go.IntKind.wrap .i64 ((UInt8.toNat (ByteArray.get t2.1 (Int.toNat t2.2) h4) : Nat) : Int)), (48 : Int), (57 : Int))) fun r5 => some (!r5) else none else none else some false) fun u3 => bif u3 then k0 (t2.1, false) else again (t2.1, (Go.IntKind.wrap .i64 (t2.2 + (1 : Int)))) else none else none else k1 t2.1
def Q4 k0 k1 := z6 (@v9 R k0 k1) zd
def wl (x : ByteArray) : Option Bool :=
 Q4 (fun x6 => some x6.2) (fun x7 => Option.bind (yt (((ByteArray.size x7 : Nat) : Int), (1 : Int), (6 : Int))) fun r8 => some r8) (x, (0 : Int))
def yjo : List QF := [y9f]
def y6d (t : yss) : St := ⟨vS t.1 :: dd 2 (vI t.2 :: dd 23 []), []⟩
def yhn : Gk v8 := fun κ => v9 (fun t => κ none ⟨vS t.1 :: .dead :: vB t.2 :: dd 24 [], []⟩) (fun t => κ (some 0) ⟨vS t :: dd 26 [], []⟩)
def yjp : Lp := lpC 2 (unG yst y6d) @yhn lpN
theorem ypO : LF yjo yjp 198 2 Tryz.f198 0 y6d @yhn fun t => t := fun R κ again t => by kernel_rfl
theorem ypP : LK yjo yjp 198 Tryz.f198 0 := lkN (u := (unG yst y6d)) (yf fun t => by kernel_rfl) ypO
theorem yud : EV yjo yjp 198 Tryz.f198 ynM [.str] [.bool] wl := fun x => by kernel_rfl
def yA4 : QF := ⟨198, wl, okN (n := 1) Tryz.func198 ⟨ypP, trivial⟩ yud⟩
abbrev va : Type := yxo
def jn (k0 : List yx → Option R) (again : va → Option R) (t3 : va) : Option R :=
 bif (decide (t3.2.2.1 < (List.length t3.1 : Int))) then if (0 : Int) ≤ t3.2.2.1 then if t3.2.2.1 < (List.length t3.1 : Int) then Option.bind (bif ((z8 t3.1 t3.2.2.1).2 == t3.2.1) then some (t3.2.1 != (0 : Int)) else some false) fun u1 => bif u1 then if (0 : Int) ≤ t3.2.2.1 then if t3.2.2.1 < (List.length t3.1 : Int) then if (List.length t3.2.2.2 + List.length ([(z8 t3.1 t3.2.2.1).1] : List yx)) * 8 < 140737488355328 then again (t3.1, t3.2.1, (Go.IntKind.wrap .i64 (t3.2.2.1 + (1 : Int))), (t3.2.2.2 ++ ([(z8 t3.1 t3.2.2.1).1] : List yx))) else none else none else none else again (t3.1, t3.2.1, (Go.IntKind.wrap .i64 (t3.2.2.1 + (1 : Int))), t3.2.2.2) else none else none else k0 t3.2.2.2
def Q5 k0 := z6 (@jn R k0) zd
def wm (x : yfC) : Option (List yx) :=
 Q5 (fun x2 => some x2) (x.1, x.2, (0 : Int), ([] : List yx))
def yjq : List QF := []
def y6e (t : yxo) : St := ⟨zv t.1 :: vI t.2.1 :: dd 3 (.own 10000000 :: vI t.2.2.1 :: dd 27 []), [(10000000, .root true 3 yu t.2.2.2)]⟩
def yho : Gk va := fun κ => jn (fun t => κ (some 0) ⟨dd 5 (.own 10000000 :: dd 28 []), [(10000000, .root true 3 yu t)]⟩)
def yjr : Lp := lpC 3 (unG yxp y6e) @yho lpN
theorem ypQ : LF yjq yjr 199 3 Tryz.f199 0 y6e @yho fun t => t := fun R κ again t => by kernel_rfl
theorem ypR : LK yjq yjr 199 Tryz.f199 0 := lkN (u := (unG yxp y6e)) (yf fun t => by kernel_rfl) ypQ
theorem yue : EV yjq yjr 199 Tryz.f199 ynN yfD [(.sl 3 yu)] wm := fun x => by kernel_rfl
def yA5 : QF := ⟨199, wm, okN (n := 1) Tryz.func199 ⟨ypR, trivial⟩ yue⟩
abbrev kR : Type := yxq
def ZB (k0 : ysT → Option R) (k1 : yiR → Option R) (again : kR → Option R) (t8 : kR) : Option R :=
 bif (decide (t8.2.1 < t8.1)) then if (0 : Int) ≤ t8.2.1 then if t8.2.1 < (List.length t8.2.2.2.2.2.2.1 : Int) then bif ((yo t8.2.2.2.2.2.2.1 t8.2.1).2.1 == t8.2.2.2.2.2.2.2.2.2.1) then k0 (false, t8.1, t8.2.2.1, t8.2.2.2.1, t8.2.2.2.2.1, t8.2.2.2.2.2.1, t8.2.2.2.2.2.2.1, t8.2.2.2.2.2.2.2.1) else again (t8.1, (Go.IntKind.wrap .i64 (t8.2.1 + (1 : Int))), t8.2.2.1, t8.2.2.2.1, t8.2.2.2.2.1, t8.2.2.2.2.2.1, t8.2.2.2.2.2.2.1, t8.2.2.2.2.2.2.2.1, t8.2.2.2.2.2.2.2.2.1, t8.2.2.2.2.2.2.2.2.2.1, t8.2.2.2.2.2.2.2.2.2.2.1, t8.2.2.2.2.2.2.2.2.2.2.2) else none else none else k1 (t8.1, t8.2.2.1, t8.2.2.2.1, t8.2.2.2.2.1, t8.2.2.2.2.2.1, t8.2.2.2.2.2.2.1, t8.2.2.2.2.2.2.2.1)
def kS k0 k1 := z6 (@ZB R k0 k1) zd
abbrev kT : Type := yiR
def ZC (k0 : ysv → Option R) (k1 : Qz5 → Option R) (again : kT → Option R) (t2 : kT) : Option R :=
 bif (decide (t2.1 < (List.length t2.2.2.2.2.2.1 : Int))) then if (0 : Int) ≤ t2.1 then if t2.1 < (List.length t2.2.2.2.2.2.1 : Int) then Option.bind (wl ((yo t2.2.2.2.2.2.1 t2.1).1)) fun r1 => Option.bind (bif (!r1) then some true else Option.bind (yt ((yo t2.2.2.2.2.2.1 t2.1).2.2.1, (1 : Int), (12 : Int))) fun r3 => some (!r3)) fun u2 => Option.bind (bif u2 then some true else Option.bind (Zj (t2.2.2.2.1, (yo t2.2.2.2.2.2.1 t2.1).2.1)) fun r5 => some (decide (r5 < (0 : Int)))) fun u4 => Option.bind (bif u4 then some true else Option.bind (wm (t2.2.2.2.1, (yo t2.2.2.2.2.2.1 t2.1).2.1)) fun r7 => some (decide ((List.length r7 : Int) > (0 : Int)))) fun u6 => Option.bind (bif u6 then some true else Option.bind (bif (decide (t2.1 > (0 : Int))) then if (0 : Int) ≤ (Go.IntKind.wrap .i64 (t2.1 - (1 : Int))) then if (Go.IntKind.wrap .i64 (t2.1 - (1 : Int))) < (List.length t2.2.2.2.2.2.1 : Int) then some (!Go.Op.bytesLess (ByteArray.toList ((yo t2.2.2.2.2.2.1 (Go.IntKind.wrap .i64 (t2.1 - (1 : Int)))).1)) (ByteArray.toList ((yo t2.2.2.2.2.2.1 t2.1).1))) else none else none else some false) fun u9 => some u9) fun u8 => bif u8 then k0 (false, t2.2) else kS (fun x10 => k0 (x10.1, x10.2.2)) (fun x11 => again ((Go.IntKind.wrap .i64 (x11.1 + (1 : Int))), x11.2.1, x11.2.2.1, x11.2.2.2.1, x11.2.2.2.2.1, x11.2.2.2.2.2.1, x11.2.2.2.2.2.2)) (t2.1, (0 : Int), t2.2.1, t2.2.2.1, t2.2.2.2.1, t2.2.2.2.2.1, t2.2.2.2.2.2.1, t2.2.2.2.2.2.2, (yo t2.2.2.2.2.2.1 t2.1).1, (yo t2.2.2.2.2.2.1 t2.1).2.1, (yo t2.2.2.2.2.2.1 t2.1).2.2.1, (yo t2.2.2.2.2.2.1 t2.1).2.2.2) else none else none else k1 t2.2
def qv k0 k1 := z6 (@ZC R k0 k1) zd
def Jf (x : Qz5) : Option Bool :=
 qv (fun x12 => some x12.1) (fun x13 => some (decide ((List.length x13.2.2.2.2.1 : Int) ≤ (6 : Int)))) ((0 : Int), x.1, x.2.1, x.2.2.1, x.2.2.2.1, x.2.2.2.2.1, x.2.2.2.2.2)
def ydN : List QF := [y9f, yu9, yA4, yA5]
def y6f (t : yxq) : St := ⟨.dead :: .box 1 0 :: .dead :: vI t.1 :: .box 4 0 :: vI t.2.1 :: dd 73 [], [(1, .box [zn t.2.2.1, yH t.2.2.2.1, zv t.2.2.2.2.1, yV t.2.2.2.2.2.1, Y4 t.2.2.2.2.2.2.1, vI t.2.2.2.2.2.2.2.1]), (4, .box [vS t.2.2.2.2.2.2.2.2.1, vI t.2.2.2.2.2.2.2.2.2.1, vI t.2.2.2.2.2.2.2.2.2.2.1, vB t.2.2.2.2.2.2.2.2.2.2.2])]⟩
def yhp : Gk kR := fun κ => ZB (fun t => κ none ⟨.dead :: .box 1 0 :: vB t.1 :: vI t.2.1 :: dd 75 [], [(1, .box [zn t.2.2.1, yH t.2.2.2.1, zv t.2.2.2.2.1, yV t.2.2.2.2.2.1, Y4 t.2.2.2.2.2.2.1, vI t.2.2.2.2.2.2.2])]⟩) (fun t => κ (some 2) ⟨.dead :: .box 1 0 :: .dead :: vI t.1 :: dd 75 [], [(1, .box [zn t.2.1, yH t.2.2.1, zv t.2.2.2.1, yV t.2.2.2.2.1, Y4 t.2.2.2.2.2.1, vI t.2.2.2.2.2.2])]⟩)
def y6g (t : yiR) : St := ⟨.dead :: .box 1 0 :: .dead :: vI t.1 :: dd 75 [], [(1, .box [zn t.2.1, yH t.2.2.1, zv t.2.2.2.1, yV t.2.2.2.2.1, Y4 t.2.2.2.2.2.1, vI t.2.2.2.2.2.2])]⟩
def yhq : Gk kT := fun κ => ZC (fun t => κ none ⟨.dead :: .box 1 0 :: vB t.1 :: dd 76 [], [(1, .box [zn t.2.1, yH t.2.2.1, zv t.2.2.2.1, yV t.2.2.2.2.1, Y4 t.2.2.2.2.2.1, vI t.2.2.2.2.2.2])]⟩) (fun t => κ (some 0) ⟨.dead :: .box 1 0 :: dd 77 [], [(1, .box [zn t.1, yH t.2.1, zv t.2.2.1, yV t.2.2.2.1, Y4 t.2.2.2.2.1, vI t.2.2.2.2.2])]⟩)
def ydO : Lp := lpC 2 (unG ysu y6g) @yhq (lpC 8 (unG yxr y6f) @yhp lpN)
theorem ypS : LF ydN ydO 123 8 Tryz.f123 1 y6f @yhp fun t => t := fun R κ again t => by kernel_rfl
theorem ypT : LK ydN ydO 123 Tryz.f123 1 := lkN (u := (unG yxr y6f)) (yf fun t => by kernel_rfl) ypS
theorem ypU : LF ydN ydO 123 2 Tryz.f123 0 y6g @yhq fun t => t := fun R κ again t => by kernel_rfl
theorem ypV : LK ydN ydO 123 Tryz.f123 0 := lkN (u := (unG ysu y6g)) (yf fun t => by kernel_rfl) ypU
theorem yuf : EV ydN ydO 123 Tryz.f123 ynO qz5 [.bool] Jf := fun x => by kernel_rfl
def yA6 : QF := ⟨123, Jf, okN (n := 2) Tryz.func123 ⟨ypV, ypT, trivial⟩ yuf⟩
def jT (x : ykZ) : Option yxs :=
 Option.bind (yt (x.2.1, (0 : Int), (Go.IntKind.wrap .i64 ((List.length x.1 : Int) - (1 : Int))))) fun r1 => Option.bind (bif (!r1) then some true else if (0 : Int) ≤ x.2.1 then if x.2.1 < (List.length x.1 : Int) then some (!((ym x.1 x.2.1).2.1)) else none else none) fun u2 => Option.bind (bif u2 then some true else if (0 : Int) ≤ x.2.1 then if x.2.1 < (List.length x.1 : Int) then some ((ym x.1 x.2.1).1 != x.2.2) else none else none) fun u3 => bif u3 then some ((0 : Int), false) else if (0 : Int) ≤ x.2.1 then if x.2.1 < (List.length x.1 : Int) then some ((ym x.1 x.2.1).2.2, true) else none else none
theorem yug : EV [y9f] lpN 200 Tryz.f200 ynP yl0 yxt jT := fun x => by kernel_rfl
def yA7 : QF := ⟨200, jT, okN (n := 0) Tryz.func200 trivial yug⟩
abbrev wo : Type := ykZ
def Yv (k0 : Int → Option R) (again : wo → Option R) (t3 : wo) : Option R :=
 bif (decide (t3.2.2 < (List.length t3.1 : Int))) then if (0 : Int) ≤ t3.2.2 then if t3.2.2 < (List.length t3.1 : Int) then bif (ym t3.1 t3.2.2).2.1 then again (t3.1, (Go.IntKind.wrap .i64 (t3.2.1 + (1 : Int))), (Go.IntKind.wrap .i64 (t3.2.2 + (1 : Int)))) else again (t3.1, t3.2.1, (Go.IntKind.wrap .i64 (t3.2.2 + (1 : Int)))) else none else none else k0 t3.2.1
def vQ k0 := z6 (@Yv R k0) zd
def ZD (x : List yb) : Option Int :=
 vQ (fun x1 => some x1) (x, (0 : Int), (0 : Int))
def yjs : List QF := []
def y6h (t : ykZ) : St := ⟨yV t.1 :: dd 2 (vI t.2.1 :: vI t.2.2 :: dd 14 []), []⟩
def yhr : Gk wo := fun κ => Yv (fun t => κ (some 0) ⟨dd 3 (vI t :: dd 15 []), []⟩)
def yjt : Lp := lpC 3 (unG yl0 y6h) @yhr lpN
theorem ypW : LF yjs yjt 201 3 Tryz.f201 0 y6h @yhr fun t => t := fun R κ again t => by kernel_rfl
theorem ypX : LK yjs yjt 201 Tryz.f201 0 := lkN (u := (unG yl0 y6h)) (yf fun t => by kernel_rfl) ypW
theorem yuh : EV yjs yjt 201 Tryz.f201 ynQ [(.sl 95 yl)] [(.int .i64)] ZD := fun x => by kernel_rfl
def yA8 : QF := ⟨201, ZD, okN (n := 1) Tryz.func201 ⟨ypX, trivial⟩ yuh⟩
abbrev Ww : Type := yxu
def YI (k0 : yzy → Option R) (k1 : ysU → Option R) (again : Ww → Option R) (t14 : Ww) : Option R :=
 bif (decide (t14.2.2.1 < t14.2.1)) then if (0 : Int) ≤ t14.2.2.1 then if t14.2.2.1 < (List.length t14.2.2.2.2.2.2.2.2.2 : Int) then Option.bind (bif ((y0 t14.2.2.2.2.2.2.2.2.2 t14.2.2.1).2.2.1 == (1 : Int)) then if (0 : Int) ≤ t14.2.2.1 then if t14.2.2.1 < (List.length t14.2.2.2.2.2.2.2.2.2 : Int) then if (0 : Int) ≤ t14.2.1 then if t14.2.1 < (List.length t14.2.2.2.2.2.2.2.2.2 : Int) then some ((y0 t14.2.2.2.2.2.2.2.2.2 t14.2.2.1).2.2.2.1 == (y0 t14.2.2.2.2.2.2.2.2.2 t14.2.1).2.2.2.1) else none else none else none else none else some false) fun u4 => bif u4 then k0 (false, t14.1, t14.2.1, t14.2.2.2) else again (t14.1, t14.2.1, (Go.IntKind.wrap .i64 (t14.2.2.1 + (1 : Int))), t14.2.2.2.1, t14.2.2.2.2.1, t14.2.2.2.2.2.1, t14.2.2.2.2.2.2.1, t14.2.2.2.2.2.2.2.1, t14.2.2.2.2.2.2.2.2.1, t14.2.2.2.2.2.2.2.2.2) else none else none else k1 (t14.1, t14.2.1, t14.2.2.2)
def Wx k0 k1 := z6 (@YI R k0 k1) zd
abbrev kU : Type := ysU
def ZE (k0 : ysT → Option R) (k1 : yiR → Option R) (again : kU → Option R) (t4 : kU) : Option R :=
 bif (decide (t4.2.1 < (List.length t4.2.2.2.2.2.2.2.2 : Int))) then if (0 : Int) ≤ t4.2.1 then if t4.2.1 < (List.length t4.2.2.2.2.2.2.2.2 : Int) then Option.bind (Zj (t4.2.2.2.2.1, (y0 t4.2.2.2.2.2.2.2.2 t4.2.1).2.1)) fun r2 => bif (decide (r2 < (0 : Int))) then k0 (false, t4.1, t4.2.2.1, t4.2.2.2.1, t4.2.2.2.2.1, t4.2.2.2.2.2.1, t4.2.2.2.2.2.2.1, t4.2.2.2.2.2.2.2.1) else if (0 : Int) ≤ t4.2.1 then if t4.2.1 < (List.length t4.2.2.2.2.2.2.2.2 : Int) then bif ((y0 t4.2.2.2.2.2.2.2.2 t4.2.1).2.2.1 != (1 : Int)) then again (t4.1, (Go.IntKind.wrap .i64 (t4.2.1 + (1 : Int))), t4.2.2.1, t4.2.2.2.1, t4.2.2.2.2.1, t4.2.2.2.2.2.1, t4.2.2.2.2.2.2.1, t4.2.2.2.2.2.2.2.1, t4.2.2.2.2.2.2.2.2) else if (0 : Int) ≤ t4.2.1 then if t4.2.1 < (List.length t4.2.2.2.2.2.2.2.2 : Int) then if (0 : Int) ≤ t4.2.1 then if t4.2.1 < (List.length t4.2.2.2.2.2.2.2.2 : Int) then Option.bind (jT (t4.2.2.2.2.2.1, (y0 t4.2.2.2.2.2.2.2.2 t4.2.1).2.2.2.1, (y0 t4.2.2.2.2.2.2.2.2 t4.2.1).2.2.2.2)) fun r3 => bif (!r3.2) then k0 (false, (Go.IntKind.wrap .i64 (t4.1 + (1 : Int))), t4.2.2.1, t4.2.2.2.1, t4.2.2.2.2.1, t4.2.2.2.2.2.1, t4.2.2.2.2.2.2.1, t4.2.2.2.2.2.2.2.1) else Wx (fun x5 => k0 (x5.1, x5.2.1, x5.2.2.2.1, x5.2.2.2.2.1, x5.2.2.2.2.2.1, x5.2.2.2.2.2.2.1, x5.2.2.2.2.2.2.2.1, x5.2.2.2.2.2.2.2.2.1)) (fun x6 => again (x6.1, (Go.IntKind.wrap .i64 (x6.2.1 + (1 : Int))), x6.2.2.1, x6.2.2.2.1, x6.2.2.2.2.1, x6.2.2.2.2.2.1, x6.2.2.2.2.2.2.1, x6.2.2.2.2.2.2.2.1, x6.2.2.2.2.2.2.2.2)) ((Go.IntKind.wrap .i64 (t4.1 + (1 : Int))), t4.2.1, (0 : Int), t4.2.2.1, t4.2.2.2.1, t4.2.2.2.2.1, t4.2.2.2.2.2.1, t4.2.2.2.2.2.2.1, t4.2.2.2.2.2.2.2.1, t4.2.2.2.2.2.2.2.2) else none else none else none else none else none else none else none else none else k1 (t4.1, t4.2.2.1, t4.2.2.2.1, t4.2.2.2.2.1, t4.2.2.2.2.2.1, t4.2.2.2.2.2.2.1, t4.2.2.2.2.2.2.2.1)
def qw k0 k1 := z6 (@ZE R k0 k1) zd
def Jg (x : Qz5) : Option Bool :=
 Option.bind (zT (x.1, x.2.1)) fun r1 => qw (fun x7 => some x7.1) (fun x8 => Option.bind (ZD x8.2.2.2.2.1) fun r9 => some (x8.1 == r9)) ((0 : Int), (0 : Int), x.1, x.2.1, x.2.2.1, x.2.2.2.1, x.2.2.2.2.1, x.2.2.2.2.2, r1)
def ydP : List QF := [yzi, yu9, yA7, yA8]
def y3z (t : yxu) : St := ⟨.dead :: .box 1 0 :: .dead :: .own 10000000 :: vI t.1 :: vI t.2.1 :: dd 2 (vI t.2.2.1 :: dd 73 []), [(1, .box [zn t.2.2.2.1, yH t.2.2.2.2.1, zv t.2.2.2.2.2.1, yV t.2.2.2.2.2.2.1, Y4 t.2.2.2.2.2.2.2.1, vI t.2.2.2.2.2.2.2.2.1]), (10000000, .root true 106 yj t.2.2.2.2.2.2.2.2.2)]⟩
def ydQ : Gk Ww := fun κ => YI (fun t => κ none ⟨.dead :: .box 1 0 :: vB t.1 :: .own 10000000 :: vI t.2.1 :: vI t.2.2.1 :: dd 76 [], [(1, .box [zn t.2.2.2.1, yH t.2.2.2.2.1, zv t.2.2.2.2.2.1, yV t.2.2.2.2.2.2.1, Y4 t.2.2.2.2.2.2.2.1, vI t.2.2.2.2.2.2.2.2.1]), (10000000, .root true 106 yj t.2.2.2.2.2.2.2.2.2)]⟩) (fun t => κ (some 2) ⟨.dead :: .box 1 0 :: .dead :: .own 10000000 :: vI t.1 :: vI t.2.1 :: dd 76 [], [(1, .box [zn t.2.2.1, yH t.2.2.2.1, zv t.2.2.2.2.1, yV t.2.2.2.2.2.1, Y4 t.2.2.2.2.2.2.1, vI t.2.2.2.2.2.2.2.1]), (10000000, .root true 106 yj t.2.2.2.2.2.2.2.2)]⟩)
def y6i (t : ysU) : St := ⟨.dead :: .box 1 0 :: .dead :: .own 10000000 :: vI t.1 :: vI t.2.1 :: dd 76 [], [(1, .box [zn t.2.2.1, yH t.2.2.2.1, zv t.2.2.2.2.1, yV t.2.2.2.2.2.1, Y4 t.2.2.2.2.2.2.1, vI t.2.2.2.2.2.2.2.1]), (10000000, .root true 106 yj t.2.2.2.2.2.2.2.2)]⟩
def yhs : Gk kU := fun κ => ZE (fun t => κ none ⟨.dead :: .box 1 0 :: vB t.1 :: .dead :: vI t.2.1 :: dd 77 [], [(1, .box [zn t.2.2.1, yH t.2.2.2.1, zv t.2.2.2.2.1, yV t.2.2.2.2.2.1, Y4 t.2.2.2.2.2.2.1, vI t.2.2.2.2.2.2.2])]⟩) (fun t => κ (some 0) ⟨.dead :: .box 1 0 :: dd 2 (vI t.1 :: dd 77 []), [(1, .box [zn t.2.1, yH t.2.2.1, zv t.2.2.2.1, yV t.2.2.2.2.1, Y4 t.2.2.2.2.2.1, vI t.2.2.2.2.2.2])]⟩)
def ydR : Lp := lpC 4 (unG yxw y6i) @yhs (lpC 14 (unG yxv y3z) @ydQ lpN)
theorem yju : LF ydP ydR 124 14 Tryz.f124 1 y3z @ydQ fun t => t := fun R κ again t => by kernel_rfl
theorem yjv : LK ydP ydR 124 Tryz.f124 1 := lkN (u := (unG yxv y3z)) (yf fun t => by kernel_rfl) yju
theorem ypY : LF ydP ydR 124 4 Tryz.f124 0 y6i @yhs fun t => t := fun R κ again t => by kernel_rfl
theorem ypZ : LK ydP ydR 124 Tryz.f124 0 := lkN (u := (unG yxw y6i)) (yf fun t => by kernel_rfl) ypY
theorem yui : EV ydP ydR 124 Tryz.f124 ynR qz5 [.bool] Jg := fun x => by kernel_rfl
def yA9 : QF := ⟨124, Jg, okN (n := 2) Tryz.func124 ⟨ypZ, yjv, trivial⟩ yui⟩
abbrev vb : Type := yiR
def jo (k0 : ysv → Option R) (k1 : Qz5 → Option R) (again : vb → Option R) (t2 : vb) : Option R :=
 bif (decide (t2.1 < (List.length t2.2.2.2.1 : Int))) then if (0 : Int) ≤ t2.1 then if t2.1 < (List.length t2.2.2.2.1 : Int) then bif (decide ((z8 t2.2.2.2.1 t2.1).1 ≥ t2.2.2.2.2.2.2)) then k0 (false, t2.2) else again ((Go.IntKind.wrap .i64 (t2.1 + (1 : Int))), t2.2.1, t2.2.2.1, t2.2.2.2.1, t2.2.2.2.2.1, t2.2.2.2.2.2.1, t2.2.2.2.2.2.2) else none else none else k1 t2.2
def Q6 k0 k1 := z6 (@jo R k0 k1) zd
def jU (x : Qz5) : Option Bool :=
 Q6 (fun x1 => some x1.1) (fun x2 => Option.bind (wh (x2.1, x2.2.1)) fun r3 => Option.bind (bif r3 then Option.bind (wj x2.2.2.1) fun r5 => some r5 else some false) fun u4 => Option.bind (bif u4 then Option.bind (Je x2.2.2.2.1) fun r7 => some r7 else some false) fun u6 => Option.bind (bif u6 then Option.bind (yt (x2.2.2.2.2.2, (1 : Int), (61 : Int))) fun r9 => some r9 else some false) fun u8 => Option.bind (bif u8 then Option.bind (Jf x2) fun r11 => some r11 else some false) fun u10 => Option.bind (bif u10 then Option.bind (Jg x2) fun r13 => some r13 else some false) fun u12 => some u12) ((0 : Int), x.1, x.2.1, x.2.2.1, x.2.2.2.1, x.2.2.2.2.1, x.2.2.2.2.2)
def yuj : List QF := [y9f, yA0, yA1, yA3, yA6, yA9]
def y9R (t : yiR) : St := ⟨.dead :: .box 1 0 :: .dead :: vI t.1 :: dd 42 [], [(1, .box [zn t.2.1, yH t.2.2.1, zv t.2.2.2.1, yV t.2.2.2.2.1, Y4 t.2.2.2.2.2.1, vI t.2.2.2.2.2.2])]⟩
def yq0 : Gk vb := fun κ => jo (fun t => κ none ⟨.dead :: .box 1 0 :: vB t.1 :: dd 43 [], [(1, .box [zn t.2.1, yH t.2.2.1, zv t.2.2.2.1, yV t.2.2.2.2.1, Y4 t.2.2.2.2.2.1, vI t.2.2.2.2.2.2])]⟩) (fun t => κ (some 0) ⟨.dead :: .box 1 0 :: dd 44 [], [(1, .box [zn t.1, yH t.2.1, zv t.2.2.1, yV t.2.2.2.1, Y4 t.2.2.2.2.1, vI t.2.2.2.2.2])]⟩)
def yuk : Lp := lpC 2 (unG ysu y9R) @yq0 lpN
theorem yul : LF yuj yuk 47 2 Tryz.f47 0 y9R @yq0 fun t => t := fun R κ again t => by kernel_rfl
theorem yum : LK yuj yuk 47 Tryz.f47 0 := lkN (u := (unG ysu y9R)) (yf fun t => by kernel_rfl) yul
theorem yAa : EV yuj yuk 47 Tryz.f47 yyt qz5 [.bool] jU := fun x => by kernel_rfl
def q47 : QF := ⟨47, jU, okN (n := 1) Tryz.func47 ⟨yum, trivial⟩ yAa⟩
abbrev Vb : Type := ysw
def Jh (k0 : ysV → Option R) (k1 : y9d → Option R) (again : Vb → Option R) (t2 : Vb) : Option R :=
 bif (decide (t2.1 < (List.length t2.2.1 : Int))) then if (0 : Int) ≤ t2.1 then if t2.1 < (List.length t2.2.1 : Int) then bif (decide ((List.length (zL t2.2.1 t2.1) : Int) > (80 : Int))) then k0 (false, t2.2) else again ((Go.IntKind.wrap .i64 (t2.1 + (1 : Int))), t2.2.1, t2.2.2.1, t2.2.2.2.1, t2.2.2.2.2) else none else none else k1 t2.2
def y01 k0 k1 := z6 (@Jh R k0 k1) zd
abbrev Vc : Type := ysw
def Ji (k0 : ysV → Option R) (k1 : y9d → Option R) (again : Vc → Option R) (t7 : Vc) : Option R :=
 bif (decide (t7.1 < (List.length t7.2.2.1 : Int))) then if (0 : Int) ≤ t7.1 then if t7.1 < (List.length t7.2.2.1 : Int) then Option.bind (yt ((yW t7.2.2.1 t7.1).1, (0 : Int), (Go.IntKind.wrap .i64 ((List.length t7.2.1 : Int) - (1 : Int))))) fun r3 => Option.bind (bif (!r3) then some true else if (0 : Int) ≤ t7.1 then if t7.1 < (List.length t7.2.2.1 : Int) then some (decide (((List.length ((yW t7.2.2.1 t7.1).2) : Nat) : Int) > (80 : Int))) else none else none) fun u4 => bif u4 then k0 (false, t7.2) else again ((Go.IntKind.wrap .i64 (t7.1 + (1 : Int))), t7.2.1, t7.2.2.1, t7.2.2.2.1, t7.2.2.2.2) else none else none else k1 t7.2
def y02 k0 k1 := z6 (@Ji R k0 k1) zd
def kE (x : y9d) : Option Bool :=
 y01 (fun x1 => some x1.1) (fun x2 => y02 (fun x5 => some x5.1) (fun x6 => Option.bind (yt ((List.length x6.1 : Int), (1 : Int), (60 : Int))) fun r7 => Option.bind (bif r7 then some (decide ((List.length x6.2.1 : Int) ≤ (60 : Int))) else some false) fun u8 => Option.bind (bif u8 then Option.bind (yt (x6.2.2.1, (-1 : Int), (1000 : Int))) fun r10 => some r10 else some false) fun u9 => some u9) ((0 : Int), x2.1, x2.2.1, x2.2.2.1, x2.2.2.2)) ((0 : Int), x.1, x.2.1, x.2.2.1, x.2.2.2)
def ydS : List QF := [y9f]
def y6j (t : ysw) : St := ⟨.dead :: .box 1 0 :: .dead :: vI t.1 :: dd 59 [], [(1, .box [Yt t.2.1, QS t.2.2.1, vI t.2.2.2.1, vB t.2.2.2.2])]⟩
def yht : Gk Vb := fun κ => Jh (fun t => κ none ⟨.dead :: .box 1 0 :: vB t.1 :: dd 60 [], [(1, .box [Yt t.2.1, QS t.2.2.1, vI t.2.2.2.1, vB t.2.2.2.2])]⟩) (fun t => κ (some 0) ⟨.dead :: .box 1 0 :: dd 61 [], [(1, .box [Yt t.1, QS t.2.1, vI t.2.2.1, vB t.2.2.2])]⟩)
def y6k (t : ysw) : St := ⟨.dead :: .box 1 0 :: dd 2 (vI t.1 :: dd 58 []), [(1, .box [Yt t.2.1, QS t.2.2.1, vI t.2.2.2.1, vB t.2.2.2.2])]⟩
def yhu : Gk Vc := fun κ => Ji (fun t => κ none ⟨.dead :: .box 1 0 :: vB t.1 :: dd 60 [], [(1, .box [Yt t.2.1, QS t.2.2.1, vI t.2.2.2.1, vB t.2.2.2.2])]⟩) (fun t => κ (some 2) ⟨.dead :: .box 1 0 :: dd 61 [], [(1, .box [Yt t.1, QS t.2.1, vI t.2.2.1, vB t.2.2.2])]⟩)
def ydT : Lp := lpC 7 (unG ysx y6k) @yhu (lpC 2 (unG ysx y6j) @yht lpN)
theorem yq1 : LF ydS ydT 153 2 Tryz.f153 0 y6j @yht fun t => t := fun R κ again t => by kernel_rfl
theorem yq2 : LK ydS ydT 153 Tryz.f153 0 := lkN (u := (unG ysx y6j)) (yf fun t => by kernel_rfl) yq1
theorem yq3 : LF ydS ydT 153 7 Tryz.f153 1 y6k @yhu fun t => t := fun R κ again t => by kernel_rfl
theorem yq4 : LK ydS ydT 153 Tryz.f153 1 := lkN (u := (unG ysx y6k)) (yf fun t => by kernel_rfl) yq3
theorem yun : EV ydS ydT 153 Tryz.f153 ynS QT [.bool] kE := fun x => by kernel_rfl
def yAb : QF := ⟨153, kE, okN (n := 2) Tryz.func153 ⟨yq2, yq4, trivial⟩ yun⟩
def ZF (x : y7K) : Option Bool :=
 Option.bind (kE (x.1, x.2.1, x.2.2.1, x.2.2.2.1)) fun r1 => Option.bind (bif r1 then some ((List.length x.1 : Int) == (60 : Int)) else some false) fun u2 => Option.bind (bif u2 then Option.bind (jU (x.2.2.2.2.1, x.2.2.2.2.2.1, x.2.2.2.2.2.2.1, x.2.2.2.2.2.2.2.1, x.2.2.2.2.2.2.2.2.1, x.2.2.2.2.2.2.2.2.2.1)) fun r4 => some r4 else some false) fun u3 => Option.bind (bif u3 then Option.bind (yt (x.2.2.2.2.2.2.2.2.2.2.2.1, (1 : Int), (50000 : Int))) fun r6 => some r6 else some false) fun u5 => Option.bind (bif u5 then Option.bind (yt (x.2.2.2.2.2.2.2.2.2.2.2.2, x.2.2.2.2.2.2.2.2.2.2.2.1, (Go.IntKind.wrap .i64 (x.2.2.2.2.2.2.2.2.2.2.2.1 + (6 : Int))))) fun r8 => some r8 else some false) fun u7 => Option.bind (bif u7 then Option.bind (yt (x.2.2.2.2.2.2.2.2.2.2.2.2, (1 : Int), (50000 : Int))) fun r10 => some r10 else some false) fun u9 => some u9
theorem yuo : EV [q47, y9f, yAb] lpN 106 Tryz.f106 ynT qb [.bool] ZF := fun x => by kernel_rfl
def yAc : QF := ⟨106, ZF, okN (n := 0) Tryz.func106 trivial yuo⟩
def zM (x : yl1) : Option (List z7) :=
 if (List.length ([] : List z7) + List.length x.1) * 1 < 140737488355328 then if (List.length (([] : List z7) ++ x.1) + List.length ([(Go.IntKind.wrap .u8 (Int.fdiv x.2 (2 ^ (min (Int.toNat (8 : Int)) (Go.IntKind.bits .i64))))), (Go.IntKind.wrap .u8 x.2)] : List z7)) * 1 < 140737488355328 then some ((([] : List z7) ++ x.1) ++ ([(Go.IntKind.wrap .u8 (Int.fdiv x.2 (2 ^ (min (Int.toNat (8 : Int)) (Go.IntKind.bits .i64))))), (Go.IntKind.wrap .u8 x.2)] : List z7)) else none else none
theorem yAd : EV [] lpN 48 Tryz.f48 yyu yl2 [(.sl 5 yF)] zM := fun x => by kernel_rfl
def q48 : QF := ⟨48, zM, okN (n := 0) Tryz.func48 trivial yAd⟩
def Jj (x : yxx) : Option (List z7) :=
 bif (decide (((ByteArray.size x.2 : Nat) : Int) > (60 : Int))) then if (List.length ([] : List z7) + List.length x.1) * 1 < 140737488355328 then some (([] : List z7) ++ x.1) else none else Option.bind (zM (x.1, ((ByteArray.size x.2 : Nat) : Int))) fun r1 => if (List.length r1 + List.length (jb x.2)) * 1 < 140737488355328 then some (r1 ++ (jb x.2)) else none
theorem yAe : EV [q48] lpN 49 Tryz.f49 yyv yxy [(.sl 5 yF)] Jj := fun x => by kernel_rfl
def q49 : QF := ⟨49, Jj, okN (n := 0) Tryz.func49 trivial yAe⟩
def wq (x : Bool) : Option Int :=
 bif x then some (1 : Int) else some (0 : Int)
theorem yAf : EV [] lpN 50 Tryz.f50 yyw [.bool] [(.int .u8)] wq := fun x => by kernel_rfl
def q50 : QF := ⟨50, wq, okN (n := 0) Tryz.func50 trivial yAf⟩
def ws (x : yxz) : Option (List z7) :=
 if (List.length ([] : List z7) + List.length x.1) * 1 < 140737488355328 then Option.bind (JS x.2) fun r1 => bif (!r1) then some (([] : List z7) ++ x.1) else if (List.length (([] : List z7) ++ x.1) + List.length ([(Go.IntKind.wrap .u8 x.2.1), (Go.IntKind.wrap .u8 x.2.2.1), (Go.IntKind.wrap .u8 x.2.2.2.1), (Go.IntKind.wrap .u8 x.2.2.2.2.1)] : List z7)) * 1 < 140737488355328 then Option.bind (zM (((([] : List z7) ++ x.1) ++ ([(Go.IntKind.wrap .u8 x.2.1), (Go.IntKind.wrap .u8 x.2.2.1), (Go.IntKind.wrap .u8 x.2.2.2.1), (Go.IntKind.wrap .u8 x.2.2.2.2.1)] : List z7)), x.2.2.2.2.2)) fun r2 => some r2 else none else none
theorem yup : EV [q48, yzj] lpN 125 Tryz.f125 ynU yxA [(.sl 5 yF)] ws := fun x => by kernel_rfl
def yAg : QF := ⟨125, ws, okN (n := 0) Tryz.func125 trivial yup⟩
abbrev vc : Type := yxB
def jp (k0 : List z7 → Option R) (again : vc → Option R) (t3 : vc) : Option R :=
 bif (decide (t3.2.1 < (List.length t3.1 : Int))) then if (0 : Int) ≤ t3.2.1 then if t3.2.1 < (List.length t3.1 : Int) then Option.bind (ws (t3.2.2, (y0 t3.1 t3.2.1).1, (y0 t3.1 t3.2.1).2.1, (y0 t3.1 t3.2.1).2.2.1, (y0 t3.1 t3.2.1).2.2.2.1, (y0 t3.1 t3.2.1).2.2.2.2)) fun r1 => again (t3.1, (Go.IntKind.wrap .i64 (t3.2.1 + (1 : Int))), r1) else none else none else k0 t3.2.2
def Q7 k0 := z6 (@jp R k0) zd
def wu (x : yzz) : Option (List z7) :=
 if (List.length x.1 + List.length ([(Go.IntKind.wrap .u8 (List.length x.2 : Int))] : List z7)) * 1 < 140737488355328 then Q7 (fun x2 => some x2) (x.2, (0 : Int), (x.1 ++ ([(Go.IntKind.wrap .u8 (List.length x.2 : Int))] : List z7))) else none
def yuq : List QF := [yAg]
def y9S (t : yxB) : St := ⟨.own 10000000 :: Vx t.1 :: dd 3 (vI t.2.1 :: dd 19 []), [(10000000, .root true 5 yF t.2.2)]⟩
def yq5 : Gk vc := fun κ => jp (fun t => κ (some 0) ⟨.own 10000000 :: dd 24 [], [(10000000, .root true 5 yF t)]⟩)
def yur : Lp := lpC 3 (unG yxC y9S) @yq5 lpN
theorem yus : LF yuq yur 51 3 Tryz.f51 0 y9S @yq5 fun t => t := fun R κ again t => by kernel_rfl
theorem yut : LK yuq yur 51 Tryz.f51 0 := lkN (u := (unG yxC y9S)) (yf fun t => by kernel_rfl) yus
theorem yAh : EV yuq yur 51 Tryz.f51 yyx yzA [(.sl 5 yF)] wu := fun x => by kernel_rfl
def q51 : QF := ⟨51, wu, okN (n := 1) Tryz.func51 ⟨yut, trivial⟩ yAh⟩
abbrev kV : Type := yfE
def ZG (k0 : yl3 → Option R) (again : kV → Option R) (t6 : kV) : Option R :=
 bif (decide (t6.1 < (List.length t6.2.2.2.1 : Int))) then if (0 : Int) ≤ t6.1 then if t6.1 < (List.length t6.2.2.2.1 : Int) then if (0 : Int) ≤ t6.1 then if t6.1 < (List.length t6.2.2.2.1 : Int) then if (List.length t6.2.2.2.2.2.2.2 + List.length ([(Go.IntKind.wrap .u8 ((z8 t6.2.2.2.1 t6.1).1)), (Go.IntKind.wrap .u8 ((z8 t6.2.2.2.1 t6.1).2))] : List z7)) * 1 < 140737488355328 then again ((Go.IntKind.wrap .i64 (t6.1 + (1 : Int))), t6.2.1, t6.2.2.1, t6.2.2.2.1, t6.2.2.2.2.1, t6.2.2.2.2.2.1, t6.2.2.2.2.2.2.1, (t6.2.2.2.2.2.2.2 ++ ([(Go.IntKind.wrap .u8 ((z8 t6.2.2.2.1 t6.1).1)), (Go.IntKind.wrap .u8 ((z8 t6.2.2.2.1 t6.1).2))] : List z7))) else none else none else none else none else none else k0 t6.2
def kW k0 := z6 (@ZG R k0) zd
abbrev Wy : Type := yfE
def YJ (k0 : yl3 → Option R) (again : Wy → Option R) (t11 : Wy) : Option R :=
 bif (decide (t11.1 < (List.length t11.2.2.2.2.2.1 : Int))) then if (0 : Int) ≤ t11.1 then if t11.1 < (List.length t11.2.2.2.2.2.1 : Int) then Option.bind (Jj (t11.2.2.2.2.2.2.2, (yo t11.2.2.2.2.2.1 t11.1).1)) fun r4 => Option.bind (wq ((yo t11.2.2.2.2.2.1 t11.1).2.2.2)) fun r5 => if (List.length r4 + List.length ([(Go.IntKind.wrap .u8 ((yo t11.2.2.2.2.2.1 t11.1).2.1)), (Go.IntKind.wrap .u8 ((yo t11.2.2.2.2.2.1 t11.1).2.2.1)), r5] : List z7)) * 1 < 140737488355328 then again ((Go.IntKind.wrap .i64 (t11.1 + (1 : Int))), t11.2.1, t11.2.2.1, t11.2.2.2.1, t11.2.2.2.2.1, t11.2.2.2.2.2.1, t11.2.2.2.2.2.2.1, (r4 ++ ([(Go.IntKind.wrap .u8 ((yo t11.2.2.2.2.2.1 t11.1).2.1)), (Go.IntKind.wrap .u8 ((yo t11.2.2.2.2.2.1 t11.1).2.2.1)), r5] : List z7))) else none else none else none else k0 t11.2
def Wz k0 := z6 (@YJ R k0) zd
abbrev WA : Type := yfE
def YK (k0 : yl3 → Option R) (again : WA → Option R) (t16 : WA) : Option R :=
 bif (decide (t16.1 < (List.length t16.2.2.2.2.1 : Int))) then if (0 : Int) ≤ t16.1 then if t16.1 < (List.length t16.2.2.2.2.1 : Int) then Option.bind (zM (t16.2.2.2.2.2.2.2, (ym t16.2.2.2.2.1 t16.1).1)) fun r7 => if (0 : Int) ≤ t16.1 then if t16.1 < (List.length t16.2.2.2.2.1 : Int) then Option.bind (wq ((ym t16.2.2.2.2.1 t16.1).2.1)) fun r8 => if (List.length r7 + List.length ([r8] : List z7)) * 1 < 140737488355328 then if (0 : Int) ≤ t16.1 then if t16.1 < (List.length t16.2.2.2.2.1 : Int) then Option.bind (zM ((r7 ++ ([r8] : List z7)), (ym t16.2.2.2.2.1 t16.1).2.2)) fun r9 => again ((Go.IntKind.wrap .i64 (t16.1 + (1 : Int))), t16.2.1, t16.2.2.1, t16.2.2.2.1, t16.2.2.2.2.1, t16.2.2.2.2.2.1, t16.2.2.2.2.2.2.1, r9) else none else none else none else none else none else none else none else k0 t16.2
def WB k0 := z6 (@YK R k0) zd
abbrev WC : Type := yxD
def YL (k0 : yfE → Option R) (again : WC → Option R) (t25 : WC) : Option R :=
 if (0 : Int) ≤ t25.1 then if t25.1 < (List.length t25.2.2.2.1 : Int) then bif (decide (t25.2.1 < (List.length (yn t25.2.2.2.1 t25.1) : Int))) then if (0 : Int) ≤ t25.1 then if t25.1 < (List.length t25.2.2.2.1 : Int) then if (0 : Int) ≤ t25.2.1 then if t25.2.1 < (List.length (yn t25.2.2.2.1 t25.1) : Int) then Option.bind (wu (t25.2.2.2.2.2.2.2.2, (yh (yn t25.2.2.2.1 t25.1) t25.2.1))) fun r12 => again (t25.1, (Go.IntKind.wrap .i64 (t25.2.1 + (1 : Int))), t25.2.2.1, t25.2.2.2.1, t25.2.2.2.2.1, t25.2.2.2.2.2.1, t25.2.2.2.2.2.2.1, t25.2.2.2.2.2.2.2.1, r12) else none else none else none else none else k0 (t25.1, t25.2.2) else none else none
def WD k0 := z6 (@YL R k0) zd
abbrev WE : Type := yfE
def YM (k0 : List z7 → Option R) (again : WE → Option R) (t21 : WE) : Option R :=
 bif (decide (t21.1 < (List.length t21.2.2.1 : Int))) then if (0 : Int) ≤ t21.1 then if t21.1 < (List.length t21.2.1 : Int) then Option.bind (zM (t21.2.2.2.2.2.2.2, (zI t21.2.1 t21.1))) fun r11 => if (0 : Int) ≤ t21.1 then if t21.1 < (List.length t21.2.2.1 : Int) then if (List.length r11 + List.length ([(Go.IntKind.wrap .u8 (List.length (yn t21.2.2.1 t21.1) : Int))] : List z7)) * 1 < 140737488355328 then WD (fun x13 => again ((Go.IntKind.wrap .i64 (x13.1 + (1 : Int))), x13.2.1, x13.2.2.1, x13.2.2.2.1, x13.2.2.2.2.1, x13.2.2.2.2.2.1, x13.2.2.2.2.2.2.1, x13.2.2.2.2.2.2.2)) (t21.1, (0 : Int), t21.2.1, t21.2.2.1, t21.2.2.2.1, t21.2.2.2.2.1, t21.2.2.2.2.2.1, t21.2.2.2.2.2.2.1, (r11 ++ ([(Go.IntKind.wrap .u8 (List.length (yn t21.2.2.1 t21.1) : Int))] : List z7))) else none else none else none else none else none else k0 t21.2.2.2.2.2.2.2
def WF k0 := z6 (@YM R k0) zd
def Jk (x : Qz5) : Option (List z7) :=
 Option.bind (jU x) fun r1 => bif (!r1) then some ([] : List z7) else Option.bind (zM (([] : List z7), x.2.2.2.2.2)) fun r2 => if (List.length r2 + List.length ([(Go.IntKind.wrap .u8 (List.length x.2.2.1 : Int))] : List z7)) * 1 < 140737488355328 then kW (fun x3 => if (List.length x3.2.2.2.2.2.2 + List.length ([(Go.IntKind.wrap .u8 (List.length x3.2.2.2.2.1 : Int))] : List z7)) * 1 < 140737488355328 then Wz (fun x6 => WB (fun x10 => if (List.length x10.2.2.2.2.2.2 + List.length ([(Go.IntKind.wrap .u8 (List.length x10.2.1 : Int))] : List z7)) * 1 < 140737488355328 then WF (fun x14 => some x14) ((0 : Int), x10.1, x10.2.1, x10.2.2.1, x10.2.2.2.1, x10.2.2.2.2.1, x10.2.2.2.2.2.1, (x10.2.2.2.2.2.2 ++ ([(Go.IntKind.wrap .u8 (List.length x10.2.1 : Int))] : List z7))) else none) ((0 : Int), x6.1, x6.2.1, x6.2.2.1, x6.2.2.2.1, x6.2.2.2.2.1, x6.2.2.2.2.2.1, x6.2.2.2.2.2.2)) ((0 : Int), x3.1, x3.2.1, x3.2.2.1, x3.2.2.2.1, x3.2.2.2.2.1, x3.2.2.2.2.2.1, (x3.2.2.2.2.2.2 ++ ([(Go.IntKind.wrap .u8 (List.length x3.2.2.2.2.1 : Int))] : List z7))) else none) ((0 : Int), x.1, x.2.1, x.2.2.1, x.2.2.2.1, x.2.2.2.2.1, x.2.2.2.2.2, (r2 ++ ([(Go.IntKind.wrap .u8 (List.length x.2.2.1 : Int))] : List z7))) else none
def ydU : List QF := [q47, q48, q49, q50, q51]
def y9T (t : yfE) : St := ⟨.dead :: .box 1 0 :: .dead :: .own 10000000 :: vI t.1 :: dd 169 [], [(1, .box [zn t.2.1, yH t.2.2.1, zv t.2.2.2.1, yV t.2.2.2.2.1, Y4 t.2.2.2.2.2.1, vI t.2.2.2.2.2.2.1]), (10000000, .root true 5 yF t.2.2.2.2.2.2.2)]⟩
def yq6 : Gk kV := fun κ => ZG (fun t => κ (some 0) ⟨.dead :: .box 1 0 :: .dead :: .own 10000000 :: dd 170 [], [(1, .box [zn t.1, yH t.2.1, zv t.2.2.1, yV t.2.2.2.1, Y4 t.2.2.2.2.1, vI t.2.2.2.2.2.1]), (10000000, .root true 5 yF t.2.2.2.2.2.2)]⟩)
def y6l (t : yfE) : St := ⟨.dead :: .box 1 0 :: .dead :: .own 10000000 :: .dead :: vI t.1 :: dd 168 [], [(1, .box [zn t.2.1, yH t.2.2.1, zv t.2.2.2.1, yV t.2.2.2.2.1, Y4 t.2.2.2.2.2.1, vI t.2.2.2.2.2.2.1]), (10000000, .root true 5 yF t.2.2.2.2.2.2.2)]⟩
def yhv : Gk Wy := fun κ => YJ (fun t => κ (some 2) ⟨.dead :: .box 1 0 :: .dead :: .own 10000000 :: dd 170 [], [(1, .box [zn t.1, yH t.2.1, zv t.2.2.1, yV t.2.2.2.1, Y4 t.2.2.2.2.1, vI t.2.2.2.2.2.1]), (10000000, .root true 5 yF t.2.2.2.2.2.2)]⟩)
def y6m (t : yfE) : St := ⟨.dead :: .box 1 0 :: .dead :: .own 10000000 :: dd 3 (vI t.1 :: dd 166 []), [(1, .box [zn t.2.1, yH t.2.2.1, zv t.2.2.2.1, yV t.2.2.2.2.1, Y4 t.2.2.2.2.2.1, vI t.2.2.2.2.2.2.1]), (10000000, .root true 5 yF t.2.2.2.2.2.2.2)]⟩
def yhw : Gk WA := fun κ => YK (fun t => κ (some 4) ⟨.dead :: .box 1 0 :: .dead :: .own 10000000 :: dd 170 [], [(1, .box [zn t.1, yH t.2.1, zv t.2.2.1, yV t.2.2.2.1, Y4 t.2.2.2.2.1, vI t.2.2.2.2.2.1]), (10000000, .root true 5 yF t.2.2.2.2.2.2)]⟩)
def y6n (t : yxD) : St := ⟨.dead :: .box 1 0 :: .dead :: .own 10000000 :: dd 4 (vI t.1 :: vI t.2.1 :: dd 164 []), [(1, .box [zn t.2.2.1, yH t.2.2.2.1, zv t.2.2.2.2.1, yV t.2.2.2.2.2.1, Y4 t.2.2.2.2.2.2.1, vI t.2.2.2.2.2.2.2.1]), (10000000, .root true 5 yF t.2.2.2.2.2.2.2.2)]⟩
def yhx : Gk WC := fun κ => YL (fun t => κ (some 8) ⟨.dead :: .box 1 0 :: .dead :: .own 10000000 :: dd 4 (vI t.1 :: dd 165 []), [(1, .box [zn t.2.1, yH t.2.2.1, zv t.2.2.2.1, yV t.2.2.2.2.1, Y4 t.2.2.2.2.2.1, vI t.2.2.2.2.2.2.1]), (10000000, .root true 5 yF t.2.2.2.2.2.2.2)]⟩)
def y6o (t : yfE) : St := ⟨.dead :: .box 1 0 :: .dead :: .own 10000000 :: dd 4 (vI t.1 :: dd 165 []), [(1, .box [zn t.2.1, yH t.2.2.1, zv t.2.2.2.1, yV t.2.2.2.2.1, Y4 t.2.2.2.2.2.1, vI t.2.2.2.2.2.2.1]), (10000000, .root true 5 yF t.2.2.2.2.2.2.2)]⟩
def yhy : Gk WE := fun κ => YM (fun t => κ (some 6) ⟨dd 3 (.own 10000000 :: dd 170 []), [(10000000, .root true 5 yF t)]⟩)
def ydV : Lp := lpC 21 (unG yh7 y6o) @yhy (lpC 25 (unG yxE y6n) @yhx (lpC 16 (unG yh7 y6m) @yhw (lpC 11 (unG yh7 y6l) @yhv (lpC 6 (unG yh7 y9T) @yq6 lpN))))
theorem yuu : LF ydU ydV 11 6 Tryz.f11 0 y9T @yq6 fun t => t := fun R κ again t => by kernel_rfl
theorem yuv : LK ydU ydV 11 Tryz.f11 0 := lkN (u := (unG yh7 y9T)) (yf fun t => by kernel_rfl) yuu
theorem yq7 : LF ydU ydV 11 11 Tryz.f11 1 y6l @yhv fun t => t := fun R κ again t => by kernel_rfl
theorem yq8 : LK ydU ydV 11 Tryz.f11 1 := lkN (u := (unG yh7 y6l)) (yf fun t => by kernel_rfl) yq7
theorem yq9 : LF ydU ydV 11 16 Tryz.f11 2 y6m @yhw fun t => t := fun R κ again t => by kernel_rfl
theorem yqa : LK ydU ydV 11 Tryz.f11 2 := lkN (u := (unG yh7 y6m)) (yf fun t => by kernel_rfl) yq9
theorem yqb : LF ydU ydV 11 25 Tryz.f11 4 y6n @yhx fun t => t := fun R κ again t => by kernel_rfl
theorem yqc : LK ydU ydV 11 Tryz.f11 4 := lkN (u := (unG yxE y6n)) (yf fun t => by kernel_rfl) yqb
theorem yqd : LF ydU ydV 11 21 Tryz.f11 3 y6o @yhy fun t => t := fun R κ again t => by kernel_rfl
theorem yqe : LK ydU ydV 11 Tryz.f11 3 := lkN (u := (unG yh7 y6o)) (yf fun t => by kernel_rfl) yqd
theorem yAi : EV ydU ydV 11 Tryz.f11 yyy qz5 [(.sl 5 yF)] Jk := fun x => by kernel_rfl
def q11 : QF := ⟨11, Jk, okN (n := 5) Tryz.func11 ⟨yuv, yq8, yqa, yqe, yqc, trivial⟩ yAi⟩
abbrev Q8 : Type := yxF
def vR (k0 : ylp → Option R) (again : Q8 → Option R) (t7 : Q8) : Option R :=
 bif (decide (t7.2.2.2 < (8 : Int))) then bif ((Go.bits .and .i64 t7.2.1 (1 : Int)) == (1 : Int)) then again (t7.1, (Go.bits .xor .i64 (Int.fdiv t7.2.1 (2 ^ (min (Int.toNat (1 : Int)) (Go.IntKind.bits .i64)))) (2197175160 : Int)), t7.2.2.1, (Go.IntKind.wrap .i64 (t7.2.2.2 + (1 : Int)))) else again (t7.1, (Int.fdiv t7.2.1 (2 ^ (min (Int.toNat (1 : Int)) (Go.IntKind.bits .i64)))), t7.2.2.1, (Go.IntKind.wrap .i64 (t7.2.2.2 + (1 : Int)))) else k0 (t7.1, t7.2.1, t7.2.2.1)
def Q9 k0 := z6 (@vR R k0) zd
abbrev Qa : Type := ylp
def Qb (k0 : Int → Option R) (again : Qa → Option R) (t3 : Qa) : Option R :=
 bif (decide (t3.2.2 < (List.length t3.1 : Int))) then if (0 : Int) ≤ t3.2.2 then if t3.2.2 < (List.length t3.1 : Int) then Q9 (fun x1 => again (x1.1, x1.2.1, (Go.IntKind.wrap .i64 (x1.2.2 + (1 : Int))))) (t3.1, (Go.bits .xor .i64 t3.2.1 (Go.IntKind.wrap .i64 (y9O t3.1 t3.2.2))), t3.2.2, (0 : Int)) else none else none else k0 t3.2.1
def y1U k0 := z6 (@Qb R k0) zd
def KC (x : List z7) : Option Int :=
 y1U (fun x2 => some (Go.bits .xor .i64 x2 (4294967295 : Int))) (x, (4294967295 : Int), (0 : Int))
def ydW : List QF := []
def y6p (t : yxF) : St := ⟨ydw t.1 :: dd 2 (vI t.2.1 :: vI t.2.2.1 :: vI t.2.2.2 :: dd 27 []), []⟩
def yhz : Gk Q8 := fun κ => vR (fun t => κ (some 2) ⟨ydw t.1 :: dd 2 (vI t.2.1 :: vI t.2.2 :: dd 28 []), []⟩)
def y6q (t : ylp) : St := ⟨ydw t.1 :: dd 2 (vI t.2.1 :: vI t.2.2 :: dd 28 []), []⟩
def yhA : Gk Qa := fun κ => Qb (fun t => κ (some 0) ⟨dd 3 (vI t :: dd 29 []), []⟩)
def ydX : Lp := lpC 3 (unG ysy y6q) @yhA (lpC 7 (unG yxG y6p) @yhz lpN)
theorem yqf : LF ydW ydX 150 7 Tryz.f150 1 y6p @yhz fun t => t := fun R κ again t => by kernel_rfl
theorem yqg : LK ydW ydX 150 Tryz.f150 1 := lkN (u := (unG yxG y6p)) (yf fun t => by kernel_rfl) yqf
theorem yqh : LF ydW ydX 150 3 Tryz.f150 0 y6q @yhA fun t => t := fun R κ again t => by kernel_rfl
theorem yqi : LK ydW ydX 150 Tryz.f150 0 := lkN (u := (unG ysy y6q)) (yf fun t => by kernel_rfl) yqh
theorem yuw : EV ydW ydX 150 Tryz.f150 ynV [(.sl 5 yF)] [(.int .i64)] KC := fun x => by kernel_rfl
def yzk : QF := ⟨150, KC, okN (n := 2) Tryz.func150 ⟨yqi, yqg, trivial⟩ yuw⟩
def jV (x : y9e) : Option Int :=
 Option.bind (yt (x.1, (0 : Int), (1 : Int))) fun r1 => Option.bind (bif (!r1) then some true else Option.bind (yt (x.2, (0 : Int), (23 : Int))) fun r3 => some (!r3)) fun u2 => bif u2 then some (-1 : Int) else some (Go.IntKind.wrap .i64 ((Go.IntKind.wrap .i64 ((8 : Int) + (Go.IntKind.wrap .i64 (x.1 * (24 : Int))))) + x.2))
theorem yux : EV [y9f] lpN 154 Tryz.f154 ynW yh6 [(.int .i64)] jV := fun x => by kernel_rfl
def yAj : QF := ⟨154, jV, okN (n := 0) Tryz.func154 trivial yux⟩
def Jl (x : yiQ) : Option Bool :=
 Option.bind (yt (x.1, (1 : Int), (60000 : Int))) fun r1 => Option.bind (bif r1 then Option.bind (yt (x.2.1, (0 : Int), (1 : Int))) fun r3 => some r3 else some false) fun u2 => Option.bind (bif u2 then Option.bind (yt (x.2.2.1, (0 : Int), (1680 : Int))) fun r5 => some r5 else some false) fun u4 => Option.bind (bif u4 then Option.bind (yt (x.2.2.2.1, (0 : Int), (4294967295 : Int))) fun r7 => some r7 else some false) fun u6 => Option.bind (bif u6 then Option.bind (yt (x.2.2.2.2, (1 : Int), (60000 : Int))) fun r9 => some r9 else some false) fun u8 => some u8
theorem yuy : EV [y9f] lpN 152 Tryz.f152 ynX y16 [.bool] Jl := fun x => by kernel_rfl
def yAk : QF := ⟨152, Jl, okN (n := 0) Tryz.func152 trivial yuy⟩
def ZT (x : yl1) : Option (List z7) :=
 if (List.length ([] : List z7) + List.length x.1) * 1 < 140737488355328 then if (List.length (([] : List z7) ++ x.1) + List.length ([(Go.IntKind.wrap .u8 (Int.fdiv x.2 (2 ^ (min (Int.toNat (24 : Int)) (Go.IntKind.bits .i64))))), (Go.IntKind.wrap .u8 (Int.fdiv x.2 (2 ^ (min (Int.toNat (16 : Int)) (Go.IntKind.bits .i64))))), (Go.IntKind.wrap .u8 (Int.fdiv x.2 (2 ^ (min (Int.toNat (8 : Int)) (Go.IntKind.bits .i64))))), (Go.IntKind.wrap .u8 x.2)] : List z7)) * 1 < 140737488355328 then some ((([] : List z7) ++ x.1) ++ ([(Go.IntKind.wrap .u8 (Int.fdiv x.2 (2 ^ (min (Int.toNat (24 : Int)) (Go.IntKind.bits .i64))))), (Go.IntKind.wrap .u8 (Int.fdiv x.2 (2 ^ (min (Int.toNat (16 : Int)) (Go.IntKind.bits .i64))))), (Go.IntKind.wrap .u8 (Int.fdiv x.2 (2 ^ (min (Int.toNat (8 : Int)) (Go.IntKind.bits .i64))))), (Go.IntKind.wrap .u8 x.2)] : List z7)) else none else none
theorem yuz : EV [] lpN 226 Tryz.f226 ynY yl2 [(.sl 5 yF)] ZT := fun x => by kernel_rfl
def yAl : QF := ⟨226, ZT, okN (n := 0) Tryz.func226 trivial yuz⟩
def jq (x : yiQ) : Option (List z7) :=
 Option.bind (Jl x) fun r1 => bif (!r1) then some ([] : List z7) else Option.bind (zM (([] : List z7), x.1)) fun r2 => if (List.length r2 + List.length ([(Go.IntKind.wrap .u8 x.2.1)] : List z7)) * 1 < 140737488355328 then Option.bind (zM ((r2 ++ ([(Go.IntKind.wrap .u8 x.2.1)] : List z7)), x.2.2.1)) fun r3 => Option.bind (ZT (r3, x.2.2.2.1)) fun r4 => Option.bind (zM (r4, x.2.2.2.2)) fun r5 => Option.bind (KC r5) fun r6 => Option.bind (ZT (r5, r6)) fun r7 => some r7 else none
theorem yuA : EV [q48, yzk, yAk, yAl] lpN 183 Tryz.f183 ynZ y16 [(.sl 5 yF)] jq := fun x => by kernel_rfl
def yAm : QF := ⟨183, jq, okN (n := 0) Tryz.func183 trivial yuA⟩
def Ya (x : y7K) : Option yzB :=
 bif (x.2.2.1 == (0 : Int)) then some (false, x.1, x.2.1, (-1 : Int), true, x.2.2.2.2.1, x.2.2.2.2.2.1, x.2.2.2.2.2.2.1, x.2.2.2.2.2.2.2.1, x.2.2.2.2.2.2.2.2.1, x.2.2.2.2.2.2.2.2.2.1, x.2.2.2.2.2.2.2.2.2.2.1, x.2.2.2.2.2.2.2.2.2.2.2.1, x.2.2.2.2.2.2.2.2.2.2.2.2) else bif (decide (x.2.2.1 > (0 : Int))) then some (true, x.1, x.2.1, (Go.IntKind.wrap .i64 (x.2.2.1 - (1 : Int))), x.2.2.2.1, x.2.2.2.2.1, x.2.2.2.2.2.1, x.2.2.2.2.2.2.1, x.2.2.2.2.2.2.2.1, x.2.2.2.2.2.2.2.2.1, x.2.2.2.2.2.2.2.2.2.1, x.2.2.2.2.2.2.2.2.2.2.1, x.2.2.2.2.2.2.2.2.2.2.2.1, x.2.2.2.2.2.2.2.2.2.2.2.2) else some (true, x)
theorem yg6 : EV [] lpN 100001 Tryz.f177 ybb qb yzC Ya := fun x => by kernel_rfl
def ydY : QF := ⟨100001, Ya, okN (n := 0) Tryz.func177 trivial yg6⟩
abbrev ZY : Type := yxH
def zb (k0 : yxJ → Option R) (again : ZY → Option R) (t2 : ZY) : Option R :=
 bif (decide (t2.1 < (List.length t2.2.2.2.2.2.2.2.2.1 : Int))) then if (0 : Int) ≤ t2.1 then if t2.1 < (List.length t2.2.2.2.2.2.2.2.2.1 : Int) then if (0 : Int) ≤ t2.1 then if t2.1 < (List.length t2.2.2.2.2.2.2.2.2.1 : Int) then if (0 : Int) ≤ (yW t2.2.2.2.2.2.2.2.2.1 t2.1).1 then if (yW t2.2.2.2.2.2.2.2.2.1 t2.1).1 < (List.length t2.2.2.2.2.2.2.2.1 : Int) then again ((Go.IntKind.wrap .i64 (t2.1 + (1 : Int))), t2.2.1, t2.2.2.1, t2.2.2.2.1, t2.2.2.2.2.1, t2.2.2.2.2.2.1, t2.2.2.2.2.2.2.1, (List.set t2.2.2.2.2.2.2.2.1 (Int.toNat ((yW t2.2.2.2.2.2.2.2.2.1 t2.1).1)) ((yW t2.2.2.2.2.2.2.2.2.1 t2.1).2)), t2.2.2.2.2.2.2.2.2.1, t2.2.2.2.2.2.2.2.2.2.1, t2.2.2.2.2.2.2.2.2.2.2.1, t2.2.2.2.2.2.2.2.2.2.2.2.1, t2.2.2.2.2.2.2.2.2.2.2.2.2.1, t2.2.2.2.2.2.2.2.2.2.2.2.2.2) else none else none else none else none else none else none else k0 t2.2
def ZZ k0 := z6 (@zb R k0) zd
def zi (x : y7K) : Option y7K :=
 bif x.2.2.2.1 then some x else Option.bind (Ya x) fun r1 => bif (!r1.1) then some r1.2 else ZZ (fun x2 => some (x2.2.2.2.2.2.2.1, ([] : List yQ), x2.1, x2.2.1, x2.2.2.2.2.2.2.2.2.1, x2.2.2.2.2.2.2.2.2.2.1, x2.2.2.2.2.2.2.2.2.2.2.1, x2.2.2.2.2.2.2.2.2.2.2.2.1, x2.2.2.2.2.2.2.2.2.2.2.2.2, x2.2.2.1, x2.2.2.2.1, x2.2.2.2.2.1, x2.2.2.2.2.2.1)) ((0 : Int), r1.2.2.2.1, r1.2.2.2.2.1, r1.2.2.2.2.2.2.2.2.2.2.1, r1.2.2.2.2.2.2.2.2.2.2.2.1, r1.2.2.2.2.2.2.2.2.2.2.2.2.1, r1.2.2.2.2.2.2.2.2.2.2.2.2.2, r1.2.1, r1.2.2.1, r1.2.2.2.2.2.1, r1.2.2.2.2.2.2.1, r1.2.2.2.2.2.2.2.1, r1.2.2.2.2.2.2.2.2.1, r1.2.2.2.2.2.2.2.2.2.1)
def y6r : List QF := [ydY]
def y0l (t : yxH) : St := ⟨.box 900 0 :: .dead :: vI t.1 :: dd 43 [], [(900, .box [.own 10000000, .own 10000001, vI t.2.1, vB t.2.2.1, .own 10000002, .own 10000003, .own 10000004, .own 10000005, .own 10000006, vI t.2.2.2.1, vI t.2.2.2.2.1, vI t.2.2.2.2.2.1, vI t.2.2.2.2.2.2.1]), (10000000, .root true 32 yg t.2.2.2.2.2.2.2.1), (10000001, .root true 186 zc t.2.2.2.2.2.2.2.2.1), (10000002, .root true 3 yu t.2.2.2.2.2.2.2.2.2.1), (10000003, .root true 98 yk t.2.2.2.2.2.2.2.2.2.2.1), (10000004, .root true 89 yG t.2.2.2.2.2.2.2.2.2.2.2.1), (10000005, .root true 95 yl t.2.2.2.2.2.2.2.2.2.2.2.2.1), (10000006, .root true 91 yU t.2.2.2.2.2.2.2.2.2.2.2.2.2)]⟩
def y8A : Gk ZY := fun κ => zb (fun t => κ (some 0) ⟨.box 900 0 :: dd 45 [], [(900, .box [.own 10000000, .own 10000001, vI t.1, vB t.2.1, .own 10000002, .own 10000003, .own 10000004, .own 10000005, .own 10000006, vI t.2.2.1, vI t.2.2.2.1, vI t.2.2.2.2.1, vI t.2.2.2.2.2.1]), (10000000, .root true 32 yg t.2.2.2.2.2.2.1), (10000001, .root true 186 zc t.2.2.2.2.2.2.2.1), (10000002, .root true 3 yu t.2.2.2.2.2.2.2.2.1), (10000003, .root true 98 yk t.2.2.2.2.2.2.2.2.2.1), (10000004, .root true 89 yG t.2.2.2.2.2.2.2.2.2.2.1), (10000005, .root true 95 yl t.2.2.2.2.2.2.2.2.2.2.2.1), (10000006, .root true 91 yU t.2.2.2.2.2.2.2.2.2.2.2.2)]⟩)
def y6s : Lp := lpC 2 (unG yxI y0l) @y8A lpN
theorem ydZ : LF y6r y6s 100000 2 Tryz.f102 0 y0l @y8A fun t => t := fun R κ again t => by kernel_rfl
theorem ye0 : LK y6r y6s 100000 Tryz.f102 0 := lkN (u := (unG yxI y0l)) (yf fun t => by kernel_rfl) ydZ
theorem yg7 : EV y6r y6s 100000 Tryz.f102 ybc qb qb zi := fun x => by kernel_rfl
def yjw : QF := ⟨100000, zi, okN (n := 1) Tryz.func102 ⟨ye0, trivial⟩ yg7⟩
def yX (x : yxK) : Option y7K :=
 Option.bind (bif x.2.2.2.1 then some true else Option.bind (yt (x.2.2.2.2.2.2.2.2.2.2.2.2.2.1, (0 : Int), (Go.IntKind.wrap .i64 ((List.length x.1 : Int) - (1 : Int))))) fun r2 => some (!r2)) fun u1 => Option.bind (bif u1 then some true else some (decide ((List.length x.2.2.2.2.2.2.2.2.2.2.2.2.2.2 : Int) > (80 : Int)))) fun u3 => Option.bind (bif u3 then some true else some (decide ((List.length x.2.1 : Int) ≥ (60 : Int)))) fun u4 => bif u4 then some (x.1, x.2.1, x.2.2.1, x.2.2.2.1, x.2.2.2.2.1, x.2.2.2.2.2.1, x.2.2.2.2.2.2.1, x.2.2.2.2.2.2.2.1, x.2.2.2.2.2.2.2.2.1, x.2.2.2.2.2.2.2.2.2.1, x.2.2.2.2.2.2.2.2.2.2.1, x.2.2.2.2.2.2.2.2.2.2.2.1, x.2.2.2.2.2.2.2.2.2.2.2.2.1) else Option.bind (Ya (x.1, x.2.1, x.2.2.1, x.2.2.2.1, x.2.2.2.2.1, x.2.2.2.2.2.1, x.2.2.2.2.2.2.1, x.2.2.2.2.2.2.2.1, x.2.2.2.2.2.2.2.2.1, x.2.2.2.2.2.2.2.2.2.1, x.2.2.2.2.2.2.2.2.2.2.1, x.2.2.2.2.2.2.2.2.2.2.2.1, x.2.2.2.2.2.2.2.2.2.2.2.2.1)) fun r5 => bif (!r5.1) then some r5.2 else if (List.length ([] : List z7) + List.length x.2.2.2.2.2.2.2.2.2.2.2.2.2.2) * 1 < 140737488355328 then if (List.length r5.2.2.1 + List.length ([(x.2.2.2.2.2.2.2.2.2.2.2.2.2.1, (([] : List z7) ++ x.2.2.2.2.2.2.2.2.2.2.2.2.2.2))] : List yQ)) * 32 < 140737488355328 then some (r5.2.1, (r5.2.2.1 ++ ([(x.2.2.2.2.2.2.2.2.2.2.2.2.2.1, (([] : List z7) ++ x.2.2.2.2.2.2.2.2.2.2.2.2.2.2))] : List yQ)), r5.2.2.2.1, r5.2.2.2.2.1, r5.2.2.2.2.2.1, r5.2.2.2.2.2.2.1, r5.2.2.2.2.2.2.2.1, r5.2.2.2.2.2.2.2.2.1, r5.2.2.2.2.2.2.2.2.2.1, r5.2.2.2.2.2.2.2.2.2.2.1, r5.2.2.2.2.2.2.2.2.2.2.2.1, r5.2.2.2.2.2.2.2.2.2.2.2.2.1, r5.2.2.2.2.2.2.2.2.2.2.2.2.2) else none else none
theorem yg8 : EV [y9f, ydY] lpN 100003 Tryz.f182 ybd yxL qb yX := fun x => by kernel_rfl
def ye1 : QF := ⟨100003, yX, okN (n := 0) Tryz.func182 trivial yg8⟩
abbrev Zs : Type := yxM
def Y7 (k0 : yxJ → Option R) (again : Zs → Option R) (t1 : Zs) : Option R :=
 bif (decide ((Go.IntKind.wrap .i64 (t1.2.2.1 * (70 : Int))) < (List.length t1.2.1 : Int))) then bif (decide ((Go.IntKind.wrap .i64 ((Go.IntKind.wrap .i64 (t1.2.2.1 + (1 : Int))) * (70 : Int))) > (List.length t1.2.1 : Int))) then Option.bind (jV (t1.1, t1.2.2.1)) fun r1 => if (0 : Int) ≤ (Go.IntKind.wrap .i64 (t1.2.2.1 * (70 : Int))) then if (Go.IntKind.wrap .i64 (t1.2.2.1 * (70 : Int))) ≤ (List.length t1.2.1 : Int) then if (List.length t1.2.1 : Int) ≤ (List.length t1.2.1 : Int) then Option.bind (yX (t1.2.2.2.2.2.2.2.2.2.1, t1.2.2.2.2.2.2.2.2.2.2.1, t1.2.2.2.1, t1.2.2.2.2.1, t1.2.2.2.2.2.2.2.2.2.2.2.1, t1.2.2.2.2.2.2.2.2.2.2.2.2.1, t1.2.2.2.2.2.2.2.2.2.2.2.2.2.1, t1.2.2.2.2.2.2.2.2.2.2.2.2.2.2.1, t1.2.2.2.2.2.2.2.2.2.2.2.2.2.2.2, t1.2.2.2.2.2.1, t1.2.2.2.2.2.2.1, t1.2.2.2.2.2.2.2.1, t1.2.2.2.2.2.2.2.2.1, r1, (List.drop (Int.toNat (Go.IntKind.wrap .i64 (t1.2.2.1 * (70 : Int)))) (List.take (Int.toNat (List.length t1.2.1 : Int)) t1.2.1)))) fun r2 => again (t1.1, t1.2.1, (Go.IntKind.wrap .i64 (t1.2.2.1 + (1 : Int))), r2.2.2.1, r2.2.2.2.1, r2.2.2.2.2.2.2.2.2.2.1, r2.2.2.2.2.2.2.2.2.2.2.1, r2.2.2.2.2.2.2.2.2.2.2.2.1, r2.2.2.2.2.2.2.2.2.2.2.2.2, r2.1, r2.2.1, r2.2.2.2.2.1, r2.2.2.2.2.2.1, r2.2.2.2.2.2.2.1, r2.2.2.2.2.2.2.2.1, r2.2.2.2.2.2.2.2.2.1) else none else none else none else Option.bind (jV (t1.1, t1.2.2.1)) fun r3 => if (0 : Int) ≤ (Go.IntKind.wrap .i64 (t1.2.2.1 * (70 : Int))) then if (Go.IntKind.wrap .i64 (t1.2.2.1 * (70 : Int))) ≤ (Go.IntKind.wrap .i64 ((Go.IntKind.wrap .i64 (t1.2.2.1 + (1 : Int))) * (70 : Int))) then if (Go.IntKind.wrap .i64 ((Go.IntKind.wrap .i64 (t1.2.2.1 + (1 : Int))) * (70 : Int))) ≤ (List.length t1.2.1 : Int) then Option.bind (yX (t1.2.2.2.2.2.2.2.2.2.1, t1.2.2.2.2.2.2.2.2.2.2.1, t1.2.2.2.1, t1.2.2.2.2.1, t1.2.2.2.2.2.2.2.2.2.2.2.1, t1.2.2.2.2.2.2.2.2.2.2.2.2.1, t1.2.2.2.2.2.2.2.2.2.2.2.2.2.1, t1.2.2.2.2.2.2.2.2.2.2.2.2.2.2.1, t1.2.2.2.2.2.2.2.2.2.2.2.2.2.2.2, t1.2.2.2.2.2.1, t1.2.2.2.2.2.2.1, t1.2.2.2.2.2.2.2.1, t1.2.2.2.2.2.2.2.2.1, r3, (List.drop (Int.toNat (Go.IntKind.wrap .i64 (t1.2.2.1 * (70 : Int)))) (List.take (Int.toNat (Go.IntKind.wrap .i64 ((Go.IntKind.wrap .i64 (t1.2.2.1 + (1 : Int))) * (70 : Int)))) t1.2.1)))) fun r4 => again (t1.1, t1.2.1, (Go.IntKind.wrap .i64 (t1.2.2.1 + (1 : Int))), r4.2.2.1, r4.2.2.2.1, r4.2.2.2.2.2.2.2.2.2.1, r4.2.2.2.2.2.2.2.2.2.2.1, r4.2.2.2.2.2.2.2.2.2.2.2.1, r4.2.2.2.2.2.2.2.2.2.2.2.2, r4.1, r4.2.1, r4.2.2.2.2.1, r4.2.2.2.2.2.1, r4.2.2.2.2.2.2.1, r4.2.2.2.2.2.2.2.1, r4.2.2.2.2.2.2.2.2.1) else none else none else none else k0 t1.2.2.2
def wv k0 := z6 (@Y7 R k0) zd
def zU (x : yxK) : Option y7K :=
 wv (fun x5 => some (x5.2.2.2.2.2.2.1, x5.2.2.2.2.2.2.2.1, x5.1, x5.2.1, x5.2.2.2.2.2.2.2.2.1, x5.2.2.2.2.2.2.2.2.2.1, x5.2.2.2.2.2.2.2.2.2.2.1, x5.2.2.2.2.2.2.2.2.2.2.2.1, x5.2.2.2.2.2.2.2.2.2.2.2.2, x5.2.2.1, x5.2.2.2.1, x5.2.2.2.2.1, x5.2.2.2.2.2.1)) (x.2.2.2.2.2.2.2.2.2.2.2.2.2.1, x.2.2.2.2.2.2.2.2.2.2.2.2.2.2, (0 : Int), x.2.2.1, x.2.2.2.1, x.2.2.2.2.2.2.2.2.2.1, x.2.2.2.2.2.2.2.2.2.2.1, x.2.2.2.2.2.2.2.2.2.2.2.1, x.2.2.2.2.2.2.2.2.2.2.2.2.1, x.1, x.2.1, x.2.2.2.2.1, x.2.2.2.2.2.1, x.2.2.2.2.2.2.1, x.2.2.2.2.2.2.2.1, x.2.2.2.2.2.2.2.2.1)
def y6t : List QF := [yAj, ye1]
def y0m (t : yxM) : St := ⟨.box 900 0 :: vI t.1 :: ydw t.2.1 :: dd 3 (vI t.2.2.1 :: dd 27 []), [(900, .box [.own 10000000, .own 10000001, vI t.2.2.2.1, vB t.2.2.2.2.1, .own 10000002, .own 10000003, .own 10000004, .own 10000005, .own 10000006, vI t.2.2.2.2.2.1, vI t.2.2.2.2.2.2.1, vI t.2.2.2.2.2.2.2.1, vI t.2.2.2.2.2.2.2.2.1]), (10000000, .root true 32 yg t.2.2.2.2.2.2.2.2.2.1), (10000001, .root true 186 zc t.2.2.2.2.2.2.2.2.2.2.1), (10000002, .root true 3 yu t.2.2.2.2.2.2.2.2.2.2.2.1), (10000003, .root true 98 yk t.2.2.2.2.2.2.2.2.2.2.2.2.1), (10000004, .root true 89 yG t.2.2.2.2.2.2.2.2.2.2.2.2.2.1), (10000005, .root true 95 yl t.2.2.2.2.2.2.2.2.2.2.2.2.2.2.1), (10000006, .root true 91 yU t.2.2.2.2.2.2.2.2.2.2.2.2.2.2.2)]⟩
def y8B : Gk Zs := fun κ => Y7 (fun t => κ (some 0) ⟨.box 900 0 :: dd 33 [], [(900, .box [.own 10000000, .own 10000001, vI t.1, vB t.2.1, .own 10000002, .own 10000003, .own 10000004, .own 10000005, .own 10000006, vI t.2.2.1, vI t.2.2.2.1, vI t.2.2.2.2.1, vI t.2.2.2.2.2.1]), (10000000, .root true 32 yg t.2.2.2.2.2.2.1), (10000001, .root true 186 zc t.2.2.2.2.2.2.2.1), (10000002, .root true 3 yu t.2.2.2.2.2.2.2.2.1), (10000003, .root true 98 yk t.2.2.2.2.2.2.2.2.2.1), (10000004, .root true 89 yG t.2.2.2.2.2.2.2.2.2.2.1), (10000005, .root true 95 yl t.2.2.2.2.2.2.2.2.2.2.2.1), (10000006, .root true 91 yU t.2.2.2.2.2.2.2.2.2.2.2.2)]⟩)
def y6u : Lp := lpC 1 (unG yxN y0m) @y8B lpN
theorem ye2 : LF y6t y6u 100002 1 Tryz.f181 0 y0m @y8B fun t => t := fun R κ again t => by kernel_rfl
theorem ye3 : LK y6t y6u 100002 Tryz.f181 0 := lkN (u := (unG yxN y0m)) (yf fun t => by kernel_rfl) ye2
theorem yg9 : EV y6t y6u 100002 Tryz.f181 ybe yxL qb zU := fun x => by kernel_rfl
def yjx : QF := ⟨100002, zU, okN (n := 1) Tryz.func181 ⟨ye3, trivial⟩ yg9⟩
def YN (x : y7K) : Option y7K :=
 Option.bind (Jk (x.2.2.2.2.1, x.2.2.2.2.2.1, x.2.2.2.2.2.2.1, x.2.2.2.2.2.2.2.1, x.2.2.2.2.2.2.2.2.1, x.2.2.2.2.2.2.2.2.2.1)) fun r1 => Option.bind (KC r1) fun r2 => Option.bind (zi x) fun r3 => Option.bind (zU (r3.1, r3.2.1, r3.2.2.1, r3.2.2.2.1, r3.2.2.2.2.1, r3.2.2.2.2.2.1, r3.2.2.2.2.2.2.1, r3.2.2.2.2.2.2.2.1, r3.2.2.2.2.2.2.2.2.1, r3.2.2.2.2.2.2.2.2.2.1, r3.2.2.2.2.2.2.2.2.2.2.1, r3.2.2.2.2.2.2.2.2.2.2.2.1, r3.2.2.2.2.2.2.2.2.2.2.2.2, (Int.tmod (Go.IntKind.wrap .i64 (x.2.2.2.2.2.2.2.2.2.2.1 + (1 : Int))) (2 : Int)), r1)) fun r4 => Option.bind (zi r4) fun r5 => Option.bind (jq ((Go.IntKind.wrap .i64 (x.2.2.2.2.2.2.2.2.2.2.1 + (1 : Int))), (Int.tmod (Go.IntKind.wrap .i64 (x.2.2.2.2.2.2.2.2.2.2.1 + (1 : Int))) (2 : Int)), (List.length r1 : Int), r2, x.2.2.2.2.2.2.2.2.2.2.2.2)) fun r6 => Option.bind (yX (r5.1, r5.2.1, r5.2.2.1, r5.2.2.2.1, r5.2.2.2.2.1, r5.2.2.2.2.2.1, r5.2.2.2.2.2.2.1, r5.2.2.2.2.2.2.2.1, r5.2.2.2.2.2.2.2.2.1, r5.2.2.2.2.2.2.2.2.2.1, r5.2.2.2.2.2.2.2.2.2.2.1, r5.2.2.2.2.2.2.2.2.2.2.2.1, r5.2.2.2.2.2.2.2.2.2.2.2.2, (Int.tmod (Go.IntKind.wrap .i64 (x.2.2.2.2.2.2.2.2.2.2.1 + (1 : Int))) (2 : Int)), r6)) fun r7 => Option.bind (zi r7) fun r8 => bif (!r8.2.2.2.1) then some (r8.1, r8.2.1, r8.2.2.1, r8.2.2.2.1, r8.2.2.2.2.1, r8.2.2.2.2.2.1, r8.2.2.2.2.2.2.1, r8.2.2.2.2.2.2.2.1, r8.2.2.2.2.2.2.2.2.1, r8.2.2.2.2.2.2.2.2.2.1, (Go.IntKind.wrap .i64 (r8.2.2.2.2.2.2.2.2.2.2.1 + (1 : Int))), r8.2.2.2.2.2.2.2.2.2.2.2.2, r8.2.2.2.2.2.2.2.2.2.2.2.2) else some r8
theorem yuB : EV [q11, yzk, yAm, yjw, yjx, ye1] lpN 108 Tryz.f108 yo0 qb qb YN := fun x => by kernel_rfl
def yAn : QF := ⟨108, YN, okN (n := 0) Tryz.func108 trivial yuB⟩
def zp (x : y7K) : Option y7K :=
 Option.bind (J9 x) fun r1 => Option.bind (ZF x) fun r2 => Option.bind (bif r2 then Option.bind (yt (x.2.2.2.2.2.2.2.2.2.2.1, (0 : Int), (49999 : Int))) fun r4 => some r4 else some false) fun u3 => Option.bind (bif u3 then some (!x.2.2.2.1) else some false) fun u5 => bif u5 then Option.bind (YN r1) fun r6 => some r6 else some r1
theorem yAo : EV [yzO, yAc, y9f, yAn] lpN 39 Tryz.f39 yyz qb qb zp := fun x => by kernel_rfl
def q39 : QF := ⟨39, zp, okN (n := 0) Tryz.func39 trivial yAo⟩
abbrev vd : Type := ylq ⊕ ylr
def Yf (k0 : ysK → Option R) (k1 : ysL → Option R) (again : vd → Option R) : vd → Option R
 | .inl t5 => bif (decide (t5.2.1 < t5.1)) then if List.length ([([] : List z7)] : List y7) * 24 < 140737488355328 then again (Sum.inr (t5.1, (Go.IntKind.wrap .i64 (t5.2.1 + (1 : Int))), t5.2.2.1, t5.2.2.2.1, t5.2.2.2.2.1, t5.2.2.2.2.2, ([([] : List z7)] : List y7))) else none else k0 t5.2.2
 | .inr t5 => bif (decide (t5.2.1 < t5.1)) then if (List.length t5.2.2.2.2.2.2 + List.length ([([] : List z7)] : List y7)) * 24 < 140737488355328 then again (Sum.inr (t5.1, (Go.IntKind.wrap .i64 (t5.2.1 + (1 : Int))), t5.2.2.1, t5.2.2.2.1, t5.2.2.2.2.1, t5.2.2.2.2.2.1, (t5.2.2.2.2.2.2 ++ ([([] : List z7)] : List y7)))) else none else k1 t5.2.2
def Qc k0 k1 := z6 (@Yf R k0 k1) zd
def ww (x : Int) : Option y9d :=
 Option.bind (yt (x, (1 : Int), (60 : Int))) fun r1 => bif (!r1) then some (([] : List y7), ([] : List yQ), (0 : Int), false) else Qc (fun x2 => some (([] : List y7), ([] : List yQ), x2.2.2.1, x2.2.2.2)) (fun x3 => some (x3.2.2.2.2, ([] : List yQ), x3.2.2.1, x3.2.2.2.1)) (Sum.inl (x, (0 : Int), (0 : Int), false, (-1 : Int), false))
def yqj : List QF := [y9f]
def y6v (t : ylq) : St := ⟨vI t.1 :: .dead :: .box 2 0 :: .box 3 0 :: vI t.2.1 :: dd 17 [], [(2, .box [.nils, .nils, vI t.2.2.1, vB t.2.2.2.1]), (3, .box [.nils, .nils, vI t.2.2.2.2.1, vB t.2.2.2.2.2])]⟩
theorem yjy : ∀ s t, unG yxO y6v s = some t → y6v t = s := yf fun t => by kernel_rfl
def y6w (t : ylr) : St := ⟨vI t.1 :: .dead :: .box 2 0 :: .box 3 0 :: vI t.2.1 :: dd 17 [], [(2, .box [.nils, .nils, vI t.2.2.1, vB t.2.2.2.1]), (3, .box [.own 10000000, .nils, vI t.2.2.2.2.1, vB t.2.2.2.2.2.1]), (10000000, .root true 32 yg t.2.2.2.2.2.2)]⟩
theorem yjz : ∀ s t, unG yxP y6w s = some t → y6w t = s := yf fun t => by kernel_rfl
def y6x : (ylq ⊕ ylr) → St := Sum.elim y6v y6w
def y9U (s : St) : Option (ylq ⊕ ylr) := ((unG yxO y6v s).map Sum.inl).or (((unG yxP y6w) s).map Sum.inr)
theorem yjA : ∀ s t, y9U s = some t → y6x t = s := y0P yjy yjz
def yga : Gk vd := fun κ => Yf (fun t => κ (some 0) ⟨dd 2 (.box 2 0 :: .box 3 0 :: dd 18 []), [(2, .box [.nils, .nils, vI t.1, vB t.2.1]), (3, .box [.nils, .nils, vI t.2.2.1, vB t.2.2.2])]⟩) (fun t => κ (some 0) ⟨dd 2 (.box 2 0 :: .box 3 0 :: dd 18 []), [(2, .box [.nils, .nils, vI t.1, vB t.2.1]), (3, .box [.own 10000000, .nils, vI t.2.2.1, vB t.2.2.2.1]), (10000000, .root true 32 yg t.2.2.2.2)]⟩)
def yqk : Lp := lpC 5 y9U @yga lpN
theorem yjB : LF yqj yqk 95 5 Tryz.f95 0 y6x @yga fun v : ylq => .inl v := fun R κ again v => by kernel_rfl
theorem yjC : LF yqj yqk 95 5 Tryz.f95 0 y6x @yga fun v : ylr => .inr v := fun R κ again v => by kernel_rfl
theorem yuC : LF yqj yqk 95 5 Tryz.f95 0 y6x @yga fun t => t := (LC.sum yjB yjC)
theorem yuD : LK yqj yqk 95 Tryz.f95 0 := lkN (u := y9U) yjA yuC
theorem yAp : EV yqj yqk 95 Tryz.f95 yyA [(.int .i64)] QT ww := fun x => by kernel_rfl
def q95 : QF := ⟨95, ww, okN (n := 1) Tryz.func95 ⟨yuD, trivial⟩ yAp⟩
def Vd (x : Unit) : Option Qz4 :=
 some (([(0 : Int)] : List yx), ([([] : List y9)] : List y8))
theorem yuE : EV [] lpN 170 Tryz.f170 yo1 [] qz4 Vd := fun x => by kernel_rfl
def yAq : QF := ⟨170, Vd, okN (n := 0) Tryz.func170 trivial yuE⟩
def ve (x : Unit) : Option (List yb) :=
 if (0 : Int) ≤ (24 : Int) then if (24 : Int) ≤ (24 : Int) then if (24 : Int) * ((24 : Nat) : Int) ≤ 140737488351232 then some (List.replicate (Int.toNat (24 : Int)) JZ) else none else none else none
theorem yuF : EV [] lpN 171 Tryz.f171 yo2 [] [(.sl 95 yl)] ve := fun x => by kernel_rfl
def yAr : QF := ⟨171, ve, okN (n := 0) Tryz.func171 trivial yuF⟩
def Ve (x : Unit) : Option Qz5 :=
 Option.bind (Vd ()) fun r1 => Option.bind (ve ()) fun r2 => some (r1.1, r1.2, ([] : List yq), r2, ([] : List yD), (1 : Int))
theorem yAs : EV [yAq, yAr] lpN 96 Tryz.f96 yyB [] qz5 Ve := fun x => by kernel_rfl
def q96 : QF := ⟨96, Ve, okN (n := 0) Tryz.func96 trivial yAs⟩
def wx (x : Unit) : Option y7K :=
 Option.bind (ww (60 : Int)) fun r1 => Option.bind (Ve ()) fun r2 => Option.bind (zp (r1.1, r1.2.1, r1.2.2.1, r1.2.2.2, r2.1, r2.2.1, r2.2.2.1, r2.2.2.2.1, r2.2.2.2.2.1, r2.2.2.2.2.2, (0 : Int), (1 : Int), (1 : Int))) fun r3 => some r3
theorem yAt : EV [q39, q95, q96] lpN 30 Tryz.f30 yyC [] qb wx := fun x => by kernel_rfl
def q30 : QF := ⟨30, wx, okN (n := 0) Tryz.func30 trivial yAt⟩
def yd (x : ysM) : Option Bool :=
 Option.bind (bif (decide (x.1 ≥ x.2.1)) then some (decide (x.1 ≤ x.2.2)) else some false) fun u1 => some u1
theorem yuG : EV [] lpN 134 Tryz.f134 yo3 ysN [.bool] yd := fun x => by kernel_rfl
def y9g : QF := ⟨134, yd, okN (n := 0) Tryz.func134 trivial yuG⟩
def JT (x : yiQ) : Option Bool :=
 Option.bind (yd (x.1, (0 : Int), (15 : Int))) fun r1 => Option.bind (bif (!r1) then some true else Option.bind (yd (x.2.1, (1 : Int), (60 : Int))) fun r3 => some (!r3)) fun u2 => Option.bind (bif u2 then some true else Option.bind (yd (x.2.2.1, (0 : Int), (2 : Int))) fun r5 => some (!r5)) fun u4 => bif u4 then some false else bif (x.2.2.1 != (1 : Int)) then Option.bind (bif (x.2.2.2.1 == (0 : Int)) then some (x.2.2.2.2 == (0 : Int)) else some false) fun u6 => some u6 else Option.bind (yd (x.2.2.2.1, (0 : Int), (23 : Int))) fun r7 => Option.bind (bif r7 then Option.bind (yd (x.2.2.2.2, (0 : Int), (999 : Int))) fun r9 => some r9 else some false) fun u8 => some u8
theorem yuH : EV [y9g] lpN 138 Tryz.f138 yo4 y16 [.bool] JT := fun x => by kernel_rfl
def yzl : QF := ⟨138, JT, okN (n := 0) Tryz.func138 trivial yuH⟩
def ZU (x : yln) : Option Bool :=
 Option.bind (bif (decide (x.1 < x.2.2.2.2.2.1)) then some true else Option.bind (bif (x.1 == x.2.2.2.2.2.1) then some (decide (x.2.1 < x.2.2.2.2.2.2.1)) else some false) fun u2 => some u2) fun u1 => some u1
theorem yuI : EV [] lpN 279 Tryz.f279 yo5 ylo [.bool] ZU := fun x => by kernel_rfl
def yzm : QF := ⟨279, ZU, okN (n := 0) Tryz.func279 trivial yuI⟩
abbrev Vf : Type := yxQ
def Jm (k0 : yxh → Option R) (k1 : List ya → Option R) (again : Vf → Option R) (t2 : Vf) : Option R :=
 bif (decide (t2.2.2.2 < t2.2.2.1)) then if (0 : Int) ≤ t2.2.2.2 then if t2.2.2.2 < (List.length t2.2.1 : Int) then Option.bind (JT ((y0 t2.2.1 t2.2.2.2).1, (y0 t2.2.1 t2.2.2.2).2.1, (y0 t2.2.1 t2.2.2.2).2.2.1, (y0 t2.2.1 t2.2.2.2).2.2.2.1, (y0 t2.2.1 t2.2.2.2).2.2.2.2)) fun r1 => Option.bind (bif (!r1) then some true else Option.bind (bif (decide (t2.2.2.2 > (0 : Int))) then if (0 : Int) ≤ (Go.IntKind.wrap .i64 (t2.2.2.2 - (1 : Int))) then if (Go.IntKind.wrap .i64 (t2.2.2.2 - (1 : Int))) < (List.length t2.1 : Int) then Option.bind (ZU ((y0 t2.1 (Go.IntKind.wrap .i64 (t2.2.2.2 - (1 : Int)))).1, (y0 t2.1 (Go.IntKind.wrap .i64 (t2.2.2.2 - (1 : Int)))).2.1, (y0 t2.1 (Go.IntKind.wrap .i64 (t2.2.2.2 - (1 : Int)))).2.2.1, (y0 t2.1 (Go.IntKind.wrap .i64 (t2.2.2.2 - (1 : Int)))).2.2.2.1, (y0 t2.1 (Go.IntKind.wrap .i64 (t2.2.2.2 - (1 : Int)))).2.2.2.2, (y0 t2.2.1 t2.2.2.2).1, (y0 t2.2.1 t2.2.2.2).2.1, (y0 t2.2.1 t2.2.2.2).2.2.1, (y0 t2.2.1 t2.2.2.2).2.2.2.1, (y0 t2.2.1 t2.2.2.2).2.2.2.2)) fun r4 => some (!r4) else none else none else some false) fun u3 => some u3) fun u2 => bif u2 then k0 (t2.1, false) else again (t2.1, t2.2.1, t2.2.2.1, (Go.IntKind.wrap .i64 (t2.2.2.2 + (1 : Int)))) else none else none else k1 t2.1
def y03 k0 k1 := z6 (@Jm R k0 k1) zd
def kF (x : List ya) : Option Bool :=
 y03 (fun x5 => some x5.2) (fun x6 => some (decide ((List.length x6 : Int) ≤ (60 : Int)))) (x, x, (List.length x : Int), (0 : Int))
def yjD : List QF := [yzl, yzm]
def y6y (t : yxQ) : St := ⟨Vx t.1 :: dd 4 (Vx t.2.1 :: vI t.2.2.1 :: vI t.2.2.2 :: dd 25 []), []⟩
def yhB : Gk Vf := fun κ => Jm (fun t => κ none ⟨Vx t.1 :: .dead :: vB t.2 :: dd 30 [], []⟩) (fun t => κ (some 0) ⟨Vx t :: dd 32 [], []⟩)
def yjE : Lp := lpC 2 (unG yxR y6y) @yhB lpN
theorem yql : LF yjD yjE 246 2 Tryz.f246 0 y6y @yhB fun t => t := fun R κ again t => by kernel_rfl
theorem yqm : LK yjD yjE 246 Tryz.f246 0 := lkN (u := (unG yxR y6y)) (yf fun t => by kernel_rfl) yql
theorem yuJ : EV yjD yjE 246 Tryz.f246 yo6 [(.sl 106 yj)] [.bool] kF := fun x => by kernel_rfl
def yAu : QF := ⟨246, kF, okN (n := 1) Tryz.func246 ⟨yqm, trivial⟩ yuJ⟩
abbrev vf : Type := yxS
def jr (k0 : yzD → Option R) (k1 : Qz0 → Option R) (again : vf → Option R) (t3 : vf) : Option R :=
 bif (decide (t3.2.2.2.1 < t3.2.2.1)) then if (0 : Int) ≤ t3.2.2.2.1 then if t3.2.2.2.1 < (List.length t3.2.1 : Int) then Option.bind (kF (yh t3.2.1 t3.2.2.2.1)) fun r1 => Option.bind (bif (!r1) then some true else some ((List.length (yh t3.2.1 t3.2.2.2.1) : Int) == (0 : Int))) fun u2 => bif u2 then k0 (false, t3.1, t3.2.2.2.2) else again ((Go.IntKind.wrap .i64 (t3.1 + (List.length (yh t3.2.1 t3.2.2.2.1) : Int))), t3.2.1, t3.2.2.1, (Go.IntKind.wrap .i64 (t3.2.2.2.1 + (1 : Int))), t3.2.2.2.2) else none else none else k1 (t3.1, t3.2.2.2.2)
def Qd k0 k1 := z6 (@jr R k0 k1) zd
def wy (x : List y9) : Option Bool :=
 Qd (fun x3 => some x3.1) (fun x4 => Option.bind (bif (decide ((List.length x4.2 : Int) ≤ (3 : Int))) then some (decide (x4.1 ≤ (8 : Int))) else some false) fun u5 => some u5) ((0 : Int), x, (List.length x : Int), (0 : Int), x)
def yjF : List QF := [yAu]
def y6z (t : yxS) : St := ⟨.dead :: .box 1 0 :: .dead :: vI t.1 :: dd 3 (zH t.2.1 :: vI t.2.2.1 :: vI t.2.2.2.1 :: dd 24 []), [(1, .box [zH t.2.2.2.2])]⟩
def yhC : Gk vf := fun κ => jr (fun t => κ none ⟨.dead :: .box 1 0 :: vB t.1 :: vI t.2.1 :: dd 30 [], [(1, .box [zH t.2.2])]⟩) (fun t => κ (some 0) ⟨.dead :: .box 1 0 :: .dead :: vI t.1 :: dd 30 [], [(1, .box [zH t.2])]⟩)
def yjG : Lp := lpC 3 (unG yxT y6z) @yhC lpN
theorem yqn : LF yjF yjG 204 3 Tryz.f204 0 y6z @yhC fun t => t := fun R κ again t => by kernel_rfl
theorem yqo : LK yjF yjG 204 Tryz.f204 0 := lkN (u := (unG yxT y6z)) (yf fun t => by kernel_rfl) yqn
theorem yuK : EV yjF yjG 204 Tryz.f204 yo7 [(.sl 100 yr)] [.bool] wy := fun x => by kernel_rfl
def yAv : QF := ⟨204, wy, okN (n := 1) Tryz.func204 ⟨yqo, trivial⟩ yuK⟩
def Ku (x : y9e) : Option Int :=
 some (Go.IntKind.wrap .i64 ((Go.IntKind.wrap .i64 ((64 : Int) * x.1)) + x.2))
theorem yuL : EV [] lpN 247 Tryz.f247 yo8 yh6 [(.int .i64)] Ku := fun x => by kernel_rfl
def yAw : QF := ⟨247, Ku, okN (n := 0) Tryz.func247 trivial yuL⟩
abbrev WG : Type := yxU
def YO (k0 : yzE → Option R) (k1 : ysW → Option R) (again : WG → Option R) (t5 : WG) : Option R :=
 bif (decide (t5.2.2.2.2.2.2.1 < t5.2.2.2.2.2.1)) then if (0 : Int) ≤ t5.2.2.2.2.2.2.1 then if t5.2.2.2.2.2.2.1 < (List.length t5.2.2.2.2.1 : Int) then Option.bind (Ku ((y0 t5.2.2.2.2.1 t5.2.2.2.2.2.2.1).1, (y0 t5.2.2.2.2.1 t5.2.2.2.2.2.2.1).2.1)) fun r1 => if (0 : Int) ≤ t5.1 then if t5.1 < (List.length t5.2.2.2.2.2.2.2.1 : Int) then Option.bind (bif (decide (r1 < (zI t5.2.2.2.2.2.2.2.1 t5.1))) then some true else Option.bind (bif (decide ((Go.IntKind.wrap .i64 (t5.1 + (1 : Int))) < (List.length t5.2.2.2.2.2.2.2.1 : Int))) then if (0 : Int) ≤ (Go.IntKind.wrap .i64 (t5.1 + (1 : Int))) then if (Go.IntKind.wrap .i64 (t5.1 + (1 : Int))) < (List.length t5.2.2.2.2.2.2.2.1 : Int) then some (decide (r1 ≥ (zI t5.2.2.2.2.2.2.2.1 (Go.IntKind.wrap .i64 (t5.1 + (1 : Int)))))) else none else none else some false) fun u3 => some u3) fun u2 => bif u2 then k0 (t5.1, false, t5.2.1, t5.2.2.1, t5.2.2.2.1, t5.2.2.2.2.2.2.2) else again (t5.1, t5.2.1, t5.2.2.1, t5.2.2.2.1, t5.2.2.2.2.1, t5.2.2.2.2.2.1, (Go.IntKind.wrap .i64 (t5.2.2.2.2.2.2.1 + (1 : Int))), t5.2.2.2.2.2.2.2.1, t5.2.2.2.2.2.2.2.2) else none else none else none else none else k1 (t5.1, t5.2.1, t5.2.2.1, t5.2.2.2.1, t5.2.2.2.2.2.2.2)
def WH k0 k1 := z6 (@YO R k0 k1) zd
abbrev WI : Type := ysW
def YP (k0 : Bool → Option R) (k1 : Unit → Option R) (again : WI → Option R) (t2 : WI) : Option R :=
 bif (decide (t2.2.2.2.1 < t2.2.2.1)) then if (0 : Int) ≤ t2.2.2.2.1 then if t2.2.2.2.1 < (List.length t2.2.1 : Int) then WH (fun x4 => k0 x4.2.1) (fun x5 => again (x5.1, x5.2.1, x5.2.2.1, (Go.IntKind.wrap .i64 (x5.2.2.2.1 + (1 : Int))), x5.2.2.2.2.1, x5.2.2.2.2.2)) (t2.1, t2.2.1, t2.2.2.1, t2.2.2.2.1, (yh t2.2.1 t2.2.2.2.1), (List.length (yh t2.2.1 t2.2.2.2.1) : Int), (0 : Int), t2.2.2.2.2.1, t2.2.2.2.2.2) else none else none else k1 ()
def VA k0 k1 := z6 (@YP R k0 k1) zd
def jt (x : ysm) : Option Bool :=
 if (0 : Int) ≤ x.2.2 then if x.2.2 < (List.length x.2.1 : Int) then VA (fun x6 => some x6) (fun x7 => some true) (x.2.2, (yn x.2.1 x.2.2), (List.length (yn x.2.1 x.2.2) : Int), (0 : Int), x.1, x.2.1) else none else none
def ye4 : List QF := [yAw]
def y6A (t : yxU) : St := ⟨.dead :: vI t.1 :: .box 2 0 :: dd 12 (zH t.2.1 :: vI t.2.2.1 :: vI t.2.2.2.1 :: dd 3 (Vx t.2.2.2.2.1 :: vI t.2.2.2.2.2.1 :: vI t.2.2.2.2.2.2.1 :: dd 35 [])), [(2, .box [zn t.2.2.2.2.2.2.2.1, yH t.2.2.2.2.2.2.2.2])]⟩
def yhD : Gk WG := fun κ => YO (fun t => κ none ⟨.dead :: vI t.1 :: .box 2 0 :: .dead :: vB t.2.1 :: dd 10 (zH t.2.2.1 :: vI t.2.2.2.1 :: vI t.2.2.2.2.1 :: dd 41 []), [(2, .box [zn t.2.2.2.2.2.1, yH t.2.2.2.2.2.2])]⟩) (fun t => κ (some 2) ⟨.dead :: vI t.1 :: .box 2 0 :: dd 12 (zH t.2.1 :: vI t.2.2.1 :: vI t.2.2.2.1 :: dd 41 []), [(2, .box [zn t.2.2.2.2.1, yH t.2.2.2.2.2])]⟩)
def y6B (t : ysW) : St := ⟨.dead :: vI t.1 :: .box 2 0 :: dd 12 (zH t.2.1 :: vI t.2.2.1 :: vI t.2.2.2.1 :: dd 41 []), [(2, .box [zn t.2.2.2.2.1, yH t.2.2.2.2.2])]⟩
def yhE : Gk WI := fun κ => YP (fun t => κ none ⟨dd 4 (vB t :: dd 54 []), []⟩) (fun t => κ (some 0) ⟨dd 59 [], []⟩)
def ye5 : Lp := lpC 2 (unG yxW y6B) @yhE (lpC 5 (unG yxV y6A) @yhD lpN)
theorem yqp : LF ye4 ye5 205 5 Tryz.f205 1 y6A @yhD fun t => t := fun R κ again t => by kernel_rfl
theorem yqq : LK ye4 ye5 205 Tryz.f205 1 := lkN (u := (unG yxV y6A)) (yf fun t => by kernel_rfl) yqp
theorem yqr : LF ye4 ye5 205 2 Tryz.f205 0 y6B @yhE fun t => t := fun R κ again t => by kernel_rfl
theorem yqs : LK ye4 ye5 205 Tryz.f205 0 := lkN (u := (unG yxW y6B)) (yf fun t => by kernel_rfl) yqr
theorem yuM : EV ye4 ye5 205 Tryz.f205 yo9 ysn [.bool] jt := fun x => by kernel_rfl
def yAx : QF := ⟨205, jt, okN (n := 2) Tryz.func205 ⟨yqs, yqq, trivial⟩ yuM⟩
def zV (x : List ya) : Option (List ya) :=
 if (List.length ([] : List ya) + List.length x) * 40 < 140737488355328 then some (([] : List ya) ++ x) else none
theorem yuN : EV [] lpN 280 Tryz.f280 yoa [(.sl 106 yj)] [(.sl 106 yj)] zV := fun x => by kernel_rfl
def yzn : QF := ⟨280, zV, okN (n := 0) Tryz.func280 trivial yuN⟩
def YQ (x : yln) : Option Bool :=
 Option.bind (bif (x.1 == x.2.2.2.2.2.1) then some (x.2.1 == x.2.2.2.2.2.2.1) else some false) fun u1 => some u1
theorem yuO : EV [] lpN 302 Tryz.f302 yob ylo [.bool] YQ := fun x => by kernel_rfl
def yAy : QF := ⟨302, YQ, okN (n := 0) Tryz.func302 trivial yuO⟩
abbrev wz : Type := yxX
def Yg (k0 : yxa → Option R) (again : wz → Option R) (t4 : wz) : Option R :=
 bif (decide (t4.2.2.2.1 < t4.2.2.1)) then if (0 : Int) ≤ t4.2.2.2.1 then if t4.2.2.2.1 < (List.length t4.2.1 : Int) then Option.bind (bif (!t4.1) then Option.bind (ZU ((y0 t4.2.1 t4.2.2.2.1).1, (y0 t4.2.1 t4.2.2.2.1).2.1, (y0 t4.2.1 t4.2.2.2.1).2.2.1, (y0 t4.2.1 t4.2.2.2.1).2.2.2.1, (y0 t4.2.1 t4.2.2.2.1).2.2.2.2, t4.2.2.2.2.1, t4.2.2.2.2.2.1, t4.2.2.2.2.2.2.1, t4.2.2.2.2.2.2.2.1, t4.2.2.2.2.2.2.2.2.1)) fun r2 => some (!r2) else some false) fun u1 => bif u1 then if (List.length t4.2.2.2.2.2.2.2.2.2 + List.length ([(t4.2.2.2.2.1, t4.2.2.2.2.2.1, t4.2.2.2.2.2.2.1, t4.2.2.2.2.2.2.2.1, t4.2.2.2.2.2.2.2.2.1)] : List ya)) * 40 < 140737488355328 then Option.bind (YQ ((y0 t4.2.1 t4.2.2.2.1).1, (y0 t4.2.1 t4.2.2.2.1).2.1, (y0 t4.2.1 t4.2.2.2.1).2.2.1, (y0 t4.2.1 t4.2.2.2.1).2.2.2.1, (y0 t4.2.1 t4.2.2.2.1).2.2.2.2, t4.2.2.2.2.1, t4.2.2.2.2.2.1, t4.2.2.2.2.2.2.1, t4.2.2.2.2.2.2.2.1, t4.2.2.2.2.2.2.2.2.1)) fun r3 => bif (!r3) then if (List.length (t4.2.2.2.2.2.2.2.2.2 ++ ([(t4.2.2.2.2.1, t4.2.2.2.2.2.1, t4.2.2.2.2.2.2.1, t4.2.2.2.2.2.2.2.1, t4.2.2.2.2.2.2.2.2.1)] : List ya)) + List.length ([((y0 t4.2.1 t4.2.2.2.1).1, (y0 t4.2.1 t4.2.2.2.1).2.1, (y0 t4.2.1 t4.2.2.2.1).2.2.1, (y0 t4.2.1 t4.2.2.2.1).2.2.2.1, (y0 t4.2.1 t4.2.2.2.1).2.2.2.2)] : List ya)) * 40 < 140737488355328 then again (true, t4.2.1, t4.2.2.1, (Go.IntKind.wrap .i64 (t4.2.2.2.1 + (1 : Int))), t4.2.2.2.2.1, t4.2.2.2.2.2.1, t4.2.2.2.2.2.2.1, t4.2.2.2.2.2.2.2.1, t4.2.2.2.2.2.2.2.2.1, ((t4.2.2.2.2.2.2.2.2.2 ++ ([(t4.2.2.2.2.1, t4.2.2.2.2.2.1, t4.2.2.2.2.2.2.1, t4.2.2.2.2.2.2.2.1, t4.2.2.2.2.2.2.2.2.1)] : List ya)) ++ ([((y0 t4.2.1 t4.2.2.2.1).1, (y0 t4.2.1 t4.2.2.2.1).2.1, (y0 t4.2.1 t4.2.2.2.1).2.2.1, (y0 t4.2.1 t4.2.2.2.1).2.2.2.1, (y0 t4.2.1 t4.2.2.2.1).2.2.2.2)] : List ya))) else none else again (true, t4.2.1, t4.2.2.1, (Go.IntKind.wrap .i64 (t4.2.2.2.1 + (1 : Int))), t4.2.2.2.2.1, t4.2.2.2.2.2.1, t4.2.2.2.2.2.2.1, t4.2.2.2.2.2.2.2.1, t4.2.2.2.2.2.2.2.2.1, (t4.2.2.2.2.2.2.2.2.2 ++ ([(t4.2.2.2.2.1, t4.2.2.2.2.2.1, t4.2.2.2.2.2.2.1, t4.2.2.2.2.2.2.2.1, t4.2.2.2.2.2.2.2.2.1)] : List ya))) else none else Option.bind (YQ ((y0 t4.2.1 t4.2.2.2.1).1, (y0 t4.2.1 t4.2.2.2.1).2.1, (y0 t4.2.1 t4.2.2.2.1).2.2.1, (y0 t4.2.1 t4.2.2.2.1).2.2.2.1, (y0 t4.2.1 t4.2.2.2.1).2.2.2.2, t4.2.2.2.2.1, t4.2.2.2.2.2.1, t4.2.2.2.2.2.2.1, t4.2.2.2.2.2.2.2.1, t4.2.2.2.2.2.2.2.2.1)) fun r4 => bif (!r4) then if (List.length t4.2.2.2.2.2.2.2.2.2 + List.length ([((y0 t4.2.1 t4.2.2.2.1).1, (y0 t4.2.1 t4.2.2.2.1).2.1, (y0 t4.2.1 t4.2.2.2.1).2.2.1, (y0 t4.2.1 t4.2.2.2.1).2.2.2.1, (y0 t4.2.1 t4.2.2.2.1).2.2.2.2)] : List ya)) * 40 < 140737488355328 then again (t4.1, t4.2.1, t4.2.2.1, (Go.IntKind.wrap .i64 (t4.2.2.2.1 + (1 : Int))), t4.2.2.2.2.1, t4.2.2.2.2.2.1, t4.2.2.2.2.2.2.1, t4.2.2.2.2.2.2.2.1, t4.2.2.2.2.2.2.2.2.1, (t4.2.2.2.2.2.2.2.2.2 ++ ([((y0 t4.2.1 t4.2.2.2.1).1, (y0 t4.2.1 t4.2.2.2.1).2.1, (y0 t4.2.1 t4.2.2.2.1).2.2.1, (y0 t4.2.1 t4.2.2.2.1).2.2.2.1, (y0 t4.2.1 t4.2.2.2.1).2.2.2.2)] : List ya))) else none else again (t4.1, t4.2.1, t4.2.2.1, (Go.IntKind.wrap .i64 (t4.2.2.2.1 + (1 : Int))), t4.2.2.2.2.1, t4.2.2.2.2.2.1, t4.2.2.2.2.2.2.1, t4.2.2.2.2.2.2.2.1, t4.2.2.2.2.2.2.2.2.1, t4.2.2.2.2.2.2.2.2.2) else none else none else k0 (t4.1, t4.2.2.2.2)
def vg k0 := z6 (@Yg R k0) zd
def wA (x : yxb) : Option (List ya) :=
 vg (fun x5 => bif (!x5.1) then if (List.length x5.2.2.2.2.2.2 + List.length ([(x5.2.1, x5.2.2.1, x5.2.2.2.1, x5.2.2.2.2.1, x5.2.2.2.2.2.1)] : List ya)) * 40 < 140737488355328 then some (x5.2.2.2.2.2.2 ++ ([(x5.2.1, x5.2.2.1, x5.2.2.2.1, x5.2.2.2.2.1, x5.2.2.2.2.2.1)] : List ya)) else none else some x5.2.2.2.2.2.2) (false, x.1, (List.length x.1 : Int), (0 : Int), x.2.1, x.2.2.1, x.2.2.2.1, x.2.2.2.2.1, x.2.2.2.2.2, ([] : List ya))
def yjH : List QF := [yzm, yAy]
def y6C (t : yxX) : St := ⟨dd 3 (.box 3 0 :: .dead :: .own 10000000 :: vB t.1 :: dd 3 (Vx t.2.1 :: vI t.2.2.1 :: vI t.2.2.2.1 :: dd 31 [])), [(3, .box [vI t.2.2.2.2.1, vI t.2.2.2.2.2.1, vI t.2.2.2.2.2.2.1, vI t.2.2.2.2.2.2.2.1, vI t.2.2.2.2.2.2.2.2.1]), (10000000, .root true 106 yj t.2.2.2.2.2.2.2.2.2)]⟩
def yhF : Gk wz := fun κ => Yg (fun t => κ (some 0) ⟨dd 3 (.box 3 0 :: .dead :: .own 10000000 :: vB t.1 :: dd 37 []), [(3, .box [vI t.2.1, vI t.2.2.1, vI t.2.2.2.1, vI t.2.2.2.2.1, vI t.2.2.2.2.2.1]), (10000000, .root true 106 yj t.2.2.2.2.2.2)]⟩)
def yjI : Lp := lpC 4 (unG yxY y6C) @yhF lpN
theorem yqt : LF yjH yjI 281 4 Tryz.f281 0 y6C @yhF fun t => t := fun R κ again t => by kernel_rfl
theorem yqu : LK yjH yjI 281 Tryz.f281 0 := lkN (u := (unG yxY y6C)) (yf fun t => by kernel_rfl) yqt
theorem yuP : EV yjH yjI 281 Tryz.f281 yoc yxc [(.sl 106 yj)] wA := fun x => by kernel_rfl
def yAz : QF := ⟨281, wA, okN (n := 1) Tryz.func281 ⟨yqu, trivial⟩ yuP⟩
abbrev wB : Type := ysz
def Yw (k0 : List ya → Option R) (again : wB → Option R) (t3 : wB) : Option R :=
 bif (decide (t3.2.2.1 < t3.2.1)) then if (0 : Int) ≤ t3.2.2.1 then if t3.2.2.1 < (List.length t3.1 : Int) then Option.bind (wA (t3.2.2.2, (y0 t3.1 t3.2.2.1).1, (y0 t3.1 t3.2.2.1).2.1, (y0 t3.1 t3.2.2.1).2.2.1, (y0 t3.1 t3.2.2.1).2.2.2.1, (y0 t3.1 t3.2.2.1).2.2.2.2)) fun r2 => again (t3.1, t3.2.1, (Go.IntKind.wrap .i64 (t3.2.2.1 + (1 : Int))), r2) else none else none else k0 t3.2.2.2
def vT k0 := z6 (@Yw R k0) zd
def Ym (x : ysO) : Option (List ya) :=
 Option.bind (zV x.1) fun r1 => vT (fun x3 => some x3) (x.2, (List.length x.2 : Int), (0 : Int), r1)
def yjJ : List QF := [yzn, yAz]
def y6D (t : ysz) : St := ⟨dd 5 (.own 10000000 :: dd 4 (Vx t.1 :: vI t.2.1 :: vI t.2.2.1 :: dd 8 [])), [(10000000, .root true 106 yj t.2.2.2)]⟩
def yhG : Gk wB := fun κ => Yw (fun t => κ (some 0) ⟨dd 5 (.own 10000000 :: dd 15 []), [(10000000, .root true 106 yj t)]⟩)
def yjK : Lp := lpC 3 (unG ysA y6D) @yhG lpN
theorem yqv : LF yjJ yjK 248 3 Tryz.f248 0 y6D @yhG fun t => t := fun R κ again t => by kernel_rfl
theorem yqw : LK yjJ yjK 248 Tryz.f248 0 := lkN (u := (unG ysA y6D)) (yf fun t => by kernel_rfl) yqv
theorem yuQ : EV yjJ yjK 248 Tryz.f248 yod ysP [(.sl 106 yj)] Ym := fun x => by kernel_rfl
def yAA : QF := ⟨248, Ym, okN (n := 1) Tryz.func248 ⟨yqw, trivial⟩ yuQ⟩
abbrev qd : Type := ysz
def wC (k0 : List ya → Option R) (again : qd → Option R) (t3 : qd) : Option R :=
 bif (decide (t3.2.2.1 < t3.2.1)) then if (0 : Int) ≤ t3.2.2.1 then if t3.2.2.1 < (List.length t3.1 : Int) then bif ((y0 t3.1 t3.2.2.1).2.2.1 != (0 : Int)) then if (List.length t3.2.2.2 + List.length ([((y0 t3.1 t3.2.2.1).1, (y0 t3.1 t3.2.2.1).2.1, (y0 t3.1 t3.2.2.1).2.2.1, (y0 t3.1 t3.2.2.1).2.2.2.1, (y0 t3.1 t3.2.2.1).2.2.2.2)] : List ya)) * 40 < 140737488355328 then again (t3.1, t3.2.1, (Go.IntKind.wrap .i64 (t3.2.2.1 + (1 : Int))), (t3.2.2.2 ++ ([((y0 t3.1 t3.2.2.1).1, (y0 t3.1 t3.2.2.1).2.1, (y0 t3.1 t3.2.2.1).2.2.1, (y0 t3.1 t3.2.2.1).2.2.2.1, (y0 t3.1 t3.2.2.1).2.2.2.2)] : List ya))) else none else again (t3.1, t3.2.1, (Go.IntKind.wrap .i64 (t3.2.2.1 + (1 : Int))), t3.2.2.2) else none else none else k0 t3.2.2.2
def y0R k0 := z6 (@wC R k0) zd
def WJ (x : List ya) : Option (List ya) :=
 y0R (fun x1 => some x1) (x, (List.length x : Int), (0 : Int), ([] : List ya))
def yjL : List QF := []
def y6E (t : ysz) : St := ⟨dd 3 (.own 10000000 :: dd 3 (Vx t.1 :: vI t.2.1 :: vI t.2.2.1 :: dd 12 [])), [(10000000, .root true 106 yj t.2.2.2)]⟩
def yhH : Gk qd := fun κ => wC (fun t => κ (some 0) ⟨dd 3 (.own 10000000 :: dd 18 []), [(10000000, .root true 106 yj t)]⟩)
def yjM : Lp := lpC 3 (unG ysA y6E) @yhH lpN
theorem yqx : LF yjL yjM 249 3 Tryz.f249 0 y6E @yhH fun t => t := fun R κ again t => by kernel_rfl
theorem yqy : LK yjL yjM 249 Tryz.f249 0 := lkN (u := (unG ysA y6E)) (yf fun t => by kernel_rfl) yqx
theorem yuR : EV yjL yjM 249 Tryz.f249 yoe [(.sl 106 yj)] [(.sl 106 yj)] WJ := fun x => by kernel_rfl
def yAB : QF := ⟨249, WJ, okN (n := 1) Tryz.func249 ⟨yqy, trivial⟩ yuR⟩
abbrev WK : Type := yxZ
def YR (k0 : List ya → Option R) (again : WK → Option R) (t3 : WK) : Option R :=
 bif (decide (t3.2.2.1 < t3.2.1)) then if (0 : Int) ≤ t3.2.2.1 then if t3.2.2.1 < (List.length t3.1 : Int) then Option.bind (Ym (t3.2.2.2, (yh t3.1 t3.2.2.1))) fun r1 => again (t3.1, t3.2.1, (Go.IntKind.wrap .i64 (t3.2.2.1 + (1 : Int))), r1) else none else none else k0 t3.2.2.2
def VB k0 := z6 (@YR R k0) zd
def zW (x : List y9) : Option (List ya) :=
 VB (fun x2 => Option.bind (WJ x2) fun r3 => some r3) (x, (List.length x : Int), (0 : Int), ([] : List ya))
def yjN : List QF := [yAA, yAB]
def y6F (t : yxZ) : St := ⟨dd 3 (.own 10000000 :: dd 4 (zH t.1 :: vI t.2.1 :: vI t.2.2.1 :: dd 9 [])), [(10000000, .root true 106 yj t.2.2.2)]⟩
def yhI : Gk WK := fun κ => YR (fun t => κ (some 0) ⟨dd 3 (.own 10000000 :: dd 16 []), [(10000000, .root true 106 yj t)]⟩)
def yjO : Lp := lpC 3 (unG yy0 y6F) @yhI lpN
theorem yqz : LF yjN yjO 206 3 Tryz.f206 0 y6F @yhI fun t => t := fun R κ again t => by kernel_rfl
theorem yqA : LK yjN yjO 206 Tryz.f206 0 := lkN (u := (unG yy0 y6F)) (yf fun t => by kernel_rfl) yqz
theorem yuS : EV yjN yjO 206 Tryz.f206 yof [(.sl 100 yr)] [(.sl 106 yj)] zW := fun x => by kernel_rfl
def yzo : QF := ⟨206, zW, okN (n := 1) Tryz.func206 ⟨yqA, trivial⟩ yuS⟩
abbrev vh : Type := yy1
def ju (k0 : yy3 → Option R) (k1 : Int → Option R) (again : vh → Option R) (t5 : vh) : Option R :=
 bif (decide (t5.2.2.2.1 < t5.2.2.1)) then if (0 : Int) ≤ t5.2.2.2.1 then if t5.2.2.2.1 < (List.length t5.2.1 : Int) then Option.bind (bif (decide (t5.2.2.2.1 > (0 : Int))) then if (0 : Int) ≤ (Go.IntKind.wrap .i64 (t5.2.2.2.1 - (1 : Int))) then if (Go.IntKind.wrap .i64 (t5.2.2.2.1 - (1 : Int))) < (List.length t5.2.2.2.2.1 : Int) then if (0 : Int) ≤ t5.2.2.2.1 then if t5.2.2.2.1 < (List.length t5.2.2.2.2.1 : Int) then some (decide ((zI t5.2.2.2.2.1 (Go.IntKind.wrap .i64 (t5.2.2.2.1 - (1 : Int)))) ≥ (zI t5.2.2.2.2.1 t5.2.2.2.1))) else none else none else none else none else some false) fun u4 => Option.bind (bif u4 then some true else Option.bind (wy (yn t5.2.1 t5.2.2.2.1)) fun r6 => some (!r6)) fun u5 => Option.bind (bif u5 then some true else Option.bind (jt (t5.2.2.2.2.1, t5.2.2.2.2.2, t5.2.2.2.1)) fun r8 => some (!r8)) fun u7 => bif u7 then k0 (false, t5.1) else Option.bind (zW (yn t5.2.1 t5.2.2.2.1)) fun r9 => Option.bind (bif (decide (t5.2.2.2.1 > (0 : Int))) then some ((List.length r9 : Int) == (0 : Int)) else some false) fun u10 => bif u10 then k0 (false, t5.1) else again ((Go.IntKind.wrap .i64 (t5.1 + (List.length r9 : Int))), t5.2.1, t5.2.2.1, (Go.IntKind.wrap .i64 (t5.2.2.2.1 + (1 : Int))), t5.2.2.2.2.1, t5.2.2.2.2.2) else none else none else k1 t5.1
def Qe k0 k1 := z6 (@ju R k0 k1) zd
def wD (x : Qz4) : Option Bool :=
 Option.bind (yd ((List.length x.2 : Int), (1 : Int), (20 : Int))) fun r1 => Option.bind (bif (!r1) then some true else some ((List.length x.1 : Int) != (List.length x.2 : Int))) fun u2 => Option.bind (bif u2 then some true else if (0 : Int) ≤ (0 : Int) then if (0 : Int) < (List.length x.1 : Int) then some ((zI x.1 (0 : Int)) != (0 : Int)) else none else none) fun u3 => bif u3 then some false else Qe (fun x11 => some x11.1) (fun x12 => some (decide (x12 ≤ (60 : Int)))) ((0 : Int), x.2, (List.length x.2 : Int), (0 : Int), x.1, x.2)
def yjP : List QF := [y9g, yAv, yAx, yzo]
def y6G (t : yy1) : St := ⟨.dead :: .box 1 0 :: .dead :: vI t.1 :: dd 25 (yH t.2.1 :: vI t.2.2.1 :: vI t.2.2.2.1 :: dd 46 []), [(1, .box [zn t.2.2.2.2.1, yH t.2.2.2.2.2])]⟩
def yhJ : Gk vh := fun κ => ju (fun t => κ none ⟨dd 2 (vB t.1 :: vI t.2 :: dd 74 []), []⟩) (fun t => κ (some 0) ⟨dd 3 (vI t :: dd 74 []), []⟩)
def yjQ : Lp := lpC 5 (unG yy2 y6G) @yhJ lpN
theorem yqB : LF yjP yjQ 131 5 Tryz.f131 0 y6G @yhJ fun t => t := fun R κ again t => by kernel_rfl
theorem yqC : LK yjP yjQ 131 Tryz.f131 0 := lkN (u := (unG yy2 y6G)) (yf fun t => by kernel_rfl) yqB
theorem yuT : EV yjP yjQ 131 Tryz.f131 yog qz4 [.bool] wD := fun x => by kernel_rfl
def yAC : QF := ⟨131, wD, okN (n := 1) Tryz.func131 ⟨yqC, trivial⟩ yuT⟩
def ku (x : ysM) : Option yy3 :=
 some ((x.1 == x.2.2), x.2.2)
theorem yuU : EV [] lpN 251 Tryz.f251 yoh ysN yzF ku := fun x => by kernel_rfl
def yAD : QF := ⟨251, ku, okN (n := 0) Tryz.func251 trivial yuU⟩
abbrev zj : Type := yy4
def yK (k0 : y9e → Option R) (k1 : Int → Option R) (again : zj → Option R) (t2 : zj) : Option R :=
 bif (decide (t2.2.2.1 < t2.2.1)) then if (0 : Int) ≤ t2.2.2.1 then if t2.2.2.1 < (List.length t2.1 : Int) then Option.bind (ku ((z8 t2.1 t2.2.2.1).1, (z8 t2.1 t2.2.2.1).2, t2.2.2.2)) fun r1 => bif r1.1 then k0 (t2.2.2.1, r1.2) else again (t2.1, t2.2.1, (Go.IntKind.wrap .i64 (t2.2.2.1 + (1 : Int))), r1.2) else none else none else k1 t2.2.2.2
def Y5 k0 k1 := z6 (@yK R k0 k1) zd
def yO (x : yfC) : Option y9e :=
 Y5 (fun x2 => some x2) (fun x3 => some ((-1 : Int), x3)) (x.1, (List.length x.1 : Int), (0 : Int), x.2)
def y6H : List QF := [yAD]
def y0n (t : yy4) : St := ⟨zv t.1 :: .clo 251 901 :: dd 5 (vI t.2.1 :: vI t.2.2.1 :: dd 10 []), [(901, .box [vI t.2.2.2])]⟩
def y8C : Gk zj := fun κ => yK (fun t => κ none ⟨.dead :: .clo 251 901 :: dd 2 (vI t.1 :: dd 14 []), [(901, .box [vI t.2])]⟩) (fun t => κ (some 0) ⟨.dead :: .clo 251 901 :: dd 17 [], [(901, .box [vI t])]⟩)
def y6I : Lp := lpC 2 (unG yy5 y0n) @y8C lpN
theorem ye6 : LF y6H y6I 100004 2 Tryz.f250 0 y0n @y8C fun t => t := fun R κ again t => by kernel_rfl
theorem ye7 : LK y6H y6I 100004 Tryz.f250 0 := lkN (u := (unG yy5 y0n)) (yf fun t => by kernel_rfl) ye6
theorem ygb : EV y6H y6I 100004 Tryz.f250 ybf yfD yh6 yO := fun x => by kernel_rfl
def yjR : QF := ⟨100004, yO, okN (n := 1) Tryz.func250 ⟨ye7, trivial⟩ ygb⟩
def Zk (x : yfC) : Option Int :=
 Option.bind (yO x) fun r1 => some r1.1
theorem yuV : EV [yjR] lpN 207 Tryz.f207 yoi yfD [(.int .i64)] Zk := fun x => by kernel_rfl
def yuW : QF := ⟨207, Zk, okN (n := 0) Tryz.func207 trivial yuV⟩
abbrev vi : Type := yy6
def jx (k0 : yxl → Option R) (k1 : List yq → Option R) (again : vi → Option R) (t2 : vi) : Option R :=
 bif (decide (t2.2.2.2 < t2.2.2.1)) then if (0 : Int) ≤ t2.2.2.2 then if t2.2.2.2 < (List.length t2.2.1 : Int) then Option.bind (yd ((z8 t2.2.1 t2.2.2.2).1, (1 : Int), (60 : Int))) fun r1 => Option.bind (bif (!r1) then some true else Option.bind (bif (decide (t2.2.2.2 > (0 : Int))) then if (0 : Int) ≤ (Go.IntKind.wrap .i64 (t2.2.2.2 - (1 : Int))) then if (Go.IntKind.wrap .i64 (t2.2.2.2 - (1 : Int))) < (List.length t2.1 : Int) then some (decide ((z8 t2.1 (Go.IntKind.wrap .i64 (t2.2.2.2 - (1 : Int)))).1 ≥ (z8 t2.2.1 t2.2.2.2).1)) else none else none else some false) fun u3 => some u3) fun u2 => Option.bind (bif u2 then some true else Option.bind (bif ((z8 t2.2.1 t2.2.2.2).2 != (0 : Int)) then if (0 : Int) ≤ (0 : Int) then if (0 : Int) ≤ t2.2.2.2 then if t2.2.2.2 ≤ (List.length t2.1 : Int) then Option.bind (Zk ((List.drop (Int.toNat (0 : Int)) (List.take (Int.toNat t2.2.2.2) t2.1)), (z8 t2.2.1 t2.2.2.2).2)) fun r6 => some (decide (r6 < (0 : Int))) else none else none else none else some false) fun u5 => some u5) fun u4 => bif u4 then k0 (t2.1, false) else again (t2.1, t2.2.1, t2.2.2.1, (Go.IntKind.wrap .i64 (t2.2.2.2 + (1 : Int)))) else none else none else k1 t2.1
def Qg k0 k1 := z6 (@jx R k0 k1) zd
def wE (x : List yq) : Option Bool :=
 Qg (fun x7 => some x7.2) (fun x8 => some (decide ((List.length x8 : Int) ≤ (16 : Int)))) (x, x, (List.length x : Int), (0 : Int))
def yjS : List QF := [y9g, yuW]
def y6J (t : yy6) : St := ⟨zv t.1 :: dd 4 (zv t.2.1 :: vI t.2.2.1 :: vI t.2.2.2 :: dd 41 []), []⟩
def yhK : Gk vi := fun κ => jx (fun t => κ none ⟨zv t.1 :: .dead :: vB t.2 :: dd 46 [], []⟩) (fun t => κ (some 0) ⟨zv t :: dd 48 [], []⟩)
def yjT : Lp := lpC 2 (unG yy7 y6J) @yhK lpN
theorem yqD : LF yjS yjT 132 2 Tryz.f132 0 y6J @yhK fun t => t := fun R κ again t => by kernel_rfl
theorem yqE : LK yjS yjT 132 Tryz.f132 0 := lkN (u := (unG yy7 y6J)) (yf fun t => by kernel_rfl) yqD
theorem yuX : EV yjS yjT 132 Tryz.f132 yoj [(.sl 89 yG)] [.bool] wE := fun x => by kernel_rfl
def yAE : QF := ⟨132, wE, okN (n := 1) Tryz.func132 ⟨yqE, trivial⟩ yuX⟩
def wF (x : Int) : Option Bool :=
 Option.bind (yd (x, (0 : Int), (65535 : Int))) fun r1 => some r1
theorem yuY : EV [y9g] lpN 208 Tryz.f208 yok [(.int .i64)] [.bool] wF := fun x => by kernel_rfl
def yAF : QF := ⟨208, wF, okN (n := 0) Tryz.func208 trivial yuY⟩
abbrev kX : Type := yy8
def ZH (k0 : yxm → Option R) (k1 : List yb → Option R) (again : kX → Option R) (t2 : kX) : Option R :=
 bif (decide (t2.2.2.2 < t2.2.2.1)) then if (0 : Int) ≤ t2.2.2.2 then if t2.2.2.2 < (List.length t2.2.1 : Int) then Option.bind (yd ((ym t2.2.1 t2.2.2.2).1, (0 : Int), (999 : Int))) fun r1 => Option.bind (bif (!r1) then some true else Option.bind (wF ((ym t2.2.1 t2.2.2.2).2.2)) fun r3 => some (!r3)) fun u2 => Option.bind (bif u2 then some true else Option.bind (bif ((ym t2.2.1 t2.2.2.2).2.2 != (0 : Int)) then some (!((ym t2.2.1 t2.2.2.2).2.1)) else some false) fun u5 => some u5) fun u4 => bif u4 then k0 (t2.1, false) else again (t2.1, t2.2.1, t2.2.2.1, (Go.IntKind.wrap .i64 (t2.2.2.2 + (1 : Int)))) else none else none else k1 t2.1
def qx k0 k1 := z6 (@ZH R k0 k1) zd
def Jn (x : List yb) : Option Bool :=
 qx (fun x6 => some x6.2) (fun x7 => some ((List.length x7 : Int) == (24 : Int))) (x, x, (List.length x : Int), (0 : Int))
def yjU : List QF := [y9g, yAF]
def y6K (t : yy8) : St := ⟨yV t.1 :: dd 4 (yV t.2.1 :: vI t.2.2.1 :: vI t.2.2.2 :: dd 27 []), []⟩
def yhL : Gk kX := fun κ => ZH (fun t => κ none ⟨yV t.1 :: .dead :: vB t.2 :: dd 32 [], []⟩) (fun t => κ (some 0) ⟨yV t :: dd 34 [], []⟩)
def yjV : Lp := lpC 2 (unG yy9 y6K) @yhL lpN
theorem yqF : LF yjU yjV 133 2 Tryz.f133 0 y6K @yhL fun t => t := fun R κ again t => by kernel_rfl
theorem yqG : LK yjU yjV 133 Tryz.f133 0 := lkN (u := (unG yy9 y6K)) (yf fun t => by kernel_rfl) yqF
theorem yuZ : EV yjU yjV 133 Tryz.f133 yol [(.sl 95 yl)] [.bool] Jn := fun x => by kernel_rfl
def yAG : QF := ⟨133, Jn, okN (n := 1) Tryz.func133 ⟨yqG, trivial⟩ yuZ⟩
abbrev vj : Type := yss
def vk (k0 : yxn → Option R) (k1 : ByteArray → Option R) (again : vj → Option R) (t2 : vj) : Option R :=
 bif (decide (t2.2 < ((ByteArray.size t2.1 : Nat) : Int))) then if (0 : Int) ≤ t2.2 then if h1 : Int.toNat t2.2 < ByteArray.size t2.1 then Option.bind (yd ((Go.IntKind.wrap .i64 ((UInt8.toNat (ByteArray.get t2.1 (Int.toNat t2.2) h1) : Nat) : Int)), (97 : Int), (122 : Int))) fun r2 => Option.bind (bif (!r2) then if (0 : Int) ≤ t2.2 then if h4 : Int.toNat t2.2 < ByteArray.size t2.1 then Option.bind (yd ((Go.IntKind.wrap .i64 ((UInt8.toNat (ByteArray.get t2.1 (Int.toNat t2.2) h4) : Nat) : Int)), (48 : Int), (57 : Int))) fun r5 => some (!r5) else none else none else some false) fun u3 => bif u3 then k0 (t2.1, false) else again (t2.1, (Go.IntKind.wrap .i64 (t2.2 + (1 : Int)))) else none else none else k1 t2.1
def Qh k0 k1 := z6 (@vk R k0 k1) zd
def wG (x : ByteArray) : Option Bool :=
 Qh (fun x6 => some x6.2) (fun x7 => Option.bind (yd (((ByteArray.size x7 : Nat) : Int), (1 : Int), (6 : Int))) fun r8 => some r8) (x, (0 : Int))
def yjW : List QF := [y9g]
def y6L (t : yss) : St := ⟨vS t.1 :: dd 2 (vI t.2 :: dd 23 []), []⟩
def yhM : Gk vj := fun κ => vk (fun t => κ none ⟨vS t.1 :: .dead :: vB t.2 :: dd 24 [], []⟩) (fun t => κ (some 0) ⟨vS t :: dd 26 [], []⟩)
def yjX : Lp := lpC 2 (unG yst y6L) @yhM lpN
theorem yqH : LF yjW yjX 209 2 Tryz.f209 0 y6L @yhM fun t => t := fun R κ again t => by kernel_rfl
theorem yqI : LK yjW yjX 209 Tryz.f209 0 := lkN (u := (unG yst y6L)) (yf fun t => by kernel_rfl) yqH
theorem yv0 : EV yjW yjX 209 Tryz.f209 yom [.str] [.bool] wG := fun x => by kernel_rfl
def yAH : QF := ⟨209, wG, okN (n := 1) Tryz.func209 ⟨yqI, trivial⟩ yv0⟩
abbrev vm : Type := yya
def jy (k0 : List yx → Option R) (again : vm → Option R) (t5 : vm) : Option R :=
 bif (decide (t5.2.2.2.1 < t5.2.2.1)) then if (0 : Int) ≤ t5.2.2.2.1 then if t5.2.2.2.1 < (List.length t5.2.1 : Int) then bif ((z8 t5.2.1 t5.2.2.2.1).2 == t5.1) then if (List.length t5.2.2.2.2 + List.length ([(z8 t5.2.1 t5.2.2.2.1).1] : List yx)) * 8 < 140737488355328 then again (t5.1, t5.2.1, t5.2.2.1, (Go.IntKind.wrap .i64 (t5.2.2.2.1 + (1 : Int))), (t5.2.2.2.2 ++ ([(z8 t5.2.1 t5.2.2.2.1).1] : List yx))) else none else again (t5.1, t5.2.1, t5.2.2.1, (Go.IntKind.wrap .i64 (t5.2.2.2.1 + (1 : Int))), t5.2.2.2.2) else none else none else k0 t5.2.2.2.2
def Qi k0 := z6 (@jy R k0) zd
def wH (x : yfC) : Option (List yx) :=
 bif (x.2 == (0 : Int)) then some ([] : List yx) else Qi (fun x1 => some x1) (x.2, x.1, (List.length x.1 : Int), (0 : Int), ([] : List yx))
def yjY : List QF := []
def y6M (t : yya) : St := ⟨.dead :: vI t.1 :: dd 3 (.own 10000000 :: dd 6 (zv t.2.1 :: vI t.2.2.1 :: vI t.2.2.2.1 :: dd 14 [])), [(10000000, .root true 3 yu t.2.2.2.2)]⟩
def yhN : Gk vm := fun κ => jy (fun t => κ (some 0) ⟨dd 5 (.own 10000000 :: dd 23 []), [(10000000, .root true 3 yu t)]⟩)
def yjZ : Lp := lpC 5 (unG yyb y6M) @yhN lpN
theorem yqJ : LF yjY yjZ 210 5 Tryz.f210 0 y6M @yhN fun t => t := fun R κ again t => by kernel_rfl
theorem yqK : LK yjY yjZ 210 Tryz.f210 0 := lkN (u := (unG yyb y6M)) (yf fun t => by kernel_rfl) yqJ
theorem yv1 : EV yjY yjZ 210 Tryz.f210 yon yfD [(.sl 3 yu)] wH := fun x => by kernel_rfl
def yAI : QF := ⟨210, wH, okN (n := 1) Tryz.func210 ⟨yqK, trivial⟩ yv1⟩
def wI (x : yyc) : Option yye :=
 some ((x.2.1 == x.2.2.2.2.2.1), x.2.2.2.2.1, x.2.2.2.2.2.1, x.2.2.2.2.2.2.1, x.2.2.2.2.2.2.2)
theorem yv2 : EV [] lpN 212 Tryz.f212 yoo yyd yyf wI := fun x => by kernel_rfl
def yAJ : QF := ⟨212, wI, okN (n := 0) Tryz.func212 trivial yv2⟩
abbrev zg : Type := yyg
def yJ (k0 : yyi → Option R) (k1 : yzH → Option R) (again : zg → Option R) (t2 : zg) : Option R :=
 bif (decide (t2.2.2.1 < t2.2.1)) then if (0 : Int) ≤ t2.2.2.1 then if t2.2.2.1 < (List.length t2.1 : Int) then Option.bind (wI ((yo t2.1 t2.2.2.1).1, (yo t2.1 t2.2.2.1).2.1, (yo t2.1 t2.2.2.1).2.2.1, (yo t2.1 t2.2.2.1).2.2.2, t2.2.2.2.1, t2.2.2.2.2.1, t2.2.2.2.2.2.1, t2.2.2.2.2.2.2)) fun r1 => bif r1.1 then k0 (t2.2.2.1, r1.2) else again (t2.1, t2.2.1, (Go.IntKind.wrap .i64 (t2.2.2.1 + (1 : Int))), r1.2.1, r1.2.2.1, r1.2.2.2.1, r1.2.2.2.2) else none else none else k1 t2.2.2.2
def zZ k0 k1 := z6 (@yJ R k0 k1) zd
def yN (x : yyj) : Option yyi :=
 zZ (fun x2 => some x2) (fun x3 => some ((-1 : Int), x3.1, x3.2.1, x3.2.2.1, x3.2.2.2)) (x.1, (List.length x.1 : Int), (0 : Int), x.2.1, x.2.2.1, x.2.2.2.1, x.2.2.2.2)
def y6N : List QF := [yAJ]
def y0o (t : yyg) : St := ⟨Y4 t.1 :: .clo 212 901 :: dd 5 (vI t.2.1 :: vI t.2.2.1 :: dd 10 []), [(901, .box [vS t.2.2.2.1, vI t.2.2.2.2.1, vI t.2.2.2.2.2.1, vB t.2.2.2.2.2.2])]⟩
def y8D : Gk zg := fun κ => yJ (fun t => κ none ⟨.dead :: .clo 212 901 :: dd 2 (vI t.1 :: dd 14 []), [(901, .box [vS t.2.1, vI t.2.2.1, vI t.2.2.2.1, vB t.2.2.2.2])]⟩) (fun t => κ (some 0) ⟨.dead :: .clo 212 901 :: dd 17 [], [(901, .box [vS t.1, vI t.2.1, vI t.2.2.1, vB t.2.2.2])]⟩)
def y6O : Lp := lpC 2 (unG yyh y0o) @y8D lpN
theorem ye9 : LF y6N y6O 100006 2 Tryz.f252 0 y0o @y8D fun t => t := fun R κ again t => by kernel_rfl
theorem yeb : LK y6N y6O 100006 Tryz.f252 0 := lkN (u := (unG yyh y0o)) (yf fun t => by kernel_rfl) ye9
theorem ygc : EV y6N y6O 100006 Tryz.f252 ybg yyk yzG yN := fun x => by kernel_rfl
def yk0 : QF := ⟨100006, yN, okN (n := 1) Tryz.func252 ⟨yeb, trivial⟩ ygc⟩
def yC (x : yyj) : Option yye :=
 Option.bind (yN x) fun r1 => some ((decide (r1.1 ≥ (0 : Int))), r1.2.1, r1.2.2.1, r1.2.2.2.1, r1.2.2.2.2)
theorem ygd : EV [yk0] lpN 100005 Tryz.f211 ybh yyk yyf yC := fun x => by kernel_rfl
def yk1 : QF := ⟨100005, yC, okN (n := 0) Tryz.func211 trivial ygd⟩
abbrev vn : Type := yyl
def jz (k0 : ysv → Option R) (k1 : Qz5 → Option R) (again : vn → Option R) (t2 : vn) : Option R :=
 bif (decide (t2.2.2.1 < t2.2.1)) then if (0 : Int) ≤ t2.2.2.1 then if t2.2.2.1 < (List.length t2.1 : Int) then Option.bind (wG ((yo t2.1 t2.2.2.1).1)) fun r1 => Option.bind (bif (!r1) then some true else Option.bind (bif (decide (t2.2.2.1 > (0 : Int))) then if (0 : Int) ≤ (Go.IntKind.wrap .i64 (t2.2.2.1 - (1 : Int))) then if (Go.IntKind.wrap .i64 (t2.2.2.1 - (1 : Int))) < (List.length t2.2.2.2.2.2.2.2.1 : Int) then some (!Go.Op.bytesLess (ByteArray.toList ((yo t2.2.2.2.2.2.2.2.1 (Go.IntKind.wrap .i64 (t2.2.2.1 - (1 : Int)))).1)) (ByteArray.toList ((yo t2.1 t2.2.2.1).1))) else none else none else some false) fun u3 => some u3) fun u2 => Option.bind (bif u2 then some true else Option.bind (yd ((yo t2.1 t2.2.2.1).2.2.1, (1 : Int), (12 : Int))) fun r5 => some (!r5)) fun u4 => bif u4 then k0 (false, t2.2.2.2) else Option.bind (Zk (t2.2.2.2.2.2.1, (yo t2.1 t2.2.2.1).2.1)) fun r6 => Option.bind (bif (decide (r6 < (0 : Int))) then some true else Option.bind (wH (t2.2.2.2.2.2.1, (yo t2.1 t2.2.2.1).2.1)) fun r8 => some (decide ((List.length r8 : Int) > (0 : Int)))) fun u7 => bif u7 then k0 (false, t2.2.2.2) else if (0 : Int) ≤ (0 : Int) then if (0 : Int) ≤ t2.2.2.1 then if t2.2.2.1 ≤ (List.length t2.2.2.2.2.2.2.2.1 : Int) then Option.bind (yC ((List.drop (Int.toNat (0 : Int)) (List.take (Int.toNat t2.2.2.1) t2.2.2.2.2.2.2.2.1)), (yo t2.1 t2.2.2.1).1, (yo t2.1 t2.2.2.1).2.1, (yo t2.1 t2.2.2.1).2.2.1, (yo t2.1 t2.2.2.1).2.2.2)) fun r9 => bif r9.1 then k0 (false, t2.2.2.2) else again (t2.1, t2.2.1, (Go.IntKind.wrap .i64 (t2.2.2.1 + (1 : Int))), t2.2.2.2.1, t2.2.2.2.2.1, t2.2.2.2.2.2.1, t2.2.2.2.2.2.2.1, t2.2.2.2.2.2.2.2.1, t2.2.2.2.2.2.2.2.2) else none else none else none else none else none else k1 t2.2.2.2
def Qj k0 k1 := z6 (@jz R k0 k1) zd
def wL (x : Qz5) : Option Bool :=
 Qj (fun x10 => some x10.1) (fun x11 => some (decide ((List.length x11.2.2.2.2.1 : Int) ≤ (6 : Int)))) (x.2.2.2.2.1, (List.length x.2.2.2.2.1 : Int), (0 : Int), x.1, x.2.1, x.2.2.1, x.2.2.2.1, x.2.2.2.2.1, x.2.2.2.2.2)
def yk2 : List QF := [y9g, yuW, yAH, yAI, yk1]
def y6P (t : yyl) : St := ⟨.dead :: .box 1 0 :: dd 4 (Y4 t.1 :: vI t.2.1 :: vI t.2.2.1 :: dd 56 []), [(1, .box [zn t.2.2.2.1, yH t.2.2.2.2.1, zv t.2.2.2.2.2.1, yV t.2.2.2.2.2.2.1, Y4 t.2.2.2.2.2.2.2.1, vI t.2.2.2.2.2.2.2.2])]⟩
def yhO : Gk vn := fun κ => jz (fun t => κ none ⟨.dead :: .box 1 0 :: vB t.1 :: dd 62 [], [(1, .box [zn t.2.1, yH t.2.2.1, zv t.2.2.2.1, yV t.2.2.2.2.1, Y4 t.2.2.2.2.2.1, vI t.2.2.2.2.2.2])]⟩) (fun t => κ (some 0) ⟨.dead :: .box 1 0 :: dd 63 [], [(1, .box [zn t.1, yH t.2.1, zv t.2.2.1, yV t.2.2.2.1, Y4 t.2.2.2.2.1, vI t.2.2.2.2.2])]⟩)
def yk3 : Lp := lpC 2 (unG yym y6P) @yhO lpN
theorem yqL : LF yk2 yk3 135 2 Tryz.f135 0 y6P @yhO fun t => t := fun R κ again t => by kernel_rfl
theorem yqM : LK yk2 yk3 135 Tryz.f135 0 := lkN (u := (unG yym y6P)) (yf fun t => by kernel_rfl) yqL
theorem yv3 : EV yk2 yk3 135 Tryz.f135 yop qz5 [.bool] wL := fun x => by kernel_rfl
def yAK : QF := ⟨135, wL, okN (n := 1) Tryz.func135 ⟨yqM, trivial⟩ yv3⟩
abbrev WL : Type := yyn
def YS (k0 : List ya → Option R) (again : WL → Option R) (t3 : WL) : Option R :=
 bif (decide (t3.2.2.1 < t3.2.1)) then if (0 : Int) ≤ t3.2.2.1 then if t3.2.2.1 < (List.length t3.1 : Int) then Option.bind (zW (yn t3.1 t3.2.2.1)) fun r1 => if (List.length t3.2.2.2 + List.length r1) * 40 < 140737488355328 then again (t3.1, t3.2.1, (Go.IntKind.wrap .i64 (t3.2.2.1 + (1 : Int))), (t3.2.2.2 ++ r1)) else none else none else none else k0 t3.2.2.2
def VC k0 := z6 (@YS R k0) zd
def YT (x : Qz4) : Option (List ya) :=
 VC (fun x2 => some x2) (x.2, (List.length x.2 : Int), (0 : Int), ([] : List ya))
def yk4 : List QF := [yzo]
def y6Q (t : yyn) : St := ⟨dd 3 (.own 10000000 :: dd 4 (yH t.1 :: vI t.2.1 :: vI t.2.2.1 :: dd 9 [])), [(10000000, .root true 106 yj t.2.2.2)]⟩
def yhP : Gk WL := fun κ => YS (fun t => κ (some 0) ⟨dd 3 (.own 10000000 :: dd 16 []), [(10000000, .root true 106 yj t)]⟩)
def yk5 : Lp := lpC 3 (unG yyo y6Q) @yhP lpN
theorem yqN : LF yk4 yk5 213 3 Tryz.f213 0 y6Q @yhP fun t => t := fun R κ again t => by kernel_rfl
theorem yqO : LK yk4 yk5 213 Tryz.f213 0 := lkN (u := (unG yyo y6Q)) (yf fun t => by kernel_rfl) yqN
theorem yv4 : EV yk4 yk5 213 Tryz.f213 yoq qz4 [(.sl 106 yj)] YT := fun x => by kernel_rfl
def yAL : QF := ⟨213, YT, okN (n := 1) Tryz.func213 ⟨yqO, trivial⟩ yv4⟩
def wM (x : ykZ) : Option yxs :=
 Option.bind (yd (x.2.1, (0 : Int), (Go.IntKind.wrap .i64 ((List.length x.1 : Int) - (1 : Int))))) fun r1 => Option.bind (bif (!r1) then some true else if (0 : Int) ≤ x.2.1 then if x.2.1 < (List.length x.1 : Int) then some (!((ym x.1 x.2.1).2.1)) else none else none) fun u2 => Option.bind (bif u2 then some true else if (0 : Int) ≤ x.2.1 then if x.2.1 < (List.length x.1 : Int) then some ((ym x.1 x.2.1).1 != x.2.2) else none else none) fun u3 => bif u3 then some ((0 : Int), false) else if (0 : Int) ≤ x.2.1 then if x.2.1 < (List.length x.1 : Int) then some ((ym x.1 x.2.1).2.2, true) else none else none
theorem yv5 : EV [y9g] lpN 214 Tryz.f214 yor yl0 yxt wM := fun x => by kernel_rfl
def yAM : QF := ⟨214, wM, okN (n := 0) Tryz.func214 trivial yv5⟩
abbrev wN : Type := yyp
def Yx (k0 : Int → Option R) (again : wN → Option R) (t3 : wN) : Option R :=
 bif (decide (t3.2.2.2 < t3.2.2.1)) then if (0 : Int) ≤ t3.2.2.2 then if t3.2.2.2 < (List.length t3.2.1 : Int) then bif (ym t3.2.1 t3.2.2.2).2.1 then again ((Go.IntKind.wrap .i64 (t3.1 + (1 : Int))), t3.2.1, t3.2.2.1, (Go.IntKind.wrap .i64 (t3.2.2.2 + (1 : Int)))) else again (t3.1, t3.2.1, t3.2.2.1, (Go.IntKind.wrap .i64 (t3.2.2.2 + (1 : Int)))) else none else none else k0 t3.1
def vU k0 := z6 (@Yx R k0) zd
def ZI (x : List yb) : Option Int :=
 vU (fun x1 => some x1) ((0 : Int), x, (List.length x : Int), (0 : Int))
def yk6 : List QF := []
def y6R (t : yyp) : St := ⟨dd 3 (vI t.1 :: dd 2 (yV t.2.1 :: vI t.2.2.1 :: vI t.2.2.2 :: dd 9 [])), []⟩
def yhQ : Gk wN := fun κ => Yx (fun t => κ (some 0) ⟨dd 3 (vI t :: dd 14 []), []⟩)
def yk7 : Lp := lpC 3 (unG yyq y6R) @yhQ lpN
theorem yqP : LF yk6 yk7 215 3 Tryz.f215 0 y6R @yhQ fun t => t := fun R κ again t => by kernel_rfl
theorem yqQ : LK yk6 yk7 215 Tryz.f215 0 := lkN (u := (unG yyq y6R)) (yf fun t => by kernel_rfl) yqP
theorem yv6 : EV yk6 yk7 215 Tryz.f215 yos [(.sl 95 yl)] [(.int .i64)] ZI := fun x => by kernel_rfl
def yAN : QF := ⟨215, ZI, okN (n := 1) Tryz.func215 ⟨yqQ, trivial⟩ yv6⟩
abbrev kY : Type := yyr
def ZJ (k0 : ysT → Option R) (k1 : yiR → Option R) (again : kY → Option R) (t4 : kY) : Option R :=
 bif (decide (t4.2.2.1 < t4.2.1)) then if (0 : Int) ≤ t4.2.2.1 then if t4.2.2.1 < (List.length t4.2.2.2.2.2.2.2.2.2.2 : Int) then Option.bind (Zk (t4.2.2.2.2.2.1, (y0 t4.2.2.2.2.2.2.2.2.2.2 t4.2.2.1).2.1)) fun r2 => bif (decide (r2 < (0 : Int))) then k0 (false, t4.1, t4.2.2.2.1, t4.2.2.2.2.1, t4.2.2.2.2.2.1, t4.2.2.2.2.2.2.1, t4.2.2.2.2.2.2.2.1, t4.2.2.2.2.2.2.2.2.1) else bif ((y0 t4.2.2.2.2.2.2.2.2.2.2 t4.2.2.1).2.2.1 != (1 : Int)) then again (t4.1, t4.2.1, (Go.IntKind.wrap .i64 (t4.2.2.1 + (1 : Int))), t4.2.2.2.1, t4.2.2.2.2.1, t4.2.2.2.2.2.1, t4.2.2.2.2.2.2.1, t4.2.2.2.2.2.2.2.1, t4.2.2.2.2.2.2.2.2.1, t4.2.2.2.2.2.2.2.2.2.1, t4.2.2.2.2.2.2.2.2.2.2) else Option.bind (wM (t4.2.2.2.2.2.2.1, (y0 t4.2.2.2.2.2.2.2.2.2.2 t4.2.2.1).2.2.2.1, (y0 t4.2.2.2.2.2.2.2.2.2.2 t4.2.2.1).2.2.2.2)) fun r3 => Option.bind (bif (!r3.2) then some true else if (0 : Int) ≤ (y0 t4.2.2.2.2.2.2.2.2.2.2 t4.2.2.1).2.2.2.1 then if (y0 t4.2.2.2.2.2.2.2.2.2.2 t4.2.2.1).2.2.2.1 < (List.length t4.2.2.2.2.2.2.2.2.2.1 : Int) then some (ydy t4.2.2.2.2.2.2.2.2.2.1 ((y0 t4.2.2.2.2.2.2.2.2.2.2 t4.2.2.1).2.2.2.1)) else none else none) fun u4 => bif u4 then k0 (false, t4.1, t4.2.2.2.1, t4.2.2.2.2.1, t4.2.2.2.2.2.1, t4.2.2.2.2.2.2.1, t4.2.2.2.2.2.2.2.1, t4.2.2.2.2.2.2.2.2.1) else if (0 : Int) ≤ (y0 t4.2.2.2.2.2.2.2.2.2.2 t4.2.2.1).2.2.2.1 then if (y0 t4.2.2.2.2.2.2.2.2.2.2 t4.2.2.1).2.2.2.1 < (List.length t4.2.2.2.2.2.2.2.2.2.1 : Int) then again ((Go.IntKind.wrap .i64 (t4.1 + (1 : Int))), t4.2.1, (Go.IntKind.wrap .i64 (t4.2.2.1 + (1 : Int))), t4.2.2.2.1, t4.2.2.2.2.1, t4.2.2.2.2.2.1, t4.2.2.2.2.2.2.1, t4.2.2.2.2.2.2.2.1, t4.2.2.2.2.2.2.2.2.1, (List.set t4.2.2.2.2.2.2.2.2.2.1 (Int.toNat ((y0 t4.2.2.2.2.2.2.2.2.2.2 t4.2.2.1).2.2.2.1)) true), t4.2.2.2.2.2.2.2.2.2.2) else none else none else none else none else k1 (t4.1, t4.2.2.2.1, t4.2.2.2.2.1, t4.2.2.2.2.2.1, t4.2.2.2.2.2.2.1, t4.2.2.2.2.2.2.2.1, t4.2.2.2.2.2.2.2.2.1)
def qy k0 k1 := z6 (@ZJ R k0 k1) zd
def Jo (x : Qz5) : Option Bool :=
 if (0 : Int) ≤ (24 : Int) then if (24 : Int) ≤ (24 : Int) then if (24 : Int) * ((1 : Nat) : Int) ≤ 140737488351232 then Option.bind (YT (x.1, x.2.1)) fun r1 => qy (fun x5 => some x5.1) (fun x6 => Option.bind (ZI x6.2.2.2.2.1) fun r7 => some (r7 == x6.1)) ((0 : Int), (List.length r1 : Int), (0 : Int), x.1, x.2.1, x.2.2.1, x.2.2.2.1, x.2.2.2.2.1, x.2.2.2.2.2, (List.replicate (Int.toNat (24 : Int)) ydx), r1) else none else none else none
def yk8 : List QF := [yuW, yAL, yAM, yAN]
def y6S (t : yyr) : St := ⟨.dead :: .box 1 0 :: .dead :: .own 10000000 :: vI t.1 :: dd 7 (.own 10000001 :: vI t.2.1 :: vI t.2.2.1 :: dd 43 []), [(1, .box [zn t.2.2.2.1, yH t.2.2.2.2.1, zv t.2.2.2.2.2.1, yV t.2.2.2.2.2.2.1, Y4 t.2.2.2.2.2.2.2.1, vI t.2.2.2.2.2.2.2.2.1]), (10000000, .root true 4 y3w t.2.2.2.2.2.2.2.2.2.1), (10000001, .root true 106 yj t.2.2.2.2.2.2.2.2.2.2)]⟩
def yhR : Gk kY := fun κ => ZJ (fun t => κ none ⟨.dead :: .box 1 0 :: vB t.1 :: .dead :: vI t.2.1 :: dd 53 [], [(1, .box [zn t.2.2.1, yH t.2.2.2.1, zv t.2.2.2.2.1, yV t.2.2.2.2.2.1, Y4 t.2.2.2.2.2.2.1, vI t.2.2.2.2.2.2.2])]⟩) (fun t => κ (some 0) ⟨.dead :: .box 1 0 :: dd 2 (vI t.1 :: dd 53 []), [(1, .box [zn t.2.1, yH t.2.2.1, zv t.2.2.2.1, yV t.2.2.2.2.1, Y4 t.2.2.2.2.2.1, vI t.2.2.2.2.2.2])]⟩)
def yk9 : Lp := lpC 4 (unG yys y6S) @yhR lpN
theorem yqR : LF yk8 yk9 136 4 Tryz.f136 0 y6S @yhR fun t => t := fun R κ again t => by kernel_rfl
theorem yqS : LK yk8 yk9 136 Tryz.f136 0 := lkN (u := (unG yys y6S)) (yf fun t => by kernel_rfl) yqR
theorem yv7 : EV yk8 yk9 136 Tryz.f136 yot qz5 [.bool] Jo := fun x => by kernel_rfl
def yAO : QF := ⟨136, Jo, okN (n := 1) Tryz.func136 ⟨yqS, trivial⟩ yv7⟩
abbrev vo : Type := yls
def jA (k0 : ysv → Option R) (k1 : Qz5 → Option R) (again : vo → Option R) (t4 : vo) : Option R :=
 bif (decide (t4.2.2.1 < t4.2.1)) then if (0 : Int) ≤ t4.2.2.1 then if t4.2.2.1 < (List.length t4.1 : Int) then bif (decide ((z8 t4.1 t4.2.2.1).1 ≥ t4.2.2.2.2.2.2.2.2)) then k0 (false, t4.2.2.2) else again (t4.1, t4.2.1, (Go.IntKind.wrap .i64 (t4.2.2.1 + (1 : Int))), t4.2.2.2.1, t4.2.2.2.2.1, t4.2.2.2.2.2.1, t4.2.2.2.2.2.2.1, t4.2.2.2.2.2.2.2.1, t4.2.2.2.2.2.2.2.2) else none else none else k1 t4.2.2.2
def Qk k0 k1 := z6 (@jA R k0 k1) zd
def jW (x : Qz5) : Option Bool :=
 Option.bind (wD (x.1, x.2.1)) fun r1 => Option.bind (bif (!r1) then some true else Option.bind (wE x.2.2.1) fun r3 => some (!r3)) fun u2 => Option.bind (bif u2 then some true else Option.bind (Jn x.2.2.2.1) fun r5 => some (!r5)) fun u4 => Option.bind (bif u4 then some true else Option.bind (yd (x.2.2.2.2.2, (1 : Int), (61 : Int))) fun r7 => some (!r7)) fun u6 => bif u6 then some false else Qk (fun x8 => some x8.1) (fun x9 => Option.bind (wL x9) fun r10 => Option.bind (bif r10 then Option.bind (Jo x9) fun r12 => some r12 else some false) fun u11 => some u11) (x.2.2.1, (List.length x.2.2.1 : Int), (0 : Int), x.1, x.2.1, x.2.2.1, x.2.2.2.1, x.2.2.2.2.1, x.2.2.2.2.2)
def yv8 : List QF := [yAC, yAE, yAG, y9g, yAK, yAO]
def y9V (t : yls) : St := ⟨.dead :: .box 1 0 :: dd 26 (zv t.1 :: vI t.2.1 :: vI t.2.2.1 :: dd 15 []), [(1, .box [zn t.2.2.2.1, yH t.2.2.2.2.1, zv t.2.2.2.2.2.1, yV t.2.2.2.2.2.2.1, Y4 t.2.2.2.2.2.2.2.1, vI t.2.2.2.2.2.2.2.2])]⟩
def yqT : Gk vo := fun κ => jA (fun t => κ none ⟨.dead :: .box 1 0 :: vB t.1 :: dd 43 [], [(1, .box [zn t.2.1, yH t.2.2.1, zv t.2.2.2.1, yV t.2.2.2.2.1, Y4 t.2.2.2.2.2.1, vI t.2.2.2.2.2.2])]⟩) (fun t => κ (some 0) ⟨.dead :: .box 1 0 :: dd 44 [], [(1, .box [zn t.1, yH t.2.1, zv t.2.2.1, yV t.2.2.2.1, Y4 t.2.2.2.2.1, vI t.2.2.2.2.2])]⟩)
def yv9 : Lp := lpC 4 (unG ylt y9V) @yqT lpN
theorem yva : LF yv8 yv9 56 4 Tryz.f56 0 y9V @yqT fun t => t := fun R κ again t => by kernel_rfl
theorem yvb : LK yv8 yv9 56 Tryz.f56 0 := lkN (u := (unG ylt y9V)) (yf fun t => by kernel_rfl) yva
theorem yAP : EV yv8 yv9 56 Tryz.f56 yyD qz5 [.bool] jW := fun x => by kernel_rfl
def q56 : QF := ⟨56, jW, okN (n := 1) Tryz.func56 ⟨yvb, trivial⟩ yAP⟩
abbrev vp : Type := ylu
def za (k0 : List z7 → Option R) (again : vp → Option R) (t3 : vp) : Option R :=
 bif (decide (t3.2.2.1 < t3.2.1)) then if (0 : Int) ≤ t3.2.2.1 then if t3.2.2.1 < (List.length t3.1 : Int) then if (List.length t3.2.2.2 + List.length (zL t3.1 t3.2.2.1)) * 1 < 140737488355328 then again (t3.1, t3.2.1, (Go.IntKind.wrap .i64 (t3.2.2.1 + (1 : Int))), (t3.2.2.2 ++ (zL t3.1 t3.2.2.1))) else none else none else none else k0 t3.2.2.2
def vq k0 := z6 (@za R k0) zd
def yM (x : List y7) : Option (List z7) :=
 vq (fun x1 => some x1) (x, (List.length x : Int), (0 : Int), ([] : List z7))
def yka : List QF := []
def y6T (t : ylu) : St := ⟨dd 3 (.own 10000000 :: dd 3 (Yt t.1 :: vI t.2.1 :: vI t.2.2.1 :: dd 8 [])), [(10000000, .root true 5 yF t.2.2.2)]⟩
def yhS : Gk vp := fun κ => za (fun t => κ (some 0) ⟨dd 3 (.own 10000000 :: dd 14 []), [(10000000, .root true 5 yF t)]⟩)
def ykb : Lp := lpC 3 (unG ylv y6T) @yhS lpN
theorem yqU : LF yka ykb 137 3 Tryz.f137 0 y6T @yhS fun t => t := fun R κ again t => by kernel_rfl
theorem yqV : LK yka ykb 137 Tryz.f137 0 := lkN (u := (unG ylv y6T)) (yf fun t => by kernel_rfl) yqU
theorem yvc : EV yka ykb 137 Tryz.f137 yov [(.sl 32 yg)] [(.sl 5 yF)] yM := fun x => by kernel_rfl
def yl5 : QF := ⟨137, yM, okN (n := 1) Tryz.func137 ⟨yqV, trivial⟩ yvc⟩
def zl (x : yl1) : Option (List z7) :=
 Option.bind (yM ([x.1, ([(Go.IntKind.wrap .u8 (Go.bits .and .i64 (Int.fdiv x.2 (2 ^ (min (Int.toNat (8 : Int)) (Go.IntKind.bits .i64)))) (255 : Int))), (Go.IntKind.wrap .u8 (Go.bits .and .i64 x.2 (255 : Int)))] : List z7)] : List y7)) fun r1 => some r1
theorem yAQ : EV [yl5] lpN 57 Tryz.f57 yyE yl2 [(.sl 5 yF)] zl := fun x => by kernel_rfl
def q57 : QF := ⟨57, zl, okN (n := 0) Tryz.func57 trivial yAQ⟩
def Jp (x : yxx) : Option (List z7) :=
 bif (decide (((ByteArray.size x.2 : Nat) : Int) > (60 : Int))) then Option.bind (yM ([x.1] : List y7)) fun r1 => some r1 else Option.bind (zl (x.1, ((ByteArray.size x.2 : Nat) : Int))) fun r2 => if ByteArray.size x.2 < 140737488351232 then Option.bind (yM ([r2, (jb x.2)] : List y7)) fun r3 => some r3 else none
theorem yAR : EV [q57, yl5] lpN 58 Tryz.f58 yyF yxy [(.sl 5 yF)] Jp := fun x => by kernel_rfl
def q58 : QF := ⟨58, Jp, okN (n := 0) Tryz.func58 trivial yAR⟩
def vr (x : Bool) : Option Int :=
 bif x then some (1 : Int) else some (0 : Int)
theorem yAS : EV [] lpN 59 Tryz.f59 yyG [.bool] [(.int .u8)] vr := fun x => by kernel_rfl
def q59 : QF := ⟨59, vr, okN (n := 0) Tryz.func59 trivial yAS⟩
def wO (x : yxz) : Option (List z7) :=
 Option.bind (yM ([x.1] : List y7)) fun r1 => Option.bind (JT x.2) fun r2 => bif (!r2) then some r1 else if (List.length r1 + List.length ([(Go.IntKind.wrap .u8 x.2.1), (Go.IntKind.wrap .u8 x.2.2.1), (Go.IntKind.wrap .u8 x.2.2.2.1), (Go.IntKind.wrap .u8 x.2.2.2.2.1)] : List z7)) * 1 < 140737488355328 then Option.bind (zl ((r1 ++ ([(Go.IntKind.wrap .u8 x.2.1), (Go.IntKind.wrap .u8 x.2.2.1), (Go.IntKind.wrap .u8 x.2.2.2.1), (Go.IntKind.wrap .u8 x.2.2.2.2.1)] : List z7)), x.2.2.2.2.2)) fun r3 => some r3 else none
theorem yAT : EV [q57, yl5, yzl] lpN 60 Tryz.f60 yyH yxA [(.sl 5 yF)] wO := fun x => by kernel_rfl
def q60 : QF := ⟨60, wO, okN (n := 0) Tryz.func60 trivial yAT⟩
abbrev kZ : Type := ylw
def ZK (k0 : yl3 → Option R) (again : kZ → Option R) (t5 : kZ) : Option R :=
 bif (decide (t5.2.2.1 < t5.2.1)) then if (0 : Int) ≤ t5.2.2.1 then if t5.2.2.1 < (List.length t5.1 : Int) then if (List.length t5.2.2.2.2.2.2.2.2.2 + List.length ([(Go.IntKind.wrap .u8 ((z8 t5.1 t5.2.2.1).1)), (Go.IntKind.wrap .u8 ((z8 t5.1 t5.2.2.1).2))] : List z7)) * 1 < 140737488355328 then again (t5.1, t5.2.1, (Go.IntKind.wrap .i64 (t5.2.2.1 + (1 : Int))), t5.2.2.2.1, t5.2.2.2.2.1, t5.2.2.2.2.2.1, t5.2.2.2.2.2.2.1, t5.2.2.2.2.2.2.2.1, t5.2.2.2.2.2.2.2.2.1, (t5.2.2.2.2.2.2.2.2.2 ++ ([(Go.IntKind.wrap .u8 ((z8 t5.1 t5.2.2.1).1)), (Go.IntKind.wrap .u8 ((z8 t5.1 t5.2.2.1).2))] : List z7))) else none else none else none else k0 t5.2.2.2
def K0 k0 := z6 (@ZK R k0) zd
abbrev WM : Type := yly
def YU (k0 : yl3 → Option R) (again : WM → Option R) (t11 : WM) : Option R :=
 bif (decide (t11.2.2.1 < t11.2.1)) then if (0 : Int) ≤ t11.2.2.1 then if t11.2.2.1 < (List.length t11.1 : Int) then Option.bind (Jp (t11.2.2.2.2.2.2.2.2.2, (yo t11.1 t11.2.2.1).1)) fun r4 => Option.bind (vr ((yo t11.1 t11.2.2.1).2.2.2)) fun r5 => if (List.length r4 + List.length ([(Go.IntKind.wrap .u8 ((yo t11.1 t11.2.2.1).2.1)), (Go.IntKind.wrap .u8 ((yo t11.1 t11.2.2.1).2.2.1)), r5] : List z7)) * 1 < 140737488355328 then again (t11.1, t11.2.1, (Go.IntKind.wrap .i64 (t11.2.2.1 + (1 : Int))), t11.2.2.2.1, t11.2.2.2.2.1, t11.2.2.2.2.2.1, t11.2.2.2.2.2.2.1, t11.2.2.2.2.2.2.2.1, t11.2.2.2.2.2.2.2.2.1, (r4 ++ ([(Go.IntKind.wrap .u8 ((yo t11.1 t11.2.2.1).2.1)), (Go.IntKind.wrap .u8 ((yo t11.1 t11.2.2.1).2.2.1)), r5] : List z7))) else none else none else none else k0 t11.2.2.2
def WN k0 := z6 (@YU R k0) zd
abbrev WO : Type := ylA
def YV (k0 : yl3 → Option R) (again : WO → Option R) (t16 : WO) : Option R :=
 bif (decide (t16.2.2.1 < t16.2.1)) then if (0 : Int) ≤ t16.2.2.1 then if t16.2.2.1 < (List.length t16.1 : Int) then Option.bind (zl (t16.2.2.2.2.2.2.2.2.2, (ym t16.1 t16.2.2.1).1)) fun r7 => Option.bind (vr ((ym t16.1 t16.2.2.1).2.1)) fun r8 => if (List.length r7 + List.length ([r8] : List z7)) * 1 < 140737488355328 then Option.bind (zl ((r7 ++ ([r8] : List z7)), (ym t16.1 t16.2.2.1).2.2)) fun r9 => again (t16.1, t16.2.1, (Go.IntKind.wrap .i64 (t16.2.2.1 + (1 : Int))), t16.2.2.2.1, t16.2.2.2.2.1, t16.2.2.2.2.2.1, t16.2.2.2.2.2.2.1, t16.2.2.2.2.2.2.2.1, t16.2.2.2.2.2.2.2.2.1, r9) else none else none else none else k0 t16.2.2.2
def WP k0 := z6 (@YV R k0) zd
abbrev WQ : Type := ylC
def YW (k0 : yiS → Option R) (again : WQ → Option R) (t30 : WQ) : Option R :=
 bif (decide (t30.2.2.2.2.2.2.2.2.1 < t30.2.2.2.2.2.2.2.1)) then if (0 : Int) ≤ t30.2.2.2.2.2.2.2.2.1 then if t30.2.2.2.2.2.2.2.2.1 < (List.length t30.2.2.2.2.2.2.1 : Int) then Option.bind (wO (t30.2.2.2.2.2.2.2.2.2.2.2.2.2.2.2, (y0 t30.2.2.2.2.2.2.1 t30.2.2.2.2.2.2.2.2.1).1, (y0 t30.2.2.2.2.2.2.1 t30.2.2.2.2.2.2.2.2.1).2.1, (y0 t30.2.2.2.2.2.2.1 t30.2.2.2.2.2.2.2.2.1).2.2.1, (y0 t30.2.2.2.2.2.2.1 t30.2.2.2.2.2.2.2.2.1).2.2.2.1, (y0 t30.2.2.2.2.2.2.1 t30.2.2.2.2.2.2.2.2.1).2.2.2.2)) fun r12 => again (t30.1, t30.2.1, t30.2.2.1, t30.2.2.2.1, t30.2.2.2.2.1, t30.2.2.2.2.2.1, t30.2.2.2.2.2.2.1, t30.2.2.2.2.2.2.2.1, (Go.IntKind.wrap .i64 (t30.2.2.2.2.2.2.2.2.1 + (1 : Int))), t30.2.2.2.2.2.2.2.2.2.1, t30.2.2.2.2.2.2.2.2.2.2.1, t30.2.2.2.2.2.2.2.2.2.2.2.1, t30.2.2.2.2.2.2.2.2.2.2.2.2.1, t30.2.2.2.2.2.2.2.2.2.2.2.2.2.1, t30.2.2.2.2.2.2.2.2.2.2.2.2.2.2.1, r12) else none else none else k0 (t30.1, t30.2.1, t30.2.2.1, t30.2.2.2.1, t30.2.2.2.2.1, t30.2.2.2.2.2.1, t30.2.2.2.2.2.2.2.2.2)
def WR k0 := z6 (@YW R k0) zd
abbrev WS : Type := yiS
def YX (k0 : yiT → Option R) (again : WS → Option R) (t26 : WS) : Option R :=
 bif (decide (t26.2.2.2.2.2.1 < t26.2.2.2.2.1)) then if (0 : Int) ≤ t26.2.2.2.2.2.1 then if t26.2.2.2.2.2.1 < (List.length t26.2.2.2.1 : Int) then if (List.length t26.2.2.2.2.2.2.2.2.2.2.2.2 + List.length ([(Go.IntKind.wrap .u8 (List.length (yh t26.2.2.2.1 t26.2.2.2.2.2.1) : Int))] : List z7)) * 1 < 140737488355328 then WR (fun x13 => again (x13.1, x13.2.1, x13.2.2.1, x13.2.2.2.1, x13.2.2.2.2.1, (Go.IntKind.wrap .i64 (x13.2.2.2.2.2.1 + (1 : Int))), x13.2.2.2.2.2.2.1, x13.2.2.2.2.2.2.2.1, x13.2.2.2.2.2.2.2.2.1, x13.2.2.2.2.2.2.2.2.2.1, x13.2.2.2.2.2.2.2.2.2.2.1, x13.2.2.2.2.2.2.2.2.2.2.2.1, x13.2.2.2.2.2.2.2.2.2.2.2.2)) (t26.1, t26.2.1, t26.2.2.1, t26.2.2.2.1, t26.2.2.2.2.1, t26.2.2.2.2.2.1, (yh t26.2.2.2.1 t26.2.2.2.2.2.1), (List.length (yh t26.2.2.2.1 t26.2.2.2.2.2.1) : Int), (0 : Int), t26.2.2.2.2.2.2.1, t26.2.2.2.2.2.2.2.1, t26.2.2.2.2.2.2.2.2.1, t26.2.2.2.2.2.2.2.2.2.1, t26.2.2.2.2.2.2.2.2.2.2.1, t26.2.2.2.2.2.2.2.2.2.2.2.1, (t26.2.2.2.2.2.2.2.2.2.2.2.2 ++ ([(Go.IntKind.wrap .u8 (List.length (yh t26.2.2.2.1 t26.2.2.2.2.2.1) : Int))] : List z7))) else none else none else none else k0 (t26.1, t26.2.1, t26.2.2.1, t26.2.2.2.2.2.2)
def WT k0 := z6 (@YX R k0) zd
abbrev WU : Type := yiT
def YY (k0 : List z7 → Option R) (again : WU → Option R) (t22 : WU) : Option R :=
 bif (decide (t22.2.2.1 < t22.2.1)) then if (0 : Int) ≤ t22.2.2.1 then if t22.2.2.1 < (List.length t22.1 : Int) then if (0 : Int) ≤ t22.2.2.1 then if t22.2.2.1 < (List.length t22.2.2.2.1 : Int) then Option.bind (zl (t22.2.2.2.2.2.2.2.2.2, (zI t22.2.2.2.1 t22.2.2.1))) fun r11 => if (List.length r11 + List.length ([(Go.IntKind.wrap .u8 (List.length (yn t22.1 t22.2.2.1) : Int))] : List z7)) * 1 < 140737488355328 then WT (fun x14 => again (x14.1, x14.2.1, (Go.IntKind.wrap .i64 (x14.2.2.1 + (1 : Int))), x14.2.2.2.1, x14.2.2.2.2.1, x14.2.2.2.2.2.1, x14.2.2.2.2.2.2.1, x14.2.2.2.2.2.2.2.1, x14.2.2.2.2.2.2.2.2.1, x14.2.2.2.2.2.2.2.2.2)) (t22.1, t22.2.1, t22.2.2.1, (yn t22.1 t22.2.2.1), (List.length (yn t22.1 t22.2.2.1) : Int), (0 : Int), t22.2.2.2.1, t22.2.2.2.2.1, t22.2.2.2.2.2.1, t22.2.2.2.2.2.2.1, t22.2.2.2.2.2.2.2.1, t22.2.2.2.2.2.2.2.2.1, (r11 ++ ([(Go.IntKind.wrap .u8 (List.length (yn t22.1 t22.2.2.1) : Int))] : List z7))) else none else none else none else none else none else k0 t22.2.2.2.2.2.2.2.2.2
def WW k0 := z6 (@YY R k0) zd
def Jq (x : Qz5) : Option (List z7) :=
 Option.bind (jW x) fun r1 => bif (!r1) then some ([] : List z7) else Option.bind (zl (([] : List z7), x.2.2.2.2.2)) fun r2 => if (List.length r2 + List.length ([(Go.IntKind.wrap .u8 (List.length x.2.2.1 : Int))] : List z7)) * 1 < 140737488355328 then K0 (fun x3 => if (List.length x3.2.2.2.2.2.2 + List.length ([(Go.IntKind.wrap .u8 (List.length x3.2.2.2.2.1 : Int))] : List z7)) * 1 < 140737488355328 then WN (fun x6 => WP (fun x10 => if (List.length x10.2.2.2.2.2.2 + List.length ([(Go.IntKind.wrap .u8 (List.length x10.2.1 : Int))] : List z7)) * 1 < 140737488355328 then WW (fun x15 => some x15) (x10.2.1, (List.length x10.2.1 : Int), (0 : Int), x10.1, x10.2.1, x10.2.2.1, x10.2.2.2.1, x10.2.2.2.2.1, x10.2.2.2.2.2.1, (x10.2.2.2.2.2.2 ++ ([(Go.IntKind.wrap .u8 (List.length x10.2.1 : Int))] : List z7))) else none) (x6.2.2.2.1, (List.length x6.2.2.2.1 : Int), (0 : Int), x6.1, x6.2.1, x6.2.2.1, x6.2.2.2.1, x6.2.2.2.2.1, x6.2.2.2.2.2.1, x6.2.2.2.2.2.2)) (x3.2.2.2.2.1, (List.length x3.2.2.2.2.1 : Int), (0 : Int), x3.1, x3.2.1, x3.2.2.1, x3.2.2.2.1, x3.2.2.2.2.1, x3.2.2.2.2.2.1, (x3.2.2.2.2.2.2 ++ ([(Go.IntKind.wrap .u8 (List.length x3.2.2.2.2.1 : Int))] : List z7))) else none) (x.2.2.1, (List.length x.2.2.1 : Int), (0 : Int), x.1, x.2.1, x.2.2.1, x.2.2.2.1, x.2.2.2.2.1, x.2.2.2.2.2, (r2 ++ ([(Go.IntKind.wrap .u8 (List.length x.2.2.1 : Int))] : List z7))) else none
def ycs : List QF := [q56, q57, q58, q59, q60]
def y9W (t : ylw) : St := ⟨.dead :: .box 1 0 :: .dead :: .own 10000000 :: dd 25 (zv t.1 :: vI t.2.1 :: vI t.2.2.1 :: dd 120 []), [(1, .box [zn t.2.2.2.1, yH t.2.2.2.2.1, zv t.2.2.2.2.2.1, yV t.2.2.2.2.2.2.1, Y4 t.2.2.2.2.2.2.2.1, vI t.2.2.2.2.2.2.2.2.1]), (10000000, .root true 5 yF t.2.2.2.2.2.2.2.2.2)]⟩
def yqW : Gk kZ := fun κ => ZK (fun t => κ (some 0) ⟨.dead :: .box 1 0 :: .dead :: .own 10000000 :: dd 148 [], [(1, .box [zn t.1, yH t.2.1, zv t.2.2.1, yV t.2.2.2.1, Y4 t.2.2.2.2.1, vI t.2.2.2.2.2.1]), (10000000, .root true 5 yF t.2.2.2.2.2.2)]⟩)
def y6U (t : yly) : St := ⟨.dead :: .box 1 0 :: .dead :: .own 10000000 :: dd 49 (Y4 t.1 :: vI t.2.1 :: vI t.2.2.1 :: dd 96 []), [(1, .box [zn t.2.2.2.1, yH t.2.2.2.2.1, zv t.2.2.2.2.2.1, yV t.2.2.2.2.2.2.1, Y4 t.2.2.2.2.2.2.2.1, vI t.2.2.2.2.2.2.2.2.1]), (10000000, .root true 5 yF t.2.2.2.2.2.2.2.2.2)]⟩
def yhT : Gk WM := fun κ => YU (fun t => κ (some 2) ⟨.dead :: .box 1 0 :: .dead :: .own 10000000 :: dd 148 [], [(1, .box [zn t.1, yH t.2.1, zv t.2.2.1, yV t.2.2.2.1, Y4 t.2.2.2.2.1, vI t.2.2.2.2.2.1]), (10000000, .root true 5 yF t.2.2.2.2.2.2)]⟩)
def y6V (t : ylA) : St := ⟨.dead :: .box 1 0 :: .dead :: .own 10000000 :: dd 72 (yV t.1 :: vI t.2.1 :: vI t.2.2.1 :: dd 73 []), [(1, .box [zn t.2.2.2.1, yH t.2.2.2.2.1, zv t.2.2.2.2.2.1, yV t.2.2.2.2.2.2.1, Y4 t.2.2.2.2.2.2.2.1, vI t.2.2.2.2.2.2.2.2.1]), (10000000, .root true 5 yF t.2.2.2.2.2.2.2.2.2)]⟩
def yhU : Gk WO := fun κ => YV (fun t => κ (some 4) ⟨.dead :: .box 1 0 :: .dead :: .own 10000000 :: dd 148 [], [(1, .box [zn t.1, yH t.2.1, zv t.2.2.1, yV t.2.2.2.1, Y4 t.2.2.2.2.1, vI t.2.2.2.2.2.1]), (10000000, .root true 5 yF t.2.2.2.2.2.2)]⟩)
def y6W (t : ylC) : St := ⟨.dead :: .box 1 0 :: .dead :: .own 10000000 :: dd 101 (yH t.1 :: vI t.2.1 :: vI t.2.2.1 :: dd 19 (zH t.2.2.2.1 :: vI t.2.2.2.2.1 :: vI t.2.2.2.2.2.1 :: dd 9 (Vx t.2.2.2.2.2.2.1 :: vI t.2.2.2.2.2.2.2.1 :: vI t.2.2.2.2.2.2.2.2.1 :: dd 10 []))), [(1, .box [zn t.2.2.2.2.2.2.2.2.2.1, yH t.2.2.2.2.2.2.2.2.2.2.1, zv t.2.2.2.2.2.2.2.2.2.2.2.1, yV t.2.2.2.2.2.2.2.2.2.2.2.2.1, Y4 t.2.2.2.2.2.2.2.2.2.2.2.2.2.1, vI t.2.2.2.2.2.2.2.2.2.2.2.2.2.2.1]), (10000000, .root true 5 yF t.2.2.2.2.2.2.2.2.2.2.2.2.2.2.2)]⟩
def yhV : Gk WQ := fun κ => YW (fun t => κ (some 10) ⟨.dead :: .box 1 0 :: .dead :: .own 10000000 :: dd 101 (yH t.1 :: vI t.2.1 :: vI t.2.2.1 :: dd 19 (zH t.2.2.2.1 :: vI t.2.2.2.2.1 :: vI t.2.2.2.2.2.1 :: dd 22 [])), [(1, .box [zn t.2.2.2.2.2.2.1, yH t.2.2.2.2.2.2.2.1, zv t.2.2.2.2.2.2.2.2.1, yV t.2.2.2.2.2.2.2.2.2.1, Y4 t.2.2.2.2.2.2.2.2.2.2.1, vI t.2.2.2.2.2.2.2.2.2.2.2.1]), (10000000, .root true 5 yF t.2.2.2.2.2.2.2.2.2.2.2.2)]⟩)
def y6X (t : yiS) : St := ⟨.dead :: .box 1 0 :: .dead :: .own 10000000 :: dd 101 (yH t.1 :: vI t.2.1 :: vI t.2.2.1 :: dd 19 (zH t.2.2.2.1 :: vI t.2.2.2.2.1 :: vI t.2.2.2.2.2.1 :: dd 22 [])), [(1, .box [zn t.2.2.2.2.2.2.1, yH t.2.2.2.2.2.2.2.1, zv t.2.2.2.2.2.2.2.2.1, yV t.2.2.2.2.2.2.2.2.2.1, Y4 t.2.2.2.2.2.2.2.2.2.2.1, vI t.2.2.2.2.2.2.2.2.2.2.2.1]), (10000000, .root true 5 yF t.2.2.2.2.2.2.2.2.2.2.2.2)]⟩
def yhW : Gk WS := fun κ => YX (fun t => κ (some 8) ⟨.dead :: .box 1 0 :: .dead :: .own 10000000 :: dd 101 (yH t.1 :: vI t.2.1 :: vI t.2.2.1 :: dd 44 []), [(1, .box [zn t.2.2.2.1, yH t.2.2.2.2.1, zv t.2.2.2.2.2.1, yV t.2.2.2.2.2.2.1, Y4 t.2.2.2.2.2.2.2.1, vI t.2.2.2.2.2.2.2.2.1]), (10000000, .root true 5 yF t.2.2.2.2.2.2.2.2.2)]⟩)
def y6Y (t : yiT) : St := ⟨.dead :: .box 1 0 :: .dead :: .own 10000000 :: dd 101 (yH t.1 :: vI t.2.1 :: vI t.2.2.1 :: dd 44 []), [(1, .box [zn t.2.2.2.1, yH t.2.2.2.2.1, zv t.2.2.2.2.2.1, yV t.2.2.2.2.2.2.1, Y4 t.2.2.2.2.2.2.2.1, vI t.2.2.2.2.2.2.2.2.1]), (10000000, .root true 5 yF t.2.2.2.2.2.2.2.2.2)]⟩
def yhX : Gk WU := fun κ => YY (fun t => κ (some 6) ⟨dd 3 (.own 10000000 :: dd 148 []), [(10000000, .root true 5 yF t)]⟩)
def yct : Lp := lpC 22 (unG ylF y6Y) @yhX (lpC 26 (unG ylE y6X) @yhW (lpC 30 (unG ylD y6W) @yhV (lpC 16 (unG ylB y6V) @yhU (lpC 11 (unG ylz y6U) @yhT (lpC 5 (unG ylx y9W) @yqW lpN)))))
theorem yvd : LF ycs yct 13 5 Tryz.f13 0 y9W @yqW fun t => t := fun R κ again t => by kernel_rfl
theorem yve : LK ycs yct 13 Tryz.f13 0 := lkN (u := (unG ylx y9W)) (yf fun t => by kernel_rfl) yvd
theorem yqX : LF ycs yct 13 11 Tryz.f13 1 y6U @yhT fun t => t := fun R κ again t => by kernel_rfl
theorem yqY : LK ycs yct 13 Tryz.f13 1 := lkN (u := (unG ylz y6U)) (yf fun t => by kernel_rfl) yqX
theorem yqZ : LF ycs yct 13 16 Tryz.f13 2 y6V @yhU fun t => t := fun R κ again t => by kernel_rfl
theorem yr0 : LK ycs yct 13 Tryz.f13 2 := lkN (u := (unG ylB y6V)) (yf fun t => by kernel_rfl) yqZ
theorem yr1 : LF ycs yct 13 30 Tryz.f13 5 y6W @yhV fun t => t := fun R κ again t => by kernel_rfl
theorem yr2 : LK ycs yct 13 Tryz.f13 5 := lkN (u := (unG ylD y6W)) (yf fun t => by kernel_rfl) yr1
theorem yr3 : LF ycs yct 13 26 Tryz.f13 4 y6X @yhW fun t => t := fun R κ again t => by kernel_rfl
theorem yr4 : LK ycs yct 13 Tryz.f13 4 := lkN (u := (unG ylE y6X)) (yf fun t => by kernel_rfl) yr3
theorem yr5 : LF ycs yct 13 22 Tryz.f13 3 y6Y @yhX fun t => t := fun R κ again t => by kernel_rfl
theorem yr6 : LK ycs yct 13 Tryz.f13 3 := lkN (u := (unG ylF y6Y)) (yf fun t => by kernel_rfl) yr5
theorem yAU : EV ycs yct 13 Tryz.f13 yyI qz5 [(.sl 5 yF)] Jq := fun x => by kernel_rfl
def q13 : QF := ⟨13, Jq, okN (n := 6) Tryz.func13 ⟨yve, yqY, yr0, yr6, yr4, yr2, trivial⟩ yAU⟩
abbrev K1 : Type := ydz ⊕ ydA
def Y1 (k0 : Qz8 → Option R) (k1 : Qz9 → Option R) (again : K1 → Option R) : K1 → Option R
 | .inl t3 => bif (decide (t3.2.2.1 < t3.2.1)) then if (0 : Int) ≤ t3.2.2.1 then if t3.2.2.1 < (List.length t3.1 : Int) then Option.bind (yM ([(zL t3.1 t3.2.2.1)] : List y7)) fun r1 => if List.length ([r1] : List y7) * 24 < 140737488355328 then again (Sum.inr (t3.1, t3.2.1, (Go.IntKind.wrap .i64 (t3.2.2.1 + (1 : Int))), t3.2.2.2.1, t3.2.2.2.2.1, t3.2.2.2.2.2.1, t3.2.2.2.2.2.2.1, t3.2.2.2.2.2.2.2.1, t3.2.2.2.2.2.2.2.2.1, t3.2.2.2.2.2.2.2.2.2.1, t3.2.2.2.2.2.2.2.2.2.2, ([r1] : List y7))) else none else none else none else k0 t3.2.2.2
 | .inr t3 => bif (decide (t3.2.2.1 < t3.2.1)) then if (0 : Int) ≤ t3.2.2.1 then if t3.2.2.1 < (List.length t3.1 : Int) then Option.bind (yM ([(zL t3.1 t3.2.2.1)] : List y7)) fun r2 => if (List.length t3.2.2.2.2.2.2.2.2.2.2.2 + List.length ([r2] : List y7)) * 24 < 140737488355328 then again (Sum.inr (t3.1, t3.2.1, (Go.IntKind.wrap .i64 (t3.2.2.1 + (1 : Int))), t3.2.2.2.1, t3.2.2.2.2.1, t3.2.2.2.2.2.1, t3.2.2.2.2.2.2.1, t3.2.2.2.2.2.2.2.1, t3.2.2.2.2.2.2.2.2.1, t3.2.2.2.2.2.2.2.2.2.1, t3.2.2.2.2.2.2.2.2.2.2.1, (t3.2.2.2.2.2.2.2.2.2.2.2 ++ ([r2] : List y7)))) else none else none else none else k1 t3.2.2.2
def K2 k0 k1 := z6 (@Y1 R k0 k1) zd
abbrev K3 : Type := ydB ⊕ y9P ⊕ y5S ⊕ y5T
def yZ (k0 : ysK → Option R) (k1 : yx7 → Option R) (k2 : ysL → Option R) (k3 : ysh → Option R) (again : K3 → Option R) : K3 → Option R
 | .inl t8 => bif (decide (t8.2.2.1 < t8.2.1)) then if (0 : Int) ≤ t8.2.2.1 then if t8.2.2.1 < (List.length t8.1 : Int) then Option.bind (yM ([(yW t8.1 t8.2.2.1).2] : List y7)) fun r13 => if List.length ([((yW t8.1 t8.2.2.1).1, r13)] : List yQ) * 32 < 140737488355328 then again (Sum.inr (Sum.inl (t8.1, t8.2.1, (Go.IntKind.wrap .i64 (t8.2.2.1 + (1 : Int))), t8.2.2.2.1, t8.2.2.2.2.1, t8.2.2.2.2.2.1, t8.2.2.2.2.2.2, ([((yW t8.1 t8.2.2.1).1, r13)] : List yQ)))) else none else none else none else k0 t8.2.2.2
 | .inr (.inl t8) => bif (decide (t8.2.2.1 < t8.2.1)) then if (0 : Int) ≤ t8.2.2.1 then if t8.2.2.1 < (List.length t8.1 : Int) then Option.bind (yM ([(yW t8.1 t8.2.2.1).2] : List y7)) fun r14 => if (List.length t8.2.2.2.2.2.2.2 + List.length ([((yW t8.1 t8.2.2.1).1, r14)] : List yQ)) * 32 < 140737488355328 then again (Sum.inr (Sum.inl (t8.1, t8.2.1, (Go.IntKind.wrap .i64 (t8.2.2.1 + (1 : Int))), t8.2.2.2.1, t8.2.2.2.2.1, t8.2.2.2.2.2.1, t8.2.2.2.2.2.2.1, (t8.2.2.2.2.2.2.2 ++ ([((yW t8.1 t8.2.2.1).1, r14)] : List yQ))))) else none else none else none else k1 t8.2.2.2
 | .inr (.inr (.inl t8)) => bif (decide (t8.2.2.1 < t8.2.1)) then if (0 : Int) ≤ t8.2.2.1 then if t8.2.2.1 < (List.length t8.1 : Int) then Option.bind (yM ([(yW t8.1 t8.2.2.1).2] : List y7)) fun r15 => if List.length ([((yW t8.1 t8.2.2.1).1, r15)] : List yQ) * 32 < 140737488355328 then again (Sum.inr (Sum.inr (Sum.inr (t8.1, t8.2.1, (Go.IntKind.wrap .i64 (t8.2.2.1 + (1 : Int))), t8.2.2.2.1, t8.2.2.2.2.1, t8.2.2.2.2.2.1, t8.2.2.2.2.2.2.1, t8.2.2.2.2.2.2.2, ([((yW t8.1 t8.2.2.1).1, r15)] : List yQ))))) else none else none else none else k2 t8.2.2.2
 | .inr (.inr (.inr t8)) => bif (decide (t8.2.2.1 < t8.2.1)) then if (0 : Int) ≤ t8.2.2.1 then if t8.2.2.1 < (List.length t8.1 : Int) then Option.bind (yM ([(yW t8.1 t8.2.2.1).2] : List y7)) fun r16 => if (List.length t8.2.2.2.2.2.2.2.2 + List.length ([((yW t8.1 t8.2.2.1).1, r16)] : List yQ)) * 32 < 140737488355328 then again (Sum.inr (Sum.inr (Sum.inr (t8.1, t8.2.1, (Go.IntKind.wrap .i64 (t8.2.2.1 + (1 : Int))), t8.2.2.2.1, t8.2.2.2.2.1, t8.2.2.2.2.2.1, t8.2.2.2.2.2.2.1, t8.2.2.2.2.2.2.2.1, (t8.2.2.2.2.2.2.2.2 ++ ([((yW t8.1 t8.2.2.1).1, r16)] : List yQ)))))) else none else none else none else k3 t8.2.2.2
def Yn k0 k1 k2 k3 := z6 (@yZ R k0 k1 k2 k3) zd
def Y9 (x : y9d) : Option y9d :=
 K2 (fun x3 => Yn (fun x8 => some (([] : List y7), ([] : List yQ), x8.2.2.1, x8.2.2.2)) (fun x9 => some (([] : List y7), x9.2.2.2.2, x9.2.2.1, x9.2.2.2.1)) (fun x10 => some (x10.2.2.2.2, ([] : List yQ), x10.2.2.1, x10.2.2.2.1)) (fun x11 => some (x11.2.2.2.2.1, x11.2.2.2.2.2, x11.2.2.1, x11.2.2.2.1)) (Sum.inl (x3.2.1, (List.length x3.2.1 : Int), (0 : Int), x3.2.2.2.2.1, x3.2.2.2.2.2.1, x3.2.2.2.2.2.2.1, x3.2.2.2.2.2.2.2))) (fun x12 => Yn (fun x17 => some (([] : List y7), ([] : List yQ), x17.2.2.1, x17.2.2.2)) (fun x18 => some (([] : List y7), x18.2.2.2.2, x18.2.2.1, x18.2.2.2.1)) (fun x19 => some (x19.2.2.2.2, ([] : List yQ), x19.2.2.1, x19.2.2.2.1)) (fun x20 => some (x20.2.2.2.2.1, x20.2.2.2.2.2, x20.2.2.1, x20.2.2.2.1)) (Sum.inr (Sum.inr (Sum.inl (x12.2.1, (List.length x12.2.1 : Int), (0 : Int), x12.2.2.2.2.1, x12.2.2.2.2.2.1, x12.2.2.2.2.2.2.1, x12.2.2.2.2.2.2.2.1, x12.2.2.2.2.2.2.2.2))))) (Sum.inl (x.1, (List.length x.1 : Int), (0 : Int), x.1, x.2.1, x.2.2.1, x.2.2.2, (0 : Int), false, x.2.2.1, x.2.2.2))
def y3A : List QF := [yl5]
def y2C (t : ydz) : St := ⟨.dead :: .box 1 0 :: .box 2 0 :: .box 3 0 :: dd 10 (Yt t.1 :: vI t.2.1 :: vI t.2.2.1 :: dd 33 []), [(1, .box [Yt t.2.2.2.1, QS t.2.2.2.2.1, vI t.2.2.2.2.2.1, vB t.2.2.2.2.2.2.1]), (2, .box [.nils, .nils, vI t.2.2.2.2.2.2.2.1, vB t.2.2.2.2.2.2.2.2.1]), (3, .box [.nils, .nils, vI t.2.2.2.2.2.2.2.2.2.1, vB t.2.2.2.2.2.2.2.2.2.2])]⟩
theorem yge : ∀ s t, unG ylG y2C s = some t → y2C t = s := yf fun t => by kernel_rfl
def y2D (t : ydA) : St := ⟨.dead :: .box 1 0 :: .box 2 0 :: .box 3 0 :: dd 10 (Yt t.1 :: vI t.2.1 :: vI t.2.2.1 :: dd 33 []), [(1, .box [Yt t.2.2.2.1, QS t.2.2.2.2.1, vI t.2.2.2.2.2.1, vB t.2.2.2.2.2.2.1]), (2, .box [.nils, .nils, vI t.2.2.2.2.2.2.2.1, vB t.2.2.2.2.2.2.2.2.1]), (3, .box [.own 10000000, .nils, vI t.2.2.2.2.2.2.2.2.2.1, vB t.2.2.2.2.2.2.2.2.2.2.1]), (10000000, .deep true 0 32 yg t.2.2.2.2.2.2.2.2.2.2.2)]⟩
theorem ygf : ∀ s t, unG ylH y2D s = some t → y2D t = s := yf fun t => by kernel_rfl
def y2E : (ydz ⊕ ydA) → St := Sum.elim y2C y2D
def y6Z (s : St) : Option (ydz ⊕ ydA) := ((unG ylG y2C s).map Sum.inl).or (((unG ylH y2D) s).map Sum.inr)
theorem ygg : ∀ s t, y6Z s = some t → y2E t = s := y0P yge ygf
def ybp : Gk K1 := fun κ => Y1 (fun t => κ (some 0) ⟨.dead :: .box 1 0 :: .box 2 0 :: .box 3 0 :: dd 46 [], [(1, .box [Yt t.1, QS t.2.1, vI t.2.2.1, vB t.2.2.2.1]), (2, .box [.nils, .nils, vI t.2.2.2.2.1, vB t.2.2.2.2.2.1]), (3, .box [.nils, .nils, vI t.2.2.2.2.2.2.1, vB t.2.2.2.2.2.2.2])]⟩) (fun t => κ (some 0) ⟨.dead :: .box 1 0 :: .box 2 0 :: .box 3 0 :: dd 46 [], [(1, .box [Yt t.1, QS t.2.1, vI t.2.2.1, vB t.2.2.2.1]), (2, .box [.nils, .nils, vI t.2.2.2.2.1, vB t.2.2.2.2.2.1]), (3, .box [.own 10000000, .nils, vI t.2.2.2.2.2.2.1, vB t.2.2.2.2.2.2.2.1]), (10000000, .deep true 0 32 yg t.2.2.2.2.2.2.2.2)]⟩)
def y2F (t : ydB) : St := ⟨dd 2 (.box 2 0 :: .box 3 0 :: dd 26 (QS t.1 :: vI t.2.1 :: vI t.2.2.1 :: dd 17 [])), [(2, .box [.nils, .nils, vI t.2.2.2.1, vB t.2.2.2.2.1]), (3, .box [.nils, .nils, vI t.2.2.2.2.2.1, vB t.2.2.2.2.2.2])]⟩
theorem ygh : ∀ s t, unG ylI y2F s = some t → y2F t = s := yf fun t => by kernel_rfl
def y2G (t : y9P) : St := ⟨dd 2 (.box 2 0 :: .box 3 0 :: dd 26 (QS t.1 :: vI t.2.1 :: vI t.2.2.1 :: dd 17 [])), [(2, .box [.nils, .nils, vI t.2.2.2.1, vB t.2.2.2.2.1]), (3, .box [.nils, .own 10000000, vI t.2.2.2.2.2.1, vB t.2.2.2.2.2.2.1]), (10000000, .deep true 0 186 zc t.2.2.2.2.2.2.2)]⟩
theorem ygi : ∀ s t, unG ylJ y2G s = some t → y2G t = s := yf fun t => by kernel_rfl
def y2H (t : y5S) : St := ⟨dd 2 (.box 2 0 :: .box 3 0 :: dd 26 (QS t.1 :: vI t.2.1 :: vI t.2.2.1 :: dd 17 [])), [(2, .box [.nils, .nils, vI t.2.2.2.1, vB t.2.2.2.2.1]), (3, .box [.own 10000000, .nils, vI t.2.2.2.2.2.1, vB t.2.2.2.2.2.2.1]), (10000000, .deep true 0 32 yg t.2.2.2.2.2.2.2)]⟩
theorem ygj : ∀ s t, unG ylK y2H s = some t → y2H t = s := yf fun t => by kernel_rfl
def y2I (t : y5T) : St := ⟨dd 2 (.box 2 0 :: .box 3 0 :: dd 26 (QS t.1 :: vI t.2.1 :: vI t.2.2.1 :: dd 17 [])), [(2, .box [.nils, .nils, vI t.2.2.2.1, vB t.2.2.2.2.1]), (3, .box [.own 10000000, .own 10000001, vI t.2.2.2.2.2.1, vB t.2.2.2.2.2.2.1]), (10000000, .deep true 0 32 yg t.2.2.2.2.2.2.2.1), (10000001, .deep true 0 186 zc t.2.2.2.2.2.2.2.2)]⟩
theorem ygk : ∀ s t, unG ylL y2I s = some t → y2I t = s := yf fun t => by kernel_rfl
def ybq : (y5S ⊕ y5T) → St := Sum.elim y2H y2I
def ybr (s : St) : Option (y5S ⊕ y5T) := ((unG ylK y2H s).map Sum.inl).or (((unG ylL y2I) s).map Sum.inr)
theorem ygl : ∀ s t, ybr s = some t → ybq t = s := y0P ygj ygk
def ybs : (y9P ⊕ y5S ⊕ y5T) → St := Sum.elim y2G ybq
def ybt (s : St) : Option (y9P ⊕ y5S ⊕ y5T) := ((unG ylJ y2G s).map Sum.inl).or ((ybr s).map Sum.inr)
theorem ygm : ∀ s t, ybt s = some t → ybs t = s := y0P ygi ygl
def QI : (ydB ⊕ y9P ⊕ y5S ⊕ y5T) → St := Sum.elim y2F ybs
def y70 (s : St) : Option (ydB ⊕ y9P ⊕ y5S ⊕ y5T) := ((unG ylI y2F s).map Sum.inl).or ((ybt s).map Sum.inr)
theorem ygn : ∀ s t, y70 s = some t → QI t = s := y0P ygh ygm
def y5c : Gk K3 := fun κ => yZ (fun t => κ (some 2) ⟨dd 2 (.box 2 0 :: .box 3 0 :: dd 46 []), [(2, .box [.nils, .nils, vI t.1, vB t.2.1]), (3, .box [.nils, .nils, vI t.2.2.1, vB t.2.2.2])]⟩) (fun t => κ (some 2) ⟨dd 2 (.box 2 0 :: .box 3 0 :: dd 46 []), [(2, .box [.nils, .nils, vI t.1, vB t.2.1]), (3, .box [.nils, .own 10000000, vI t.2.2.1, vB t.2.2.2.1]), (10000000, .deep true 0 186 zc t.2.2.2.2)]⟩) (fun t => κ (some 2) ⟨dd 2 (.box 2 0 :: .box 3 0 :: dd 46 []), [(2, .box [.nils, .nils, vI t.1, vB t.2.1]), (3, .box [.own 10000000, .nils, vI t.2.2.1, vB t.2.2.2.1]), (10000000, .deep true 0 32 yg t.2.2.2.2)]⟩) (fun t => κ (some 2) ⟨dd 2 (.box 2 0 :: .box 3 0 :: dd 46 []), [(2, .box [.nils, .nils, vI t.1, vB t.2.1]), (3, .box [.own 10000000, .own 10000001, vI t.2.2.1, vB t.2.2.2.1]), (10000000, .deep true 0 32 yg t.2.2.2.2.1), (10000001, .deep true 0 186 zc t.2.2.2.2.2)]⟩)
def y3B : Lp := lpC 8 y70 @y5c (lpC 3 y6Z @ybp lpN)
theorem ygo : LF y3A y3B 178 3 Tryz.f178 0 y2E @ybp fun v : ydz => .inl v := fun R κ again v => by kernel_rfl
theorem ygp : LF y3A y3B 178 3 Tryz.f178 0 y2E @ybp fun v : ydA => .inr v := fun R κ again v => by kernel_rfl
theorem yr7 : LF y3A y3B 178 3 Tryz.f178 0 y2E @ybp fun t => t := (LC.sum ygo ygp)
theorem yr8 : LK y3A y3B 178 Tryz.f178 0 := lkN (u := y6Z) ygg yr7
theorem ygq : LF y3A y3B 178 8 Tryz.f178 1 QI @y5c fun v : ydB => .inl v := fun R κ again v => by kernel_rfl
theorem ygr : LF y3A y3B 178 8 Tryz.f178 1 QI @y5c fun v : y9P => .inr (.inl v) := fun R κ again v => by kernel_rfl
theorem ygs : LF y3A y3B 178 8 Tryz.f178 1 QI @y5c fun v : y5S => .inr (.inr (.inl v)) := fun R κ again v => by kernel_rfl
theorem ygt : LF y3A y3B 178 8 Tryz.f178 1 QI @y5c fun v : y5T => .inr (.inr (.inr v)) := fun R κ again v => by kernel_rfl
theorem yr9 : LF y3A y3B 178 8 Tryz.f178 1 QI @y5c fun t => t := (LC.sum ygq (LC.sum ygr (LC.sum ygs ygt)))
theorem yra : LK y3A y3B 178 Tryz.f178 1 := lkN (u := y70) ygn yr9
theorem yvf : EV y3A y3B 178 Tryz.f178 yow QT QT Y9 := fun x => by kernel_rfl
def ysB : QF := ⟨178, Y9, okN (n := 2) Tryz.func178 ⟨yr8, yra, trivial⟩ yvf⟩
def jB (x : List yx) : Option (List yx) :=
 if (List.length ([] : List yx) + List.length x) * 8 < 140737488355328 then some (([] : List yx) ++ x) else none
theorem yvg : EV [] lpN 256 Tryz.f256 yox [(.sl 3 yu)] [(.sl 3 yu)] jB := fun x => by kernel_rfl
def yAV : QF := ⟨256, jB, okN (n := 0) Tryz.func256 trivial yvg⟩
abbrev WX : Type := y9Q ⊕ ydC
def zN (k0 : Unit → Option R) (k1 : List y9 → Option R) (again : WX → Option R) : WX → Option R
 | .inl t3 => bif (decide (t3.2.2 < t3.2.1)) then if (0 : Int) ≤ t3.2.2 then if t3.2.2 < (List.length t3.1 : Int) then Option.bind (zV (yh t3.1 t3.2.2)) fun r1 => if List.length ([r1] : List y9) * 24 < 140737488355328 then again (Sum.inr (t3.1, t3.2.1, (Go.IntKind.wrap .i64 (t3.2.2 + (1 : Int))), ([r1] : List y9))) else none else none else none else k0 ()
 | .inr t3 => bif (decide (t3.2.2.1 < t3.2.1)) then if (0 : Int) ≤ t3.2.2.1 then if t3.2.2.1 < (List.length t3.1 : Int) then Option.bind (zV (yh t3.1 t3.2.2.1)) fun r2 => if (List.length t3.2.2.2 + List.length ([r2] : List y9)) * 24 < 140737488355328 then again (Sum.inr (t3.1, t3.2.1, (Go.IntKind.wrap .i64 (t3.2.2.1 + (1 : Int))), (t3.2.2.2 ++ ([r2] : List y9)))) else none else none else none else k1 t3.2.2.2
def VD k0 k1 := z6 (@zN R k0 k1) zd
def Yh (x : List y9) : Option (List y9) :=
 VD (fun x3 => some ([] : List y9)) (fun x4 => some x4) (Sum.inl (x, (List.length x : Int), (0 : Int)))
def yec : List QF := [yzn]
def y2J (t : y9Q) : St := ⟨dd 2 (.box 2 0 :: .box 3 0 :: dd 4 (zH t.1 :: vI t.2.1 :: vI t.2.2 :: dd 12 [])), [(2, .box [.nils]), (3, .box [.nils])]⟩
theorem ygu : ∀ s t, unG yfF y2J s = some t → y2J t = s := yf fun t => by kernel_rfl
def y2K (t : ydC) : St := ⟨dd 2 (.box 2 0 :: .box 3 0 :: dd 4 (zH t.1 :: vI t.2.1 :: vI t.2.2.1 :: dd 12 [])), [(2, .box [.nils]), (3, .box [.own 10000000]), (10000000, .deep true 0 100 yr t.2.2.2)]⟩
theorem ygv : ∀ s t, unG ylM y2K s = some t → y2K t = s := yf fun t => by kernel_rfl
def y2L : (y9Q ⊕ ydC) → St := Sum.elim y2J y2K
def y71 (s : St) : Option (y9Q ⊕ ydC) := ((unG yfF y2J s).map Sum.inl).or (((unG ylM y2K) s).map Sum.inr)
theorem ygw : ∀ s t, y71 s = some t → y2L t = s := y0P ygu ygv
def ybu : Gk WX := fun κ => zN (fun t => κ (some 0) ⟨dd 2 (.box 2 0 :: .box 3 0 :: dd 19 []), [(2, .box [.nils]), (3, .box [.nils])]⟩) (fun t => κ (some 0) ⟨dd 2 (.box 2 0 :: .box 3 0 :: dd 19 []), [(2, .box [.nils]), (3, .box [.own 10000000]), (10000000, .deep true 0 100 yr t)]⟩)
def yed : Lp := lpC 3 y71 @ybu lpN
theorem ygx : LF yec yed 257 3 Tryz.f257 0 y2L @ybu fun v : y9Q => .inl v := fun R κ again v => by kernel_rfl
theorem ygy : LF yec yed 257 3 Tryz.f257 0 y2L @ybu fun v : ydC => .inr v := fun R κ again v => by kernel_rfl
theorem yrb : LF yec yed 257 3 Tryz.f257 0 y2L @ybu fun t => t := (LC.sum ygx ygy)
theorem yrc : LK yec yed 257 Tryz.f257 0 := lkN (u := y71) ygw yrb
theorem yvh : EV yec yed 257 Tryz.f257 yoy [(.sl 100 yr)] [(.sl 100 yr)] Yh := fun x => by kernel_rfl
def yAW : QF := ⟨257, Yh, okN (n := 1) Tryz.func257 ⟨yrc, trivial⟩ yvh⟩
abbrev WY : Type := ydD ⊕ ydE
def zO (k0 : List yx → Option R) (k1 : Qz4 → Option R) (again : WY → Option R) : WY → Option R
 | .inl t3 => bif (decide (t3.2.2.1 < t3.2.1)) then if (0 : Int) ≤ t3.2.2.1 then if t3.2.2.1 < (List.length t3.1 : Int) then Option.bind (Yh (yn t3.1 t3.2.2.1)) fun r2 => if List.length ([r2] : List y8) * 24 < 140737488355328 then again (Sum.inr (t3.1, t3.2.1, (Go.IntKind.wrap .i64 (t3.2.2.1 + (1 : Int))), t3.2.2.2, ([r2] : List y8))) else none else none else none else k0 t3.2.2.2
 | .inr t3 => bif (decide (t3.2.2.1 < t3.2.1)) then if (0 : Int) ≤ t3.2.2.1 then if t3.2.2.1 < (List.length t3.1 : Int) then Option.bind (Yh (yn t3.1 t3.2.2.1)) fun r3 => if (List.length t3.2.2.2.2 + List.length ([r3] : List y8)) * 24 < 140737488355328 then again (Sum.inr (t3.1, t3.2.1, (Go.IntKind.wrap .i64 (t3.2.2.1 + (1 : Int))), t3.2.2.2.1, (t3.2.2.2.2 ++ ([r3] : List y8)))) else none else none else none else k1 t3.2.2.2
def VE k0 k1 := z6 (@zO R k0 k1) zd
def YZ (x : Qz4) : Option Qz4 :=
 Option.bind (jB x.1) fun r1 => VE (fun x4 => some (x4, ([] : List y8))) (fun x5 => some x5) (Sum.inl (x.2, (List.length x.2 : Int), (0 : Int), r1))
def yee : List QF := [yAV, yAW]
def y2M (t : ydD) : St := ⟨dd 2 (.box 2 0 :: .box 3 0 :: dd 7 (yH t.1 :: vI t.2.1 :: vI t.2.2.1 :: dd 12 [])), [(2, .box [.nils, .nils]), (3, .box [.own 10000000, .nils]), (10000000, .root true 3 yu t.2.2.2)]⟩
theorem ygz : ∀ s t, unG ylN y2M s = some t → y2M t = s := yf fun t => by kernel_rfl
def y2N (t : ydE) : St := ⟨dd 2 (.box 2 0 :: .box 3 0 :: dd 7 (yH t.1 :: vI t.2.1 :: vI t.2.2.1 :: dd 12 [])), [(2, .box [.nils, .nils]), (3, .box [.own 10000000, .own 10000001]), (10000000, .root true 3 yu t.2.2.2.1), (10000001, .deep true 0 98 yk t.2.2.2.2)]⟩
theorem ygA : ∀ s t, unG ylO y2N s = some t → y2N t = s := yf fun t => by kernel_rfl
def y2O : (ydD ⊕ ydE) → St := Sum.elim y2M y2N
def y72 (s : St) : Option (ydD ⊕ ydE) := ((unG ylN y2M s).map Sum.inl).or (((unG ylO y2N) s).map Sum.inr)
theorem ygB : ∀ s t, y72 s = some t → y2O t = s := y0P ygz ygA
def ybv : Gk WY := fun κ => zO (fun t => κ (some 0) ⟨dd 2 (.box 2 0 :: .box 3 0 :: dd 22 []), [(2, .box [.nils, .nils]), (3, .box [.own 10000000, .nils]), (10000000, .root true 3 yu t)]⟩) (fun t => κ (some 0) ⟨dd 2 (.box 2 0 :: .box 3 0 :: dd 22 []), [(2, .box [.nils, .nils]), (3, .box [.own 10000000, .own 10000001]), (10000000, .root true 3 yu t.1), (10000001, .deep true 0 98 yk t.2)]⟩)
def yef : Lp := lpC 3 y72 @ybv lpN
theorem ygC : LF yee yef 223 3 Tryz.f223 0 y2O @ybv fun v : ydD => .inl v := fun R κ again v => by kernel_rfl
theorem ygD : LF yee yef 223 3 Tryz.f223 0 y2O @ybv fun v : ydE => .inr v := fun R κ again v => by kernel_rfl
theorem yrd : LF yee yef 223 3 Tryz.f223 0 y2O @ybv fun t => t := (LC.sum ygC ygD)
theorem yre : LK yee yef 223 Tryz.f223 0 := lkN (u := y72) ygB yrd
theorem yvi : EV yee yef 223 Tryz.f223 yoz qz4 qz4 YZ := fun x => by kernel_rfl
def yAX : QF := ⟨223, YZ, okN (n := 1) Tryz.func223 ⟨yre, trivial⟩ yvi⟩
def wP (x : List yq) : Option (List yq) :=
 if (List.length ([] : List yq) + List.length x) * 16 < 140737488355328 then some (([] : List yq) ++ x) else none
theorem yvj : EV [] lpN 224 Tryz.f224 yoA [(.sl 89 yG)] [(.sl 89 yG)] wP := fun x => by kernel_rfl
def yAY : QF := ⟨224, wP, okN (n := 0) Tryz.func224 trivial yvj⟩
def JA (x : List yb) : Option (List yb) :=
 if (List.length ([] : List yb) + List.length x) * 24 < 140737488355328 then some (([] : List yb) ++ x) else none
theorem yvk : EV [] lpN 225 Tryz.f225 yoB [(.sl 95 yl)] [(.sl 95 yl)] JA := fun x => by kernel_rfl
def yAZ : QF := ⟨225, JA, okN (n := 0) Tryz.func225 trivial yvk⟩
def jC (x : Qz5) : Option Qz5 :=
 Option.bind (YZ (x.1, x.2.1)) fun r1 => Option.bind (wP x.2.2.1) fun r2 => Option.bind (JA x.2.2.2.1) fun r3 => if (List.length ([] : List yD) + List.length x.2.2.2.2.1) * 40 < 140737488355328 then some (r1.1, r1.2, r2, r3, (([] : List yD) ++ x.2.2.2.2.1), x.2.2.2.2.2) else none
theorem yvl : EV [yAX, yAY, yAZ] lpN 179 Tryz.f179 yoC qz5 qz5 jC := fun x => by kernel_rfl
def yB0 : QF := ⟨179, jC, okN (n := 0) Tryz.func179 trivial yvl⟩
def ZL (x : y7K) : Option y7K :=
 Option.bind (Y9 (x.1, x.2.1, x.2.2.1, x.2.2.2.1)) fun r1 => Option.bind (jC (x.2.2.2.2.1, x.2.2.2.2.2.1, x.2.2.2.2.2.2.1, x.2.2.2.2.2.2.2.1, x.2.2.2.2.2.2.2.2.1, x.2.2.2.2.2.2.2.2.2.1)) fun r2 => some (r1.1, r1.2.1, r1.2.2.1, r1.2.2.2, r2.1, r2.2.1, r2.2.2.1, r2.2.2.2.1, r2.2.2.2.2.1, r2.2.2.2.2.2, x.2.2.2.2.2.2.2.2.2.2)
theorem yvm : EV [ysB, yB0] lpN 103 Tryz.f103 yoD qb qb ZL := fun x => by kernel_rfl
def yB1 : QF := ⟨103, ZL, okN (n := 0) Tryz.func103 trivial yvm⟩
abbrev Vg : Type := ylP
def Jr (k0 : ysV → Option R) (k1 : y9d → Option R) (again : Vg → Option R) (t4 : Vg) : Option R :=
 bif (decide (t4.2.2.1 < t4.2.1)) then if (0 : Int) ≤ t4.2.2.1 then if t4.2.2.1 < (List.length t4.1 : Int) then bif (decide ((List.length (zL t4.1 t4.2.2.1) : Int) > (80 : Int))) then k0 (false, t4.2.2.2) else again (t4.1, t4.2.1, (Go.IntKind.wrap .i64 (t4.2.2.1 + (1 : Int))), t4.2.2.2.1, t4.2.2.2.2.1, t4.2.2.2.2.2.1, t4.2.2.2.2.2.2) else none else none else k1 t4.2.2.2
def Vh k0 k1 := z6 (@Jr R k0 k1) zd
abbrev vt : Type := ylR
def jD (k0 : Bool → Option R) (k1 : Unit → Option R) (again : vt → Option R) (t10 : vt) : Option R :=
 bif (decide (t10.2.2.1 < t10.2.1)) then if (0 : Int) ≤ t10.2.2.1 then if t10.2.2.1 < (List.length t10.1 : Int) then Option.bind (yd ((yW t10.1 t10.2.2.1).1, (0 : Int), (Go.IntKind.wrap .i64 ((List.length t10.2.2.2.1 : Int) - (1 : Int))))) fun r7 => Option.bind (bif (!r7) then some true else some (decide (((List.length ((yW t10.1 t10.2.2.1).2) : Nat) : Int) > (80 : Int)))) fun u8 => bif u8 then k0 false else again (t10.1, t10.2.1, (Go.IntKind.wrap .i64 (t10.2.2.1 + (1 : Int))), t10.2.2.2.1, t10.2.2.2.2.1, t10.2.2.2.2.2.1, t10.2.2.2.2.2.2) else none else none else k1 ()
def vu k0 k1 := z6 (@jD R k0 k1) zd
def Zl (x : y9d) : Option Bool :=
 Option.bind (yd ((List.length x.1 : Int), (1 : Int), (60 : Int))) fun r1 => Option.bind (bif (!r1) then some true else some (decide ((List.length x.2.1 : Int) > (60 : Int)))) fun u2 => Option.bind (bif u2 then some true else Option.bind (yd (x.2.2.1, (-1 : Int), (1000 : Int))) fun r4 => some (!r4)) fun u3 => bif u3 then some false else Vh (fun x5 => some x5.1) (fun x6 => vu (fun x9 => some x9) (fun x10 => some true) (x6.2.1, (List.length x6.2.1 : Int), (0 : Int), x6.1, x6.2.1, x6.2.2.1, x6.2.2.2)) (x.1, (List.length x.1 : Int), (0 : Int), x.1, x.2.1, x.2.2.1, x.2.2.2)
def yeg : List QF := [y9g]
def y73 (t : ylP) : St := ⟨.dead :: .box 1 0 :: dd 23 (Yt t.1 :: vI t.2.1 :: vI t.2.2.1 :: dd 29 []), [(1, .box [Yt t.2.2.2.1, QS t.2.2.2.2.1, vI t.2.2.2.2.2.1, vB t.2.2.2.2.2.2])]⟩
def yhY : Gk Vg := fun κ => Jr (fun t => κ none ⟨.dead :: .box 1 0 :: vB t.1 :: dd 54 [], [(1, .box [Yt t.2.1, QS t.2.2.1, vI t.2.2.2.1, vB t.2.2.2.2])]⟩) (fun t => κ (some 0) ⟨.dead :: .box 1 0 :: dd 55 [], [(1, .box [Yt t.1, QS t.2.1, vI t.2.2.1, vB t.2.2.2])]⟩)
def y3C (t : ylR) : St := ⟨.dead :: .box 1 0 :: dd 34 (QS t.1 :: vI t.2.1 :: vI t.2.2.1 :: dd 18 []), [(1, .box [Yt t.2.2.2.1, QS t.2.2.2.2.1, vI t.2.2.2.2.2.1, vB t.2.2.2.2.2.2])]⟩
def yeh : Gk vt := fun κ => jD (fun t => κ none ⟨dd 2 (vB t :: dd 54 []), []⟩) (fun t => κ (some 2) ⟨dd 57 [], []⟩)
def yei : Lp := lpC 10 (unG ylS y3C) @yeh (lpC 4 (unG ylQ y73) @yhY lpN)
theorem yrf : LF yeg yei 160 4 Tryz.f160 0 y73 @yhY fun t => t := fun R κ again t => by kernel_rfl
theorem yrg : LK yeg yei 160 Tryz.f160 0 := lkN (u := (unG ylQ y73)) (yf fun t => by kernel_rfl) yrf
theorem ykc : LF yeg yei 160 10 Tryz.f160 1 y3C @yeh fun t => t := fun R κ again t => by kernel_rfl
theorem ykd : LK yeg yei 160 Tryz.f160 1 := lkN (u := (unG ylS y3C)) (yf fun t => by kernel_rfl) ykc
theorem yvn : EV yeg yei 160 Tryz.f160 yoE QT [.bool] Zl := fun x => by kernel_rfl
def ysC : QF := ⟨160, Zl, okN (n := 2) Tryz.func160 ⟨yrg, ykd, trivial⟩ yvn⟩
def WZ (x : y9d) : Option ysX :=
 bif (x.2.2.1 == (0 : Int)) then some (x.1, x.2.1, (-1 : Int), true, false) else bif (decide (x.2.2.1 > (0 : Int))) then some (x.1, x.2.1, (Go.IntKind.wrap .i64 (x.2.2.1 - (1 : Int))), x.2.2.2, true) else some (x.1, x.2.1, x.2.2.1, x.2.2.2, true)
theorem yvo : EV [] lpN 180 Tryz.f180 yoF QT ysY WZ := fun x => by kernel_rfl
def yzp : QF := ⟨180, WZ, okN (n := 0) Tryz.func180 trivial yvo⟩
abbrev k8 : Type := ydF ⊕ ydG
def zP (k0 : ysh → Option R) (k1 : ysZ → Option R) (again : k8 → Option R) : k8 → Option R
 | .inl t8 => bif (decide (t8.2.1 < t8.1)) then if (0 : Int) ≤ t8.2.1 then if t8.2.1 < (List.length t8.2.2.2.2.2.2.1 : Int) then Option.bind (yM ([(yW t8.2.2.2.2.2.2.1 t8.2.1).2] : List y7)) fun r5 => if (0 : Int) ≤ (yW t8.2.2.2.2.2.2.1 t8.2.1).1 then if (yW t8.2.2.2.2.2.2.1 t8.2.1).1 < (List.length t8.2.2.2.2.2.2.2 : Int) then again (Sum.inr (t8.2.2.2.2.2.2.1, t8.1, (Go.IntKind.wrap .i64 (t8.2.1 + (1 : Int))), t8.2.2.1, t8.2.2.2.1, t8.2.2.2.2.2.2.1, t8.2.2.2.2.1, t8.2.2.2.2.2.1, (List.set t8.2.2.2.2.2.2.2 (Int.toNat ((yW t8.2.2.2.2.2.2.1 t8.2.1).1)) r5))) else none else none else none else none else k0 (t8.2.2.1, t8.2.2.2.1, t8.2.2.2.2.1, t8.2.2.2.2.2.1, t8.2.2.2.2.2.2.2, t8.2.2.2.2.2.2.1)
 | .inr t8 => bif (decide (t8.2.2.1 < t8.2.1)) then if (0 : Int) ≤ t8.2.2.1 then if t8.2.2.1 < (List.length t8.1 : Int) then Option.bind (yM ([(yW t8.1 t8.2.2.1).2] : List y7)) fun r6 => if (0 : Int) ≤ (yW t8.1 t8.2.2.1).1 then if (yW t8.1 t8.2.2.1).1 < (List.length t8.2.2.2.2.2.2.2.2 : Int) then again (Sum.inr (t8.1, t8.2.1, (Go.IntKind.wrap .i64 (t8.2.2.1 + (1 : Int))), t8.2.2.2.1, t8.2.2.2.2.1, t8.2.2.2.2.2.1, t8.2.2.2.2.2.2.1, t8.2.2.2.2.2.2.2.1, (List.set t8.2.2.2.2.2.2.2.2 (Int.toNat ((yW t8.1 t8.2.2.1).1)) r6))) else none else none else none else none else k1 t8.2.2.2
def k9 k0 k1 := z6 (@zP R k0 k1) zd
def zy (x : y9d) : Option y9d :=
 Option.bind (Y9 x) fun r1 => Option.bind (Zl x) fun r2 => Option.bind (bif (!r2) then some true else some x.2.2.2) fun u3 => bif u3 then some r1 else Option.bind (WZ r1) fun r4 => bif (!r4.2.2.2.2) then some (r4.1, r4.2.1, r4.2.2.1, r4.2.2.2.1) else k9 (fun x7 => some (x7.2.2.2.2.1, ([] : List yQ), x7.2.2.1, x7.2.2.2.1)) (fun x8 => some (x8.2.2.2.2.2, ([] : List yQ), x8.2.2.2.1, x8.2.2.2.2.1)) (Sum.inl ((List.length r4.2.1 : Int), (0 : Int), (0 : Int), false, r4.2.2.1, r4.2.2.2.1, r4.2.1, r4.1))
def yej : List QF := [yl5, ysC, ysB, yzp]
def y2P (t : ydF) : St := ⟨dd 2 (.box 2 0 :: .box 3 0 :: dd 22 (.own 10000000 :: vI t.1 :: vI t.2.1 :: dd 15 [])), [(2, .box [.nils, .nils, vI t.2.2.1, vB t.2.2.2.1]), (3, .box [.own 10000001, .own 10000000, vI t.2.2.2.2.1, vB t.2.2.2.2.2.1]), (10000000, .deep true 0 186 zc t.2.2.2.2.2.2.1), (10000001, .deep true 0 32 yg t.2.2.2.2.2.2.2)]⟩
theorem ygE : ∀ s t, unG ylT y2P s = some t → y2P t = s := yf fun t => by kernel_rfl
def y2Q (t : ydG) : St := ⟨dd 2 (.box 2 0 :: .box 3 0 :: dd 22 (QS t.1 :: vI t.2.1 :: vI t.2.2.1 :: dd 15 [])), [(2, .box [.nils, .nils, vI t.2.2.2.1, vB t.2.2.2.2.1]), (3, .box [.own 10000000, QS t.2.2.2.2.2.1, vI t.2.2.2.2.2.2.1, vB t.2.2.2.2.2.2.2.1]), (10000000, .deep false 0 32 yg t.2.2.2.2.2.2.2.2)]⟩
theorem ygF : ∀ s t, unG ylU y2Q s = some t → y2Q t = s := yf fun t => by kernel_rfl
def y2R : (ydF ⊕ ydG) → St := Sum.elim y2P y2Q
def y74 (s : St) : Option (ydF ⊕ ydG) := ((unG ylT y2P s).map Sum.inl).or (((unG ylU y2Q) s).map Sum.inr)
theorem ygG : ∀ s t, y74 s = some t → y2R t = s := y0P ygE ygF
def ybw : Gk k8 := fun κ => zP (fun t => κ (some 0) ⟨dd 2 (.box 2 0 :: .box 3 0 :: dd 40 []), [(2, .box [.nils, .nils, vI t.1, vB t.2.1]), (3, .box [.own 10000000, .own 10000001, vI t.2.2.1, vB t.2.2.2.1]), (10000000, .deep true 0 32 yg t.2.2.2.2.1), (10000001, .deep true 0 186 zc t.2.2.2.2.2)]⟩) (fun t => κ (some 0) ⟨dd 2 (.box 2 0 :: .box 3 0 :: dd 40 []), [(2, .box [.nils, .nils, vI t.1, vB t.2.1]), (3, .box [.own 10000000, QS t.2.2.1, vI t.2.2.2.1, vB t.2.2.2.2.1]), (10000000, .deep false 0 32 yg t.2.2.2.2.2)]⟩)
def yek : Lp := lpC 8 y74 @ybw lpN
theorem ygH : LF yej yek 105 8 Tryz.f105 0 y2R @ybw fun v : ydF => .inl v := fun R κ again v => by kernel_rfl
theorem ygI : LF yej yek 105 8 Tryz.f105 0 y2R @ybw fun v : ydG => .inr v := fun R κ again v => by kernel_rfl
theorem yrh : LF yej yek 105 8 Tryz.f105 0 y2R @ybw fun t => t := (LC.sum ygH ygI)
theorem yri : LK yej yek 105 Tryz.f105 0 := lkN (u := y74) ygG yrh
theorem yvp : EV yej yek 105 Tryz.f105 yoG QT QT zy := fun x => by kernel_rfl
def yB2 : QF := ⟨105, zy, okN (n := 1) Tryz.func105 ⟨yri, trivial⟩ yvp⟩
def Js (x : yiU) : Option Bool :=
 Option.bind (yd (x.2.2.2.2.2.2.2.2.2.2.1, x.2.2.2.2.2.2.2.2.2.2.2.2.2, (50000 : Int))) fun r1 => Option.bind (bif r1 then Option.bind (yd (x.2.2.2.2.2.2.2.2.2.2.2.1, (1 : Int), (50000 : Int))) fun r3 => some r3 else some false) fun u2 => Option.bind (bif u2 then Option.bind (yd (x.2.2.2.2.2.2.2.2.2.2.2.2.1, (1 : Int), (50000 : Int))) fun r5 => some r5 else some false) fun u4 => Option.bind (bif u4 then Option.bind (yd (x.2.2.2.2.2.2.2.2.2.2.2.2.1, x.2.2.2.2.2.2.2.2.2.2.2.1, (Go.IntKind.wrap .i64 (x.2.2.2.2.2.2.2.2.2.2.2.1 + (6 : Int))))) fun r7 => some r7 else some false) fun u6 => Option.bind (bif u6 then Option.bind (Zl (x.1, x.2.1, x.2.2.1, x.2.2.2.1)) fun r9 => some r9 else some false) fun u8 => Option.bind (bif u8 then some ((List.length x.1 : Int) == (60 : Int)) else some false) fun u10 => Option.bind (bif u10 then Option.bind (jW (x.2.2.2.2.1, x.2.2.2.2.2.1, x.2.2.2.2.2.2.1, x.2.2.2.2.2.2.2.1, x.2.2.2.2.2.2.2.2.1, x.2.2.2.2.2.2.2.2.2.1)) fun r12 => some r12 else some false) fun u11 => some u11
theorem yvq : EV [q56, y9g, ysC] lpN 109 Tryz.f109 yoH yiV [.bool] Js := fun x => by kernel_rfl
def yB3 : QF := ⟨109, Js, okN (n := 0) Tryz.func109 trivial yvq⟩
abbrev Ql : Type := ylV
def vV (k0 : yiW → Option R) (again : Ql → Option R) (t7 : Ql) : Option R :=
 bif (decide (t7.2.2.2.2 < (8 : Int))) then bif ((Int.tmod t7.1 (2 : Int)) == (1 : Int)) then again ((Go.bits .xor .i64 (Go.IntKind.wrap .i64 (Int.tdiv t7.1 (2 : Int))) (2197175160 : Int)), t7.2.1, t7.2.2.1, t7.2.2.2.1, (Go.IntKind.wrap .i64 (t7.2.2.2.2 + (1 : Int)))) else again ((Go.IntKind.wrap .i64 (Int.tdiv t7.1 (2 : Int))), t7.2.1, t7.2.2.1, t7.2.2.2.1, (Go.IntKind.wrap .i64 (t7.2.2.2.2 + (1 : Int)))) else k0 (t7.1, t7.2.1, t7.2.2.1, t7.2.2.2.1)
def Qm k0 := z6 (@vV R k0) zd
abbrev Qn : Type := yiW
def Qo (k0 : Int → Option R) (again : Qn → Option R) (t3 : Qn) : Option R :=
 bif (decide (t3.2.2.2 < t3.2.2.1)) then if (0 : Int) ≤ t3.2.2.2 then if t3.2.2.2 < (List.length t3.2.1 : Int) then Qm (fun x1 => again (x1.1, x1.2.1, x1.2.2.1, (Go.IntKind.wrap .i64 (x1.2.2.2 + (1 : Int))))) ((Go.bits .xor .i64 t3.1 (Go.IntKind.wrap .i64 (y9O t3.2.1 t3.2.2.2))), t3.2.1, t3.2.2.1, t3.2.2.2, (0 : Int)) else none else none else k0 t3.1
def y1V k0 := z6 (@Qo R k0) zd
def KD (x : List z7) : Option Int :=
 y1V (fun x2 => some (Go.bits .xor .i64 x2 (4294967295 : Int))) ((4294967295 : Int), x, (List.length x : Int), (0 : Int))
def yel : List QF := []
def y75 (t : ylV) : St := ⟨dd 3 (vI t.1 :: dd 3 (ydw t.2.1 :: vI t.2.2.1 :: vI t.2.2.2.1 :: dd 7 (vI t.2.2.2.2 :: dd 13 []))), []⟩
def yhZ : Gk Ql := fun κ => vV (fun t => κ (some 2) ⟨dd 3 (vI t.1 :: dd 3 (ydw t.2.1 :: vI t.2.2.1 :: vI t.2.2.2 :: dd 21 [])), []⟩)
def y76 (t : yiW) : St := ⟨dd 3 (vI t.1 :: dd 3 (ydw t.2.1 :: vI t.2.2.1 :: vI t.2.2.2 :: dd 21 [])), []⟩
def yi0 : Gk Qn := fun κ => Qo (fun t => κ (some 0) ⟨dd 3 (vI t :: dd 27 []), []⟩)
def yem : Lp := lpC 3 (unG ylX y76) @yi0 (lpC 7 (unG ylW y75) @yhZ lpN)
theorem yrj : LF yel yem 110 7 Tryz.f110 1 y75 @yhZ fun t => t := fun R κ again t => by kernel_rfl
theorem yrk : LK yel yem 110 Tryz.f110 1 := lkN (u := (unG ylW y75)) (yf fun t => by kernel_rfl) yrj
theorem yrl : LF yel yem 110 3 Tryz.f110 0 y76 @yi0 fun t => t := fun R κ again t => by kernel_rfl
theorem yrm : LK yel yem 110 Tryz.f110 0 := lkN (u := (unG ylX y76)) (yf fun t => by kernel_rfl) yrl
theorem yvr : EV yel yem 110 Tryz.f110 yoI [(.sl 5 yF)] [(.int .i64)] KD := fun x => by kernel_rfl
def yzq : QF := ⟨110, KD, okN (n := 2) Tryz.func110 ⟨yrm, yrk, trivial⟩ yvr⟩
def Yi (x : ylY) : Option y9d :=
 Option.bind (Y9 (x.1, x.2.1, x.2.2.1, x.2.2.2.1)) fun r1 => Option.bind (Zl (x.1, x.2.1, x.2.2.1, x.2.2.2.1)) fun r2 => Option.bind (bif (!r2) then some true else some x.2.2.2.1) fun u3 => Option.bind (bif u3 then some true else Option.bind (yd (x.2.2.2.2.1, (0 : Int), (Go.IntKind.wrap .i64 ((List.length x.1 : Int) - (1 : Int))))) fun r5 => some (!r5)) fun u4 => Option.bind (bif u4 then some true else some (decide ((List.length x.2.2.2.2.2 : Int) > (80 : Int)))) fun u6 => Option.bind (bif u6 then some true else some ((List.length x.2.1 : Int) == (60 : Int))) fun u7 => bif u7 then some r1 else Option.bind (WZ r1) fun r8 => bif r8.2.2.2.2 then Option.bind (yM ([x.2.2.2.2.2] : List y7)) fun r9 => if (List.length r8.2.1 + List.length ([(x.2.2.2.2.1, r9)] : List yQ)) * 32 < 140737488355328 then some (r8.1, (r8.2.1 ++ ([(x.2.2.2.2.1, r9)] : List yQ)), r8.2.2.1, r8.2.2.2.1) else none else some (r8.1, r8.2.1, r8.2.2.1, r8.2.2.2.1)
theorem yvs : EV [y9g, yl5, ysC, ysB, yzp] lpN 112 Tryz.f112 yoJ ylZ QT Yi := fun x => by kernel_rfl
def yzr : QF := ⟨112, Yi, okN (n := 0) Tryz.func112 trivial yvs⟩
def wQ (x : y9e) : Option Int :=
 Option.bind (yd (x.1, (0 : Int), (1 : Int))) fun r1 => Option.bind (bif (!r1) then some true else Option.bind (yd (x.2, (0 : Int), (23 : Int))) fun r3 => some (!r3)) fun u2 => bif u2 then some (-1 : Int) else some (Go.IntKind.wrap .i64 ((Go.IntKind.wrap .i64 ((8 : Int) + (Go.IntKind.wrap .i64 (x.1 * (24 : Int))))) + x.2))
theorem yvt : EV [y9g] lpN 161 Tryz.f161 yoK yh6 [(.int .i64)] wQ := fun x => by kernel_rfl
def yB4 : QF := ⟨161, wQ, okN (n := 0) Tryz.func161 trivial yvt⟩
abbrev JL : Type := ym0
def Zt (k0 : ysh → Option R) (again : JL → Option R) (t5 : JL) : Option R :=
 bif (decide ((Go.IntKind.wrap .i64 (t5.2.2.1 * (70 : Int))) < (List.length t5.2.1 : Int))) then Option.bind (wQ (t5.1, t5.2.2.1)) fun r6 => if (0 : Int) ≤ (Go.IntKind.wrap .i64 (t5.2.2.1 * (70 : Int))) then if (Go.IntKind.wrap .i64 (t5.2.2.1 * (70 : Int))) ≤ (if (List.length t5.2.1 : Int) < (Go.IntKind.wrap .i64 ((Go.IntKind.wrap .i64 (t5.2.2.1 + (1 : Int))) * (70 : Int))) then (List.length t5.2.1 : Int) else (Go.IntKind.wrap .i64 ((Go.IntKind.wrap .i64 (t5.2.2.1 + (1 : Int))) * (70 : Int)))) then if (if (List.length t5.2.1 : Int) < (Go.IntKind.wrap .i64 ((Go.IntKind.wrap .i64 (t5.2.2.1 + (1 : Int))) * (70 : Int))) then (List.length t5.2.1 : Int) else (Go.IntKind.wrap .i64 ((Go.IntKind.wrap .i64 (t5.2.2.1 + (1 : Int))) * (70 : Int)))) ≤ (List.length t5.2.1 : Int) then Option.bind (Yi (t5.2.2.2.2.2.2.2.1, t5.2.2.2.2.2.2.2.2, t5.2.2.2.2.2.1, t5.2.2.2.2.2.2.1, r6, (List.drop (Int.toNat (Go.IntKind.wrap .i64 (t5.2.2.1 * (70 : Int)))) (List.take (Int.toNat (if (List.length t5.2.1 : Int) < (Go.IntKind.wrap .i64 ((Go.IntKind.wrap .i64 (t5.2.2.1 + (1 : Int))) * (70 : Int))) then (List.length t5.2.1 : Int) else (Go.IntKind.wrap .i64 ((Go.IntKind.wrap .i64 (t5.2.2.1 + (1 : Int))) * (70 : Int))))) t5.2.1)))) fun r7 => again (t5.1, t5.2.1, (Go.IntKind.wrap .i64 (t5.2.2.1 + (1 : Int))), t5.2.2.2.1, t5.2.2.2.2.1, r7.2.2.1, r7.2.2.2, r7.1, r7.2.1) else none else none else none else k0 t5.2.2.2
def JM k0 := z6 (@Zt R k0) zd
def Z0 (x : ylY) : Option y9d :=
 Option.bind (Y9 (x.1, x.2.1, x.2.2.1, x.2.2.2.1)) fun r1 => Option.bind (Zl (x.1, x.2.1, x.2.2.1, x.2.2.2.1)) fun r2 => Option.bind (bif (!r2) then some true else some (decide ((List.length x.2.2.2.2.2 : Int) > (1680 : Int)))) fun u3 => Option.bind (bif u3 then some true else Option.bind (yd (x.2.2.2.2.1, (0 : Int), (1 : Int))) fun r5 => some (!r5)) fun u4 => bif u4 then some r1 else JM (fun x8 => some (x8.2.2.2.2.1, x8.2.2.2.2.2, x8.2.2.1, x8.2.2.2.1)) (x.2.2.2.2.1, x.2.2.2.2.2, (0 : Int), (0 : Int), false, r1.2.2.1, r1.2.2.2, r1.1, r1.2.1)
def yke : List QF := [yzr, y9g, ysC, yB4, ysB]
def y77 (t : ym0) : St := ⟨.dead :: vI t.1 :: ydw t.2.1 :: dd 3 (.box 6 0 :: .box 7 0 :: vI t.2.2.1 :: dd 39 []), [(6, .box [.nils, .nils, vI t.2.2.2.1, vB t.2.2.2.2.1]), (7, .box [.own 10000000, .own 10000001, vI t.2.2.2.2.2.1, vB t.2.2.2.2.2.2.1]), (10000000, .deep true 0 32 yg t.2.2.2.2.2.2.2.1), (10000001, .deep true 0 186 zc t.2.2.2.2.2.2.2.2)]⟩
def yi1 : Gk JL := fun κ => Zt (fun t => κ (some 0) ⟨dd 6 (.box 6 0 :: .box 7 0 :: dd 40 []), [(6, .box [.nils, .nils, vI t.1, vB t.2.1]), (7, .box [.own 10000000, .own 10000001, vI t.2.2.1, vB t.2.2.2.1]), (10000000, .deep true 0 32 yg t.2.2.2.2.1), (10000001, .deep true 0 186 zc t.2.2.2.2.2)]⟩)
def ykf : Lp := lpC 5 (unG ym1 y77) @yi1 lpN
theorem yrn : LF yke ykf 111 5 Tryz.f111 0 y77 @yi1 fun t => t := fun R κ again t => by kernel_rfl
theorem yro : LK yke ykf 111 Tryz.f111 0 := lkN (u := (unG ym1 y77)) (yf fun t => by kernel_rfl) yrn
theorem yvu : EV yke ykf 111 Tryz.f111 yoL ylZ QT Z0 := fun x => by kernel_rfl
def yB5 : QF := ⟨111, Z0, okN (n := 1) Tryz.func111 ⟨yro, trivial⟩ yvu⟩
def Jt (x : yiQ) : Option Bool :=
 Option.bind (yd (x.1, (1 : Int), (60000 : Int))) fun r1 => Option.bind (bif r1 then Option.bind (yd (x.2.1, (0 : Int), (1 : Int))) fun r3 => some r3 else some false) fun u2 => Option.bind (bif u2 then Option.bind (yd (x.2.2.1, (0 : Int), (1680 : Int))) fun r5 => some r5 else some false) fun u4 => Option.bind (bif u4 then Option.bind (yd (x.2.2.2.1, (0 : Int), (4294967295 : Int))) fun r7 => some r7 else some false) fun u6 => Option.bind (bif u6 then Option.bind (yd (x.2.2.2.2, (1 : Int), (60000 : Int))) fun r9 => some r9 else some false) fun u8 => some u8
theorem yvv : EV [y9g] lpN 159 Tryz.f159 yoM y16 [.bool] Jt := fun x => by kernel_rfl
def yB6 : QF := ⟨159, Jt, okN (n := 0) Tryz.func159 trivial yvv⟩
def ka (x : yl1) : Option (List z7) :=
 Option.bind (zl (x.1, (Int.fdiv x.2 (2 ^ (min (Int.toNat (16 : Int)) (Go.IntKind.bits .i64)))))) fun r1 => Option.bind (zl (r1, x.2)) fun r2 => some r2
theorem yvw : EV [q57] lpN 184 Tryz.f184 yoN yl2 [(.sl 5 yF)] ka := fun x => by kernel_rfl
def yB7 : QF := ⟨184, ka, okN (n := 0) Tryz.func184 trivial yvw⟩
def jE (x : yiQ) : Option (List z7) :=
 Option.bind (Jt x) fun r1 => bif (!r1) then some ([] : List z7) else Option.bind (zl (([] : List z7), x.1)) fun r2 => if (List.length r2 + List.length ([(Go.IntKind.wrap .u8 x.2.1)] : List z7)) * 1 < 140737488355328 then Option.bind (zl ((r2 ++ ([(Go.IntKind.wrap .u8 x.2.1)] : List z7)), x.2.2.1)) fun r3 => Option.bind (ka (r3, x.2.2.2.1)) fun r4 => Option.bind (zl (r4, x.2.2.2.2)) fun r5 => Option.bind (KD r5) fun r6 => Option.bind (ka (r5, r6)) fun r7 => some r7 else none
theorem yvx : EV [q57, yzq, yB6, yB7] lpN 113 Tryz.f113 yoO y16 [(.sl 5 yF)] jE := fun x => by kernel_rfl
def yB8 : QF := ⟨113, jE, okN (n := 0) Tryz.func113 trivial yvx⟩
def zq (x : y7K) : Option y7K :=
 Option.bind (ZL x) fun r1 => Option.bind (Js (x.1, x.2.1, x.2.2.1, x.2.2.2.1, x.2.2.2.2.1, x.2.2.2.2.2.1, x.2.2.2.2.2.2.1, x.2.2.2.2.2.2.2.1, x.2.2.2.2.2.2.2.2.1, x.2.2.2.2.2.2.2.2.2.1, x.2.2.2.2.2.2.2.2.2.2.1, x.2.2.2.2.2.2.2.2.2.2.2.1, x.2.2.2.2.2.2.2.2.2.2.2.2, (0 : Int))) fun r2 => Option.bind (bif (!r2) then some true else some x.2.2.2.1) fun u3 => Option.bind (bif u3 then some true else some (x.2.2.2.2.2.2.2.2.2.2.1 == (50000 : Int))) fun u4 => bif u4 then some r1 else Option.bind (Jq (x.2.2.2.2.1, x.2.2.2.2.2.1, x.2.2.2.2.2.2.1, x.2.2.2.2.2.2.2.1, x.2.2.2.2.2.2.2.2.1, x.2.2.2.2.2.2.2.2.2.1)) fun r5 => Option.bind (KD r5) fun r6 => Option.bind (zy (x.1, x.2.1, x.2.2.1, x.2.2.2.1)) fun r7 => Option.bind (Z0 (r7.1, r7.2.1, r7.2.2.1, r7.2.2.2, (Int.tmod (Go.IntKind.wrap .i64 (x.2.2.2.2.2.2.2.2.2.2.1 + (1 : Int))) (2 : Int)), r5)) fun r8 => Option.bind (zy r8) fun r9 => Option.bind (jE ((Go.IntKind.wrap .i64 (x.2.2.2.2.2.2.2.2.2.2.1 + (1 : Int))), (Int.tmod (Go.IntKind.wrap .i64 (x.2.2.2.2.2.2.2.2.2.2.1 + (1 : Int))) (2 : Int)), (List.length r5 : Int), r6, x.2.2.2.2.2.2.2.2.2.2.2.2)) fun r10 => Option.bind (Yi (r9.1, r9.2.1, r9.2.2.1, r9.2.2.2, (Int.tmod (Go.IntKind.wrap .i64 (x.2.2.2.2.2.2.2.2.2.2.1 + (1 : Int))) (2 : Int)), r10)) fun r11 => Option.bind (zy r11) fun r12 => bif (!r12.2.2.2) then some (r12.1, r12.2.1, r12.2.2.1, r12.2.2.2, r1.2.2.2.2.1, r1.2.2.2.2.2.1, r1.2.2.2.2.2.2.1, r1.2.2.2.2.2.2.2.1, r1.2.2.2.2.2.2.2.2.1, r1.2.2.2.2.2.2.2.2.2.1, (Go.IntKind.wrap .i64 (x.2.2.2.2.2.2.2.2.2.2.1 + (1 : Int))), x.2.2.2.2.2.2.2.2.2.2.2.2, r1.2.2.2.2.2.2.2.2.2.2.2.2) else some (r12.1, r12.2.1, r12.2.2.1, r12.2.2.2, r1.2.2.2.2)
theorem yB9 : EV [q13, yB1, yB2, yB3, yzq, yB5, yzr, yB8] lpN 40 Tryz.f40 yyJ qb qb zq := fun x => by kernel_rfl
def q40 : QF := ⟨40, zq, okN (n := 0) Tryz.func40 trivial yB9⟩
def wR (x : Int) : Option y9d :=
 Option.bind (yd (x, (1 : Int), (60 : Int))) fun r1 => bif (!r1) then some (([] : List y7), ([] : List yQ), (0 : Int), false) else if (0 : Int) ≤ x then if x ≤ x then if x * ((24 : Nat) : Int) ≤ 140737488351232 then some ((List.replicate (Int.toNat x) Kf), ([] : List yQ), (-1 : Int), false) else none else none else none
theorem yBa : EV [y9g] lpN 97 Tryz.f97 yyK [(.int .i64)] QT wR := fun x => by kernel_rfl
def q97 : QF := ⟨97, wR, okN (n := 0) Tryz.func97 trivial yBa⟩
def Vi (x : Unit) : Option Qz4 :=
 some (([(0 : Int)] : List yx), ([([] : List y9)] : List y8))
theorem yvy : EV [] lpN 172 Tryz.f172 yoP [] qz4 Vi := fun x => by kernel_rfl
def yBb : QF := ⟨172, Vi, okN (n := 0) Tryz.func172 trivial yvy⟩
def vv (x : Unit) : Option (List yb) :=
 if (0 : Int) ≤ (24 : Int) then if (24 : Int) ≤ (24 : Int) then if (24 : Int) * ((24 : Nat) : Int) ≤ 140737488351232 then some (List.replicate (Int.toNat (24 : Int)) JZ) else none else none else none
theorem yvz : EV [] lpN 173 Tryz.f173 yoQ [] [(.sl 95 yl)] vv := fun x => by kernel_rfl
def yBc : QF := ⟨173, vv, okN (n := 0) Tryz.func173 trivial yvz⟩
def Vj (x : Unit) : Option Qz5 :=
 Option.bind (Vi ()) fun r1 => Option.bind (vv ()) fun r2 => some (r1.1, r1.2, ([] : List yq), r2, ([] : List yD), (1 : Int))
theorem yBd : EV [yBb, yBc] lpN 98 Tryz.f98 yyL [] qz5 Vj := fun x => by kernel_rfl
def q98 : QF := ⟨98, Vj, okN (n := 0) Tryz.func98 trivial yBd⟩
def jX (x : Unit) : Option y7K :=
 Option.bind (wR (60 : Int)) fun r1 => Option.bind (Vj ()) fun r2 => Option.bind (zq (r1.1, r1.2.1, r1.2.2.1, r1.2.2.2, r2.1, r2.2.1, r2.2.2.1, r2.2.2.2.1, r2.2.2.2.2.1, r2.2.2.2.2.2, (0 : Int), (1 : Int), (1 : Int))) fun r3 => some r3
theorem yBe : EV [q40, q97, q98] lpN 31 Tryz.f31 yyM [] qb jX := fun x => by kernel_rfl
def q31 : QF := ⟨31, jX, okN (n := 0) Tryz.func31 trivial yBe⟩
abbrev vw : Type := ym2
def wS (k0 : Bool → Option R) (k1 : Unit → Option R) (again : vw → Option R) (t4 : vw) : Option R :=
 bif (decide (t4.2.2 < (List.length t4.1 : Int))) then if (0 : Int) ≤ t4.2.2 then if t4.2.2 < (List.length t4.1 : Int) then if (0 : Int) ≤ t4.2.2 then if t4.2.2 < (List.length t4.2.1 : Int) then bif ((zI t4.1 t4.2.2) != (zI t4.2.1 t4.2.2)) then k0 false else again (t4.1, t4.2.1, (Go.IntKind.wrap .i64 (t4.2.2 + (1 : Int)))) else none else none else none else none else k1 ()
def Qp k0 k1 := z6 (@wS R k0 k1) zd
def wT (x : yt0) : Option Bool :=
 bif ((List.length x.1 : Int) != (List.length x.2 : Int)) then some false else Qp (fun x1 => some x1) (fun x2 => some true) (x.1, x.2, (0 : Int))
def ykg : List QF := []
def y78 (t : ym2) : St := ⟨zn t.1 :: zn t.2.1 :: dd 3 (vI t.2.2 :: dd 20 []), []⟩
def yi2 : Gk vw := fun κ => wS (fun t => κ none ⟨dd 4 (vB t :: dd 21 []), []⟩) (fun t => κ (some 0) ⟨dd 26 [], []⟩)
def ykh : Lp := lpC 4 (unG ym3 y78) @yi2 lpN
theorem yrp : LF ykg ykh 139 4 Tryz.f139 0 y78 @yi2 fun t => t := fun R κ again t => by kernel_rfl
theorem yrq : LK ykg ykh 139 Tryz.f139 0 := lkN (u := (unG ym3 y78)) (yf fun t => by kernel_rfl) yrp
theorem yvA : EV ykg ykh 139 Tryz.f139 yoR yt1 [.bool] wT := fun x => by kernel_rfl
def yBf : QF := ⟨139, wT, okN (n := 1) Tryz.func139 ⟨yrq, trivial⟩ yvA⟩
def vW (x : yln) : Option Bool :=
 bif (x.1 != x.2.2.2.2.2.1) then some false else bif (x.2.1 != x.2.2.2.2.2.2.1) then some false else bif (x.2.2.1 != x.2.2.2.2.2.2.2.1) then some false else bif (x.2.2.2.1 != x.2.2.2.2.2.2.2.2.1) then some false else bif (x.2.2.2.2.1 != x.2.2.2.2.2.2.2.2.2) then some false else some true
theorem yvB : EV [] lpN 303 Tryz.f303 yoS ylo [.bool] vW := fun x => by kernel_rfl
def yBg : QF := ⟨303, vW, okN (n := 0) Tryz.func303 trivial yvB⟩
abbrev vx : Type := ym4
def wU (k0 : Bool → Option R) (k1 : Unit → Option R) (again : vx → Option R) (t4 : vx) : Option R :=
 bif (decide (t4.2.2 < (List.length t4.1 : Int))) then if (0 : Int) ≤ t4.2.2 then if t4.2.2 < (List.length t4.1 : Int) then if (0 : Int) ≤ t4.2.2 then if t4.2.2 < (List.length t4.2.1 : Int) then Option.bind (vW ((y0 t4.1 t4.2.2).1, (y0 t4.1 t4.2.2).2.1, (y0 t4.1 t4.2.2).2.2.1, (y0 t4.1 t4.2.2).2.2.2.1, (y0 t4.1 t4.2.2).2.2.2.2, (y0 t4.2.1 t4.2.2).1, (y0 t4.2.1 t4.2.2).2.1, (y0 t4.2.1 t4.2.2).2.2.1, (y0 t4.2.1 t4.2.2).2.2.2.1, (y0 t4.2.1 t4.2.2).2.2.2.2)) fun r1 => bif (!r1) then k0 false else again (t4.1, t4.2.1, (Go.IntKind.wrap .i64 (t4.2.2 + (1 : Int)))) else none else none else none else none else k1 ()
def Qq k0 k1 := z6 (@wU R k0 k1) zd
def Zu (x : ysO) : Option Bool :=
 bif ((List.length x.1 : Int) != (List.length x.2 : Int)) then some false else Qq (fun x2 => some x2) (fun x3 => some true) (x.1, x.2, (0 : Int))
def yki : List QF := [yBg]
def y79 (t : ym4) : St := ⟨Vx t.1 :: Vx t.2.1 :: dd 3 (vI t.2.2 :: dd 21 []), []⟩
def yi3 : Gk vx := fun κ => wU (fun t => κ none ⟨dd 4 (vB t :: dd 22 []), []⟩) (fun t => κ (some 0) ⟨dd 27 [], []⟩)
def ykj : Lp := lpC 4 (unG ym5 y79) @yi3 lpN
theorem yrr : LF yki ykj 282 4 Tryz.f282 0 y79 @yi3 fun t => t := fun R κ again t => by kernel_rfl
theorem yrs : LK yki ykj 282 Tryz.f282 0 := lkN (u := (unG ym5 y79)) (yf fun t => by kernel_rfl) yrr
theorem yvC : EV yki ykj 282 Tryz.f282 yoT ysP [.bool] Zu := fun x => by kernel_rfl
def yBh : QF := ⟨282, Zu, okN (n := 1) Tryz.func282 ⟨yrs, trivial⟩ yvC⟩
abbrev K4 : Type := ym6
def JB (k0 : Bool → Option R) (k1 : Unit → Option R) (again : K4 → Option R) (t4 : K4) : Option R :=
 bif (decide (t4.2.2 < (List.length t4.1 : Int))) then if (0 : Int) ≤ t4.2.2 then if t4.2.2 < (List.length t4.1 : Int) then if (0 : Int) ≤ t4.2.2 then if t4.2.2 < (List.length t4.2.1 : Int) then Option.bind (Zu ((yh t4.1 t4.2.2), (yh t4.2.1 t4.2.2))) fun r1 => bif (!r1) then k0 false else again (t4.1, t4.2.1, (Go.IntKind.wrap .i64 (t4.2.2 + (1 : Int)))) else none else none else none else none else k1 ()
def qz k0 k1 := z6 (@JB R k0 k1) zd
def Ju (x : ym8) : Option Bool :=
 bif ((List.length x.1 : Int) != (List.length x.2 : Int)) then some false else qz (fun x2 => some x2) (fun x3 => some true) (x.1, x.2, (0 : Int))
def ykk : List QF := [yBh]
def y7a (t : ym6) : St := ⟨zH t.1 :: zH t.2.1 :: dd 3 (vI t.2.2 :: dd 21 []), []⟩
def yi4 : Gk K4 := fun κ => JB (fun t => κ none ⟨dd 4 (vB t :: dd 22 []), []⟩) (fun t => κ (some 0) ⟨dd 27 [], []⟩)
def ykl : Lp := lpC 4 (unG ym7 y7a) @yi4 lpN
theorem yrt : LF ykk ykl 253 4 Tryz.f253 0 y7a @yi4 fun t => t := fun R κ again t => by kernel_rfl
theorem yru : LK ykk ykl 253 Tryz.f253 0 := lkN (u := (unG ym7 y7a)) (yf fun t => by kernel_rfl) yrt
theorem yvD : EV ykk ykl 253 Tryz.f253 yoU ym9 [.bool] Ju := fun x => by kernel_rfl
def yBi : QF := ⟨253, Ju, okN (n := 1) Tryz.func253 ⟨yru, trivial⟩ yvD⟩
def jY (x : ym8) : Option Bool :=
 Option.bind (Ju x) fun r1 => bif (!r1) then some false else some true
theorem yvE : EV [yBi] lpN 216 Tryz.f216 yoV ym9 [.bool] jY := fun x => by kernel_rfl
def yBj : QF := ⟨216, jY, okN (n := 0) Tryz.func216 trivial yvE⟩
abbrev K5 : Type := yma
def JC (k0 : Bool → Option R) (k1 : Unit → Option R) (again : K5 → Option R) (t4 : K5) : Option R :=
 bif (decide (t4.2.2 < (List.length t4.1 : Int))) then if (0 : Int) ≤ t4.2.2 then if t4.2.2 < (List.length t4.1 : Int) then if (0 : Int) ≤ t4.2.2 then if t4.2.2 < (List.length t4.2.1 : Int) then Option.bind (jY ((yn t4.1 t4.2.2), (yn t4.2.1 t4.2.2))) fun r1 => bif (!r1) then k0 false else again (t4.1, t4.2.1, (Go.IntKind.wrap .i64 (t4.2.2 + (1 : Int)))) else none else none else none else none else k1 ()
def qA k0 k1 := z6 (@JC R k0 k1) zd
def ZV (x : yt2) : Option Bool :=
 bif ((List.length x.1 : Int) != (List.length x.2 : Int)) then some false else qA (fun x2 => some x2) (fun x3 => some true) (x.1, x.2, (0 : Int))
def ykm : List QF := [yBj]
def y7b (t : yma) : St := ⟨yH t.1 :: yH t.2.1 :: dd 3 (vI t.2.2 :: dd 21 []), []⟩
def yi5 : Gk K5 := fun κ => JC (fun t => κ none ⟨dd 4 (vB t :: dd 22 []), []⟩) (fun t => κ (some 0) ⟨dd 27 [], []⟩)
def ykn : Lp := lpC 4 (unG ymb y7b) @yi5 lpN
theorem yrv : LF ykm ykn 140 4 Tryz.f140 0 y7b @yi5 fun t => t := fun R κ again t => by kernel_rfl
theorem yrw : LK ykm ykn 140 Tryz.f140 0 := lkN (u := (unG ymb y7b)) (yf fun t => by kernel_rfl) yrv
theorem yvF : EV ykm ykn 140 Tryz.f140 yoW yt3 [.bool] ZV := fun x => by kernel_rfl
def yBk : QF := ⟨140, ZV, okN (n := 1) Tryz.func140 ⟨yrw, trivial⟩ yvF⟩
def Kv (x : yt4) : Option Bool :=
 Option.bind (wT (x.1, x.2.2.1)) fun r1 => bif (!r1) then some false else Option.bind (ZV (x.2.1, x.2.2.2)) fun r2 => bif (!r2) then some false else some true
theorem yBl : EV [yBf, yBk] lpN 61 Tryz.f61 yyN yt5 [.bool] Kv := fun x => by kernel_rfl
def q61 : QF := ⟨61, Kv, okN (n := 0) Tryz.func61 trivial yBl⟩
def vX (x : yt6) : Option Bool :=
 bif (x.1 != x.2.2.1) then some false else bif (x.2.1 != x.2.2.2) then some false else some true
theorem yvG : EV [] lpN 141 Tryz.f141 yoX yt7 [.bool] vX := fun x => by kernel_rfl
def yBm : QF := ⟨141, vX, okN (n := 0) Tryz.func141 trivial yvG⟩
abbrev vy : Type := ymc
def wV (k0 : Bool → Option R) (k1 : Unit → Option R) (again : vy → Option R) (t4 : vy) : Option R :=
 bif (decide (t4.2.2 < (List.length t4.1 : Int))) then if (0 : Int) ≤ t4.2.2 then if t4.2.2 < (List.length t4.1 : Int) then if (0 : Int) ≤ t4.2.2 then if t4.2.2 < (List.length t4.2.1 : Int) then Option.bind (vX ((z8 t4.1 t4.2.2).1, (z8 t4.1 t4.2.2).2, (z8 t4.2.1 t4.2.2).1, (z8 t4.2.1 t4.2.2).2)) fun r1 => bif (!r1) then k0 false else again (t4.1, t4.2.1, (Go.IntKind.wrap .i64 (t4.2.2 + (1 : Int)))) else none else none else none else none else k1 ()
def Qr k0 k1 := z6 (@wV R k0 k1) zd
def wW (x : yt8) : Option Bool :=
 bif ((List.length x.1 : Int) != (List.length x.2 : Int)) then some false else Qr (fun x2 => some x2) (fun x3 => some true) (x.1, x.2, (0 : Int))
def yvH : List QF := [yBm]
def y9X (t : ymc) : St := ⟨zv t.1 :: zv t.2.1 :: dd 3 (vI t.2.2 :: dd 21 []), []⟩
def yrx : Gk vy := fun κ => wV (fun t => κ none ⟨dd 4 (vB t :: dd 22 []), []⟩) (fun t => κ (some 0) ⟨dd 27 [], []⟩)
def yvI : Lp := lpC 4 (unG ymd y9X) @yrx lpN
theorem yvJ : LF yvH yvI 62 4 Tryz.f62 0 y9X @yrx fun t => t := fun R κ again t => by kernel_rfl
theorem yvK : LK yvH yvI 62 Tryz.f62 0 := lkN (u := (unG ymd y9X)) (yf fun t => by kernel_rfl) yvJ
theorem yBn : EV yvH yvI 62 Tryz.f62 yyO yt9 [.bool] wW := fun x => by kernel_rfl
def q62 : QF := ⟨62, wW, okN (n := 1) Tryz.func62 ⟨yvK, trivial⟩ yBn⟩
def Kw (x : yta) : Option Bool :=
 bif (x.1 != x.2.2.2.1) then some false else bif (!(x.2.1 == x.2.2.2.2.1)) then some false else bif (x.2.2.1 != x.2.2.2.2.2) then some false else some true
theorem yvL : EV [] lpN 142 Tryz.f142 yoY ytb [.bool] Kw := fun x => by kernel_rfl
def yBo : QF := ⟨142, Kw, okN (n := 0) Tryz.func142 trivial yvL⟩
abbrev K6 : Type := yme
def JD (k0 : Bool → Option R) (k1 : Unit → Option R) (again : K6 → Option R) (t4 : K6) : Option R :=
 bif (decide (t4.2.2 < (List.length t4.1 : Int))) then if (0 : Int) ≤ t4.2.2 then if t4.2.2 < (List.length t4.1 : Int) then if (0 : Int) ≤ t4.2.2 then if t4.2.2 < (List.length t4.2.1 : Int) then Option.bind (Kw ((ym t4.1 t4.2.2).1, (ym t4.1 t4.2.2).2.1, (ym t4.1 t4.2.2).2.2, (ym t4.2.1 t4.2.2).1, (ym t4.2.1 t4.2.2).2.1, (ym t4.2.1 t4.2.2).2.2)) fun r1 => bif (!r1) then k0 false else again (t4.1, t4.2.1, (Go.IntKind.wrap .i64 (t4.2.2 + (1 : Int)))) else none else none else none else none else k1 ()
def qB k0 k1 := z6 (@JD R k0 k1) zd
def Jv (x : ytc) : Option Bool :=
 bif ((List.length x.1 : Int) != (List.length x.2 : Int)) then some false else qB (fun x2 => some x2) (fun x3 => some true) (x.1, x.2, (0 : Int))
def yvM : List QF := [yBo]
def y9Y (t : yme) : St := ⟨yV t.1 :: yV t.2.1 :: dd 3 (vI t.2.2 :: dd 21 []), []⟩
def yry : Gk K6 := fun κ => JD (fun t => κ none ⟨dd 4 (vB t :: dd 22 []), []⟩) (fun t => κ (some 0) ⟨dd 27 [], []⟩)
def yvN : Lp := lpC 4 (unG ymf y9Y) @yry lpN
theorem yvO : LF yvM yvN 63 4 Tryz.f63 0 y9Y @yry fun t => t := fun R κ again t => by kernel_rfl
theorem yvP : LK yvM yvN 63 Tryz.f63 0 := lkN (u := (unG ymf y9Y)) (yf fun t => by kernel_rfl) yvO
theorem yBp : EV yvM yvN 63 Tryz.f63 yyP ytd [.bool] Jv := fun x => by kernel_rfl
def q63 : QF := ⟨63, Jv, okN (n := 1) Tryz.func63 ⟨yvP, trivial⟩ yBp⟩
def vY (x : yyc) : Option Bool :=
 bif (!((ByteArray.toList x.1) == (ByteArray.toList x.2.2.2.2.1))) then some false else bif (x.2.1 != x.2.2.2.2.2.1) then some false else bif (x.2.2.1 != x.2.2.2.2.2.2.1) then some false else bif (!(x.2.2.2.1 == x.2.2.2.2.2.2.2)) then some false else some true
theorem yvQ : EV [] lpN 143 Tryz.f143 yoZ yyd [.bool] vY := fun x => by kernel_rfl
def yBq : QF := ⟨143, vY, okN (n := 0) Tryz.func143 trivial yvQ⟩
abbrev vz : Type := ymg
def wX (k0 : Bool → Option R) (k1 : Unit → Option R) (again : vz → Option R) (t4 : vz) : Option R :=
 bif (decide (t4.2.2 < (List.length t4.1 : Int))) then if (0 : Int) ≤ t4.2.2 then if t4.2.2 < (List.length t4.1 : Int) then if (0 : Int) ≤ t4.2.2 then if t4.2.2 < (List.length t4.2.1 : Int) then Option.bind (vY ((yo t4.1 t4.2.2).1, (yo t4.1 t4.2.2).2.1, (yo t4.1 t4.2.2).2.2.1, (yo t4.1 t4.2.2).2.2.2, (yo t4.2.1 t4.2.2).1, (yo t4.2.1 t4.2.2).2.1, (yo t4.2.1 t4.2.2).2.2.1, (yo t4.2.1 t4.2.2).2.2.2)) fun r1 => bif (!r1) then k0 false else again (t4.1, t4.2.1, (Go.IntKind.wrap .i64 (t4.2.2 + (1 : Int)))) else none else none else none else none else k1 ()
def Qs k0 k1 := z6 (@wX R k0 k1) zd
def wY (x : yte) : Option Bool :=
 bif ((List.length x.1 : Int) != (List.length x.2 : Int)) then some false else Qs (fun x2 => some x2) (fun x3 => some true) (x.1, x.2, (0 : Int))
def yvR : List QF := [yBq]
def y9Z (t : ymg) : St := ⟨Y4 t.1 :: Y4 t.2.1 :: dd 3 (vI t.2.2 :: dd 21 []), []⟩
def yrz : Gk vz := fun κ => wX (fun t => κ none ⟨dd 4 (vB t :: dd 22 []), []⟩) (fun t => κ (some 0) ⟨dd 27 [], []⟩)
def yvS : Lp := lpC 4 (unG ymh y9Z) @yrz lpN
theorem yvT : LF yvR yvS 64 4 Tryz.f64 0 y9Z @yrz fun t => t := fun R κ again t => by kernel_rfl
theorem yvU : LK yvR yvS 64 Tryz.f64 0 := lkN (u := (unG ymh y9Z)) (yf fun t => by kernel_rfl) yvT
theorem yBr : EV yvR yvS 64 Tryz.f64 yyQ ytf [.bool] wY := fun x => by kernel_rfl
def q64 : QF := ⟨64, wY, okN (n := 1) Tryz.func64 ⟨yvU, trivial⟩ yBr⟩
def wZ (x : ytg) : Option Bool :=
 Option.bind (Kv (x.1, x.2.1, x.2.2.2.2.2.2.1, x.2.2.2.2.2.2.2.1)) fun r1 => bif (!r1) then some false else Option.bind (wW (x.2.2.1, x.2.2.2.2.2.2.2.2.1)) fun r2 => bif (!r2) then some false else Option.bind (Jv (x.2.2.2.1, x.2.2.2.2.2.2.2.2.2.1)) fun r3 => bif (!r3) then some false else Option.bind (wY (x.2.2.2.2.1, x.2.2.2.2.2.2.2.2.2.2.1)) fun r4 => bif (!r4) then some false else bif (x.2.2.2.2.2.1 != x.2.2.2.2.2.2.2.2.2.2.2) then some false else some true
theorem yBs : EV [q61, q62, q63, q64] lpN 15 Tryz.f15 yyR yth [.bool] wZ := fun x => by kernel_rfl
def q15 : QF := ⟨15, wZ, okN (n := 0) Tryz.func15 trivial yBs⟩
abbrev K7 : Type := ymi
def K8 (k0 : Bool → Option R) (k1 : Unit → Option R) (again : K7 → Option R) (t4 : K7) : Option R :=
 bif (decide (t4.2.2 < (List.length t4.1 : Int))) then if (0 : Int) ≤ t4.2.2 then if t4.2.2 < (List.length t4.1 : Int) then if (0 : Int) ≤ t4.2.2 then if t4.2.2 < (List.length t4.2.1 : Int) then bif ((y9O t4.1 t4.2.2) != (y9O t4.2.1 t4.2.2)) then k0 false else again (t4.1, t4.2.1, (Go.IntKind.wrap .i64 (t4.2.2 + (1 : Int)))) else none else none else none else none else k1 ()
def qC k0 k1 := z6 (@K8 R k0 k1) zd
def zw (x : yti) : Option Bool :=
 bif ((List.length x.1 : Int) != (List.length x.2 : Int)) then some false else qC (fun x1 => some x1) (fun x2 => some true) (x.1, x.2, (0 : Int))
def yvV : List QF := []
def ya0 (t : ymi) : St := ⟨ydw t.1 :: ydw t.2.1 :: dd 3 (vI t.2.2 :: dd 20 []), []⟩
def yrA : Gk K7 := fun κ => K8 (fun t => κ none ⟨dd 4 (vB t :: dd 21 []), []⟩) (fun t => κ (some 0) ⟨dd 26 [], []⟩)
def yvW : Lp := lpC 4 (unG ymj ya0) @yrA lpN
theorem yvX : LF yvV yvW 14 4 Tryz.f14 0 ya0 @yrA fun t => t := fun R κ again t => by kernel_rfl
theorem yvY : LK yvV yvW 14 Tryz.f14 0 := lkN (u := (unG ymj ya0)) (yf fun t => by kernel_rfl) yvX
theorem yBt : EV yvV yvW 14 Tryz.f14 yyS ytj [.bool] zw := fun x => by kernel_rfl
def q14 : QF := ⟨14, zw, okN (n := 1) Tryz.func14 ⟨yvY, trivial⟩ yBt⟩
abbrev kb : Type := ymk
def jZ (k0 : Bool → Option R) (k1 : Unit → Option R) (again : kb → Option R) (t4 : kb) : Option R :=
 bif (decide (t4.2.2 < (List.length t4.1 : Int))) then if (0 : Int) ≤ t4.2.2 then if t4.2.2 < (List.length t4.1 : Int) then if (0 : Int) ≤ t4.2.2 then if t4.2.2 < (List.length t4.2.1 : Int) then Option.bind (zw ((zL t4.1 t4.2.2), (zL t4.2.1 t4.2.2))) fun r1 => bif (!r1) then k0 false else again (t4.1, t4.2.1, (Go.IntKind.wrap .i64 (t4.2.2 + (1 : Int)))) else none else none else none else none else k1 ()
def VF k0 k1 := z6 (@jZ R k0 k1) zd
def jF (x : ytk) : Option Bool :=
 bif ((List.length x.1 : Int) != (List.length x.2 : Int)) then some false else VF (fun x2 => some x2) (fun x3 => some true) (x.1, x.2, (0 : Int))
def yvZ : List QF := [q14]
def ya1 (t : ymk) : St := ⟨Yt t.1 :: Yt t.2.1 :: dd 3 (vI t.2.2 :: dd 21 []), []⟩
def yrB : Gk kb := fun κ => jZ (fun t => κ none ⟨dd 4 (vB t :: dd 22 []), []⟩) (fun t => κ (some 0) ⟨dd 27 [], []⟩)
def yw0 : Lp := lpC 4 (unG yml ya1) @yrB lpN
theorem yw1 : LF yvZ yw0 79 4 Tryz.f79 0 ya1 @yrB fun t => t := fun R κ again t => by kernel_rfl
theorem yw2 : LK yvZ yw0 79 Tryz.f79 0 := lkN (u := (unG yml ya1)) (yf fun t => by kernel_rfl) yw1
theorem yBu : EV yvZ yw0 79 Tryz.f79 yyT ytl [.bool] jF := fun x => by kernel_rfl
def q79 : QF := ⟨79, jF, okN (n := 1) Tryz.func79 ⟨yw2, trivial⟩ yBu⟩
def qe (x : ytm) : Option Bool :=
 bif (x.1 != x.2.2.1) then some false else Option.bind (zw (x.2.1, x.2.2.2)) fun r1 => bif (!r1) then some false else some true
theorem yw3 : EV [q14] lpN 162 Tryz.f162 yp0 ytn [.bool] qe := fun x => by kernel_rfl
def yBv : QF := ⟨162, qe, okN (n := 0) Tryz.func162 trivial yw3⟩
abbrev Vk : Type := ymm
def kv (k0 : Bool → Option R) (k1 : Unit → Option R) (again : Vk → Option R) (t4 : Vk) : Option R :=
 bif (decide (t4.2.2 < (List.length t4.1 : Int))) then if (0 : Int) ≤ t4.2.2 then if t4.2.2 < (List.length t4.1 : Int) then if (0 : Int) ≤ t4.2.2 then if t4.2.2 < (List.length t4.2.1 : Int) then Option.bind (qe ((yW t4.1 t4.2.2).1, (yW t4.1 t4.2.2).2, (yW t4.2.1 t4.2.2).1, (yW t4.2.1 t4.2.2).2)) fun r1 => bif (!r1) then k0 false else again (t4.1, t4.2.1, (Go.IntKind.wrap .i64 (t4.2.2 + (1 : Int)))) else none else none else none else none else k1 ()
def y04 k0 k1 := z6 (@kv R k0 k1) zd
def kG (x : yto) : Option Bool :=
 bif ((List.length x.1 : Int) != (List.length x.2 : Int)) then some false else y04 (fun x2 => some x2) (fun x3 => some true) (x.1, x.2, (0 : Int))
def yw4 : List QF := [yBv]
def ya2 (t : ymm) : St := ⟨QS t.1 :: QS t.2.1 :: dd 3 (vI t.2.2 :: dd 21 []), []⟩
def yrC : Gk Vk := fun κ => kv (fun t => κ none ⟨dd 4 (vB t :: dd 22 []), []⟩) (fun t => κ (some 0) ⟨dd 27 [], []⟩)
def yw5 : Lp := lpC 4 (unG ymn ya2) @yrC lpN
theorem yw6 : LF yw4 yw5 80 4 Tryz.f80 0 ya2 @yrC fun t => t := fun R κ again t => by kernel_rfl
theorem yw7 : LK yw4 yw5 80 Tryz.f80 0 := lkN (u := (unG ymn ya2)) (yf fun t => by kernel_rfl) yw6
theorem yBw : EV yw4 yw5 80 Tryz.f80 yyU ytp [.bool] kG := fun x => by kernel_rfl
def q80 : QF := ⟨80, kG, okN (n := 1) Tryz.func80 ⟨yw7, trivial⟩ yBw⟩
def kH (x : ytq) : Option Bool :=
 Option.bind (jF (x.1, x.2.2.2.2.1)) fun r1 => bif (!r1) then some false else Option.bind (kG (x.2.1, x.2.2.2.2.2.1)) fun r2 => bif (!r2) then some false else bif (x.2.2.1 != x.2.2.2.2.2.2.1) then some false else bif (!(x.2.2.2.1 == x.2.2.2.2.2.2.2)) then some false else some true
theorem yBx : EV [q79, q80] lpN 24 Tryz.f24 yyV ytr [.bool] kH := fun x => by kernel_rfl
def q24 : QF := ⟨24, kH, okN (n := 0) Tryz.func24 trivial yBx⟩
def ZW (x : yts) : Option Bool :=
 Option.bind (kH (x.1, x.2.1, x.2.2.1, x.2.2.2.1, x.2.2.2.2.2.2.2.2.2.2.2.2.2.1, x.2.2.2.2.2.2.2.2.2.2.2.2.2.2.1, x.2.2.2.2.2.2.2.2.2.2.2.2.2.2.2.1, x.2.2.2.2.2.2.2.2.2.2.2.2.2.2.2.2.1)) fun r1 => bif (!r1) then some false else Option.bind (wZ (x.2.2.2.2.1, x.2.2.2.2.2.1, x.2.2.2.2.2.2.1, x.2.2.2.2.2.2.2.1, x.2.2.2.2.2.2.2.2.1, x.2.2.2.2.2.2.2.2.2.1, x.2.2.2.2.2.2.2.2.2.2.2.2.2.2.2.2.2.1, x.2.2.2.2.2.2.2.2.2.2.2.2.2.2.2.2.2.2.1, x.2.2.2.2.2.2.2.2.2.2.2.2.2.2.2.2.2.2.2.1, x.2.2.2.2.2.2.2.2.2.2.2.2.2.2.2.2.2.2.2.2.1, x.2.2.2.2.2.2.2.2.2.2.2.2.2.2.2.2.2.2.2.2.2.1, x.2.2.2.2.2.2.2.2.2.2.2.2.2.2.2.2.2.2.2.2.2.2.1)) fun r2 => bif (!r2) then some false else bif (x.2.2.2.2.2.2.2.2.2.2.1 != x.2.2.2.2.2.2.2.2.2.2.2.2.2.2.2.2.2.2.2.2.2.2.2.1) then some false else bif (x.2.2.2.2.2.2.2.2.2.2.2.1 != x.2.2.2.2.2.2.2.2.2.2.2.2.2.2.2.2.2.2.2.2.2.2.2.2.1) then some false else bif (x.2.2.2.2.2.2.2.2.2.2.2.2.1 != x.2.2.2.2.2.2.2.2.2.2.2.2.2.2.2.2.2.2.2.2.2.2.2.2.2) then some false else some true
theorem yBy : EV [q15, q24] lpN 32 Tryz.f32 yyW ytt [.bool] ZW := fun x => by kernel_rfl
def q32 : QF := ⟨32, ZW, okN (n := 0) Tryz.func32 trivial yBy⟩
abbrev kc : Type := ymo
def Z1 (k0 : ymq → Option R) (again : kc → Option R) (t2 : kc) : Option R :=
 bif (decide (t2.2.1 < (List.length t2.2.2 : Int))) then if (0 : Int) ≤ t2.2.1 then if t2.2.1 < (List.length t2.2.2 : Int) then again ((Go.IntKind.wrap .i64 (t2.1 + (1 : Int))), (Go.IntKind.wrap .i64 (t2.2.1 + (1 : Int))), (List.set t2.2.2 (Int.toNat t2.2.1) t2.1)) else none else none else k0 (t2.1, t2.2.2)
def VG k0 := z6 (@Z1 R k0) zd
def jG (x : ymr) : Option ymq :=
 VG (fun x1 => some x1) (x.2, (0 : Int), x.1)
def yko : List QF := []
def y7c (t : ymo) : St := ⟨.own 10000000 :: vI t.1 :: dd 3 (vI t.2.1 :: dd 13 []), [(10000000, .deep true 1 3 yu t.2.2)]⟩
def yi6 : Gk kc := fun κ => Z1 (fun t => κ (some 0) ⟨.own 10000000 :: vI t.1 :: dd 17 [], [(10000000, .deep true 1 3 yu t.2)]⟩)
def ykp : Lp := lpC 2 (unG ymp y7c) @yi6 lpN
theorem yrD : LF yko ykp 144 2 Tryz.f144 0 y7c @yi6 fun t => t := fun R κ again t => by kernel_rfl
theorem yrE : LK yko ykp 144 Tryz.f144 0 := lkN (u := (unG ymp y7c)) (yf fun t => by kernel_rfl) yrD
theorem yw8 : EV yko ykp 144 Tryz.f144 yp1 yms ytu jG := fun x => by kernel_rfl
def yBz : QF := ⟨144, jG, okN (n := 1) Tryz.func144 ⟨yrE, trivial⟩ yw8⟩
abbrev ke : Type := ymt
def Z2 (k0 : ymv → Option R) (again : ke → Option R) (t2 : ke) : Option R :=
 bif (decide (t2.2.1 < (List.length t2.2.2 : Int))) then if (0 : Int) ≤ t2.2.1 then if t2.2.1 < (List.length t2.2.2 : Int) then if (0 : Int) ≤ t2.2.1 then if t2.2.1 < ((List.length (List.set t2.2.2 (Int.toNat t2.2.1) (t2.1, (y0 t2.2.2 t2.2.1).2)) : Nat) : Int) then if (0 : Int) ≤ t2.2.1 then if t2.2.1 < ((List.length (List.set (List.set t2.2.2 (Int.toNat t2.2.1) (t2.1, (y0 t2.2.2 t2.2.1).2)) (Int.toNat t2.2.1) ((y0 (List.set t2.2.2 (Int.toNat t2.2.1) (t2.1, (y0 t2.2.2 t2.2.1).2)) t2.2.1).1, (Go.IntKind.wrap .i64 (t2.1 + (1 : Int))), (y0 (List.set t2.2.2 (Int.toNat t2.2.1) (t2.1, (y0 t2.2.2 t2.2.1).2)) t2.2.1).2.2)) : Nat) : Int) then let l1 : List ya := (List.set (List.set (List.set t2.2.2 (Int.toNat t2.2.1) (t2.1, (y0 t2.2.2 t2.2.1).2)) (Int.toNat t2.2.1) ((y0 (List.set t2.2.2 (Int.toNat t2.2.1) (t2.1, (y0 t2.2.2 t2.2.1).2)) t2.2.1).1, (Go.IntKind.wrap .i64 (t2.1 + (1 : Int))), (y0 (List.set t2.2.2 (Int.toNat t2.2.1) (t2.1, (y0 t2.2.2 t2.2.1).2)) t2.2.1).2.2)) (Int.toNat t2.2.1) ((y0 (List.set (List.set t2.2.2 (Int.toNat t2.2.1) (t2.1, (y0 t2.2.2 t2.2.1).2)) (Int.toNat t2.2.1) ((y0 (List.set t2.2.2 (Int.toNat t2.2.1) (t2.1, (y0 t2.2.2 t2.2.1).2)) t2.2.1).1, (Go.IntKind.wrap .i64 (t2.1 + (1 : Int))), (y0 (List.set t2.2.2 (Int.toNat t2.2.1) (t2.1, (y0 t2.2.2 t2.2.1).2)) t2.2.1).2.2)) t2.2.1).1, (y0 (List.set (List.set t2.2.2 (Int.toNat t2.2.1) (t2.1, (y0 t2.2.2 t2.2.1).2)) (Int.toNat t2.2.1) ((y0 (List.set t2.2.2 (Int.toNat t2.2.1) (t2.1, (y0 t2.2.2 t2.2.1).2)) t2.2.1).1, (Go.IntKind.wrap .i64 (t2.1 + (1 : Int))), (y0 (List.set t2.2.2 (Int.toNat t2.2.1) (t2.1, (y0 t2.2.2 t2.2.1).2)) t2.2.1).2.2)) t2.2.1).2.1, (Go.IntKind.wrap .i64 ((Go.IntKind.wrap .i64 (t2.1 + (1 : Int))) + (1 : Int))), (y0 (List.set (List.set t2.2.2 (Int.toNat t2.2.1) (t2.1, (y0 t2.2.2 t2.2.1).2)) (Int.toNat t2.2.1) ((y0 (List.set t2.2.2 (Int.toNat t2.2.1) (t2.1, (y0 t2.2.2 t2.2.1).2)) t2.2.1).1, (Go.IntKind.wrap .i64 (t2.1 + (1 : Int))), (y0 (List.set t2.2.2 (Int.toNat t2.2.1) (t2.1, (y0 t2.2.2 t2.2.1).2)) t2.2.1).2.2)) t2.2.1).2.2.2)); if (0 : Int) ≤ t2.2.1 then if t2.2.1 < (List.length l1 : Int) then if (0 : Int) ≤ t2.2.1 then if t2.2.1 < ((List.length (List.set l1 (Int.toNat t2.2.1) ((y0 l1 t2.2.1).1, (y0 l1 t2.2.1).2.1, (y0 l1 t2.2.1).2.2.1, (Go.IntKind.wrap .i64 ((Go.IntKind.wrap .i64 ((Go.IntKind.wrap .i64 (t2.1 + (1 : Int))) + (1 : Int))) + (1 : Int))), (y0 l1 t2.2.1).2.2.2.2)) : Nat) : Int) then let l2 : List ya := (List.set (List.set l1 (Int.toNat t2.2.1) ((y0 l1 t2.2.1).1, (y0 l1 t2.2.1).2.1, (y0 l1 t2.2.1).2.2.1, (Go.IntKind.wrap .i64 ((Go.IntKind.wrap .i64 ((Go.IntKind.wrap .i64 (t2.1 + (1 : Int))) + (1 : Int))) + (1 : Int))), (y0 l1 t2.2.1).2.2.2.2)) (Int.toNat t2.2.1) ((y0 (List.set l1 (Int.toNat t2.2.1) ((y0 l1 t2.2.1).1, (y0 l1 t2.2.1).2.1, (y0 l1 t2.2.1).2.2.1, (Go.IntKind.wrap .i64 ((Go.IntKind.wrap .i64 ((Go.IntKind.wrap .i64 (t2.1 + (1 : Int))) + (1 : Int))) + (1 : Int))), (y0 l1 t2.2.1).2.2.2.2)) t2.2.1).1, (y0 (List.set l1 (Int.toNat t2.2.1) ((y0 l1 t2.2.1).1, (y0 l1 t2.2.1).2.1, (y0 l1 t2.2.1).2.2.1, (Go.IntKind.wrap .i64 ((Go.IntKind.wrap .i64 ((Go.IntKind.wrap .i64 (t2.1 + (1 : Int))) + (1 : Int))) + (1 : Int))), (y0 l1 t2.2.1).2.2.2.2)) t2.2.1).2.1, (y0 (List.set l1 (Int.toNat t2.2.1) ((y0 l1 t2.2.1).1, (y0 l1 t2.2.1).2.1, (y0 l1 t2.2.1).2.2.1, (Go.IntKind.wrap .i64 ((Go.IntKind.wrap .i64 ((Go.IntKind.wrap .i64 (t2.1 + (1 : Int))) + (1 : Int))) + (1 : Int))), (y0 l1 t2.2.1).2.2.2.2)) t2.2.1).2.2.1, (y0 (List.set l1 (Int.toNat t2.2.1) ((y0 l1 t2.2.1).1, (y0 l1 t2.2.1).2.1, (y0 l1 t2.2.1).2.2.1, (Go.IntKind.wrap .i64 ((Go.IntKind.wrap .i64 ((Go.IntKind.wrap .i64 (t2.1 + (1 : Int))) + (1 : Int))) + (1 : Int))), (y0 l1 t2.2.1).2.2.2.2)) t2.2.1).2.2.2.1, (Go.IntKind.wrap .i64 ((Go.IntKind.wrap .i64 ((Go.IntKind.wrap .i64 ((Go.IntKind.wrap .i64 (t2.1 + (1 : Int))) + (1 : Int))) + (1 : Int))) + (1 : Int))))); again ((Go.IntKind.wrap .i64 ((Go.IntKind.wrap .i64 ((Go.IntKind.wrap .i64 ((Go.IntKind.wrap .i64 ((Go.IntKind.wrap .i64 (t2.1 + (1 : Int))) + (1 : Int))) + (1 : Int))) + (1 : Int))) + (1 : Int))), (Go.IntKind.wrap .i64 (t2.2.1 + (1 : Int))), l2) else none else none else none else none else none else none else none else none else none else none else k0 (t2.1, t2.2.2)
def VH k0 := z6 (@Z2 R k0) zd
def Z3 (x : ykX) : Option ymv :=
 VH (fun x3 => some x3) (x.2, (0 : Int), x.1)
def ykq : List QF := []
def y7d (t : ymt) : St := ⟨.own 10000000 :: vI t.1 :: dd 3 (vI t.2.1 :: dd 42 []), [(10000000, .deep true 1 106 yj t.2.2)]⟩
def yi7 : Gk ke := fun κ => Z2 (fun t => κ (some 0) ⟨.own 10000000 :: vI t.1 :: dd 46 [], [(10000000, .deep true 1 106 yj t.2)]⟩)
def ykr : Lp := lpC 2 (unG ymu y7d) @yi7 lpN
theorem yrF : LF ykq ykr 254 2 Tryz.f254 0 y7d @yi7 fun t => t := fun R κ again t => by kernel_rfl
theorem yrG : LK ykq ykr 254 Tryz.f254 0 := lkN (u := (unG ymu y7d)) (yf fun t => by kernel_rfl) yrF
theorem yw9 : EV ykq ykr 254 Tryz.f254 yp2 ykY ytv Z3 := fun x => by kernel_rfl
def yBA : QF := ⟨254, Z3, okN (n := 1) Tryz.func254 ⟨yrG, trivial⟩ yw9⟩
abbrev W0 : Type := ysk
def j7 (k0 : Qz0 → Option R) (again : W0 → Option R) (t2 : W0) : Option R :=
 bif (decide (t2.2.1 < (List.length t2.2.2 : Int))) then if (0 : Int) ≤ t2.2.1 then if t2.2.1 < (List.length t2.2.2 : Int) then Option.bind (Z3 ((yh t2.2.2 t2.2.1), t2.1)) fun r1 => again (r1.1, (Go.IntKind.wrap .i64 (t2.2.1 + (1 : Int))), (List.set t2.2.2 (Int.toNat t2.2.1) r1.2)) else none else none else k0 (t2.1, t2.2.2)
def vZ k0 := z6 (@j7 R k0) zd
def Yo (x : ymw) : Option Qz0 :=
 vZ (fun x2 => some x2) (x.2, (0 : Int), x.1)
def yks : List QF := [yBA]
def y7e (t : ysk) : St := ⟨.own 10000000 :: vI t.1 :: dd 3 (vI t.2.1 :: dd 13 []), [(10000000, .deep true 1 100 yr t.2.2)]⟩
def yi8 : Gk W0 := fun κ => j7 (fun t => κ (some 0) ⟨.own 10000000 :: vI t.1 :: dd 17 [], [(10000000, .deep true 1 100 yr t.2)]⟩)
def ykt : Lp := lpC 2 (unG ysl y7e) @yi8 lpN
theorem yrH : LF yks ykt 217 2 Tryz.f217 0 y7e @yi8 fun t => t := fun R κ again t => by kernel_rfl
theorem yrI : LK yks ykt 217 Tryz.f217 0 := lkN (u := (unG ysl y7e)) (yf fun t => by kernel_rfl) yrH
theorem ywa : EV yks ykt 217 Tryz.f217 yp3 ymx qz0 Yo := fun x => by kernel_rfl
def yBB : QF := ⟨217, Yo, okN (n := 1) Tryz.func217 ⟨yrI, trivial⟩ ywa⟩
end
end Go.Proofs.YtmapoakbdgpamaaGreat.XN
