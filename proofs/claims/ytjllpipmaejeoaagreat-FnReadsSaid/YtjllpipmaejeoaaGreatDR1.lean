/- What functions compute, and that they do; part 1 of R; by a program (dec.py). No condition. -/
import Derived.Test.YtjllpipmaejeoaaGreatDR0
set_option linter.all false
namespace Go.Proofs.YtjllpipmaejeoaaGreat.XR
open Go.Proofs.YtjllpipmaejeoaaGreat.R
set_option maxRecDepth 100000
noncomputable section
variable {R : Type}
def zw (x : List y8) : Option (List y8) :=
 if (List.length ([] : List y8) + List.length x) * 24 < 140737488355328 then some (([] : List y8) ++ x) else none
theorem yA5 : EV [] lpN 81 Tryz.f81 yxo [(.sl 53 ye)] [(.sl 53 ye)] zw := fun x => by kernel_rfl
def q81 : QF := ⟨81, zw, okN (n := 0) Tryz.func81 trivial yA5⟩
def z3 (x : Qz9) : Option Qz9 :=
 Option.bind (zv (x.1, x.2.1)) fun r1 => Option.bind (WA x.2.2.1) fun r2 => Option.bind (zw x.2.2.2.1) fun r3 => if (List.length ([] : List yh) + List.length x.2.2.2.2.1) * 40 < 140737488355328 then some (r1.1, r1.2, r2, r3, (([] : List yh) ++ x.2.2.2.2.1), x.2.2.2.2.2) else none
theorem yA6 : EV [q79, q80, q81] lpN 39 Tryz.f39 yxp qz9 qz9 z3 := fun x => by kernel_rfl
def q39 : QF := ⟨39, z3, okN (n := 0) Tryz.func39 trivial yA6⟩
abbrev ve : Type := ykc
def Jb (k0 : Int → Option R) (k1 : Unit → Option R) (again : ve → Option R) (t2 : ve) : Option R :=
 bif (decide (t2.2.2 < t2.2.1)) then if (0 : Int) ≤ t2.2.2 then if t2.2.2 < (List.length t2.1 : Int) then bif (!((ym t2.1 t2.2.2).2.1)) then k0 t2.2.2 else again (t2.1, t2.2.1, (Go.IntKind.wrap .i64 (t2.2.2 + (1 : Int)))) else none else none else k1 ()
def Q8 k0 k1 := zL (@Jb R k0 k1) Y3
def WB (x : List y8) : Option Int :=
 Q8 (fun x1 => some x1) (fun x2 => some (-1 : Int)) (x, (List.length x : Int), (0 : Int))
def yuN : List QF := []
def y9q (t : ykc) : St := ⟨dd 5 (yW t.1 :: vI t.2.1 :: vI t.2.2 :: dd 9 []), []⟩
def ypL : Gk ve := fun κ => Jb (fun t => κ none ⟨dd 2 (vI t :: dd 14 []), []⟩) (fun t => κ (some 0) ⟨dd 17 [], []⟩)
def yuO : Lp := lpC 2 (unG ykd y9q) @ypL lpN
theorem yuP : LF yuN yuO 49 2 Tryz.f49 0 y9q @ypL fun t => t := fun R κ again t => by kernel_rfl
theorem yuQ : LK yuN yuO 49 Tryz.f49 0 := lkN (u := (unG ykd y9q)) (yw fun t => by kernel_rfl) yuP
theorem yA7 : EV yuN yuO 49 Tryz.f49 yxq [(.sl 53 ye)] [(.int .i64)] WB := fun x => by kernel_rfl
def q49 : QF := ⟨49, WB, okN (n := 1) Tryz.func49 ⟨yuQ, trivial⟩ yA7⟩
def Zz (x : yk9) : Option ywg :=
 Option.bind (zw x.1) fun r1 => Option.bind (WB x.1) fun r2 => Option.bind (bif (decide (r2 < (0 : Int))) then some true else Option.bind (ZU x.2) fun r4 => some (!r4)) fun u3 => Option.bind (bif u3 then some true else Option.bind (Zh x.1) fun r6 => some (!r6)) fun u5 => bif u5 then some (r1, (0 : Int), false) else if (0 : Int) ≤ r2 then if r2 < (List.length r1 : Int) then if (0 : Int) ≤ r2 then if r2 < ((List.length (List.set r1 (Int.toNat r2) ((ym r1 r2).1, true, (ym r1 r2).2.2)) : Nat) : Int) then some ((List.set (List.set r1 (Int.toNat r2) ((ym r1 r2).1, true, (ym r1 r2).2.2)) (Int.toNat r2) ((ym (List.set r1 (Int.toNat r2) ((ym r1 r2).1, true, (ym r1 r2).2.2)) r2).1, (ym (List.set r1 (Int.toNat r2) ((ym r1 r2).1, true, (ym r1 r2).2.2)) r2).2.1, x.2)), r2, true) else none else none else none else none
theorem yA8 : EV [q38, q49, q55, q81] lpN 40 Tryz.f40 yxr yka ywh Zz := fun x => by kernel_rfl
def q40 : QF := ⟨40, Zz, okN (n := 0) Tryz.func40 trivial yA8⟩
abbrev wq : Type := ylG
def ws (k0 : Int → Option R) (k1 : Unit → Option R) (again : wq → Option R) (t2 : wq) : Option R :=
 bif (decide (t2.2.2.1 ≥ (0 : Int))) then if (0 : Int) ≤ t2.2.2.1 then if t2.2.2.1 < (List.length t2.2.2.2.1 : Int) then Option.bind (Z3 (t2.1, t2.2.1)) fun r1 => bif (decide ((zt t2.2.2.2.1 t2.2.2.1) ≤ r1)) then k0 t2.2.2.1 else again (t2.1, t2.2.1, (Go.IntKind.wrap .i64 (t2.2.2.1 - (1 : Int))), t2.2.2.2.1, t2.2.2.2.2) else none else none else k1 ()
def qm k0 k1 := zL (@ws R k0 k1) Y3
def jv (x : yqw) : Option Int :=
 qm (fun x2 => some x2) (fun x3 => some (-1 : Int)) (x.2.2.1, x.2.2.2, (Go.IntKind.wrap .i64 ((List.length x.1 : Int) - (1 : Int))), x.1, x.2.1)
def yuR : List QF := [q92]
def y9r (t : ylG) : St := ⟨.dead :: vI t.1 :: vI t.2.1 :: .box 3 0 :: dd 3 (vI t.2.2.1 :: dd 18 []), [(3, .box [z9 t.2.2.2.1, yA t.2.2.2.2])]⟩
def ypM : Gk wq := fun κ => ws (fun t => κ none ⟨dd 6 (vI t :: dd 19 []), []⟩) (fun t => κ (some 0) ⟨dd 26 [], []⟩)
def yuS : Lp := lpC 2 (unG ylH y9r) @ypM lpN
theorem yuT : LF yuR yuS 88 2 Tryz.f88 0 y9r @ypM fun t => t := fun R κ again t => by kernel_rfl
theorem yuU : LK yuR yuS 88 Tryz.f88 0 := lkN (u := (unG ylH y9r)) (yw fun t => by kernel_rfl) yuT
theorem yA9 : EV yuR yuS 88 Tryz.f88 yxs yqx [(.int .i64)] jv := fun x => by kernel_rfl
def q88 : QF := ⟨88, jv, okN (n := 1) Tryz.func88 ⟨yuU, trivial⟩ yA9⟩
def zJ (x : yra) : Option (List y7) :=
 Option.bind (yL x.1) fun r1 => Option.bind (ZT (r1, x.2)) fun r2 => Option.bind (J1 r2) fun r3 => some r3
theorem yAa : EV [q63, yy9, ytG] lpN 90 Tryz.f90 yxt yrb [(.sl 63 yg)] zJ := fun x => by kernel_rfl
def q90 : QF := ⟨90, zJ, okN (n := 0) Tryz.func90 trivial yAa⟩
def zm (x : List y7) : Option (List y9) :=
 bif ((List.length x : Int) == (0 : Int)) then some ([] : List y9) else Option.bind (zU x) fun r1 => some ([r1] : List y9)
theorem yAb : EV [ytI] lpN 93 Tryz.f93 yxu [(.sl 63 yg)] [(.sl 58 yn)] zm := fun x => by kernel_rfl
def q93 : QF := ⟨93, zm, okN (n := 0) Tryz.func93 trivial yAb⟩
abbrev vW : Type := ylI
def w9 (k0 : yqy → Option R) (k1 : yeb → Option R) (again : vW → Option R) (t2 : vW) : Option R :=
 bif (decide (t2.2.2.2.2.1 < t2.2.2.2.1)) then if (0 : Int) ≤ t2.2.2.2.2.1 then if t2.2.2.2.2.1 < (List.length t2.2.2.1 : Int) then Option.bind (bif ((y6 t2.2.2.1 t2.2.2.2.2.1).1 == t2.1) then some ((y6 t2.2.2.1 t2.2.2.2.2.1).2.1 == t2.2.1) else some false) fun u1 => bif u1 then k0 (true, (y6 t2.2.2.1 t2.2.2.2.2.1).1, (y6 t2.2.2.1 t2.2.2.2.2.1).2.1, (y6 t2.2.2.1 t2.2.2.2.2.1).2.2.1, (y6 t2.2.2.1 t2.2.2.2.2.1).2.2.2.1, (y6 t2.2.2.1 t2.2.2.2.2.1).2.2.2.2) else again (t2.1, t2.2.1, t2.2.2.1, t2.2.2.2.1, (Go.IntKind.wrap .i64 (t2.2.2.2.2.1 + (1 : Int))), t2.2.2.2.2.2.1, t2.2.2.2.2.2.2.1, t2.2.2.2.2.2.2.2.1, t2.2.2.2.2.2.2.2.2.1, t2.2.2.2.2.2.2.2.2.2) else none else none else k1 t2.2.2.2.2.2
def y04 k0 k1 := zL (@w9 R k0 k1) Y3
def wO (x : ywm) : Option yce :=
 y04 (fun x2 => some (x2.2.1, x2.2.2.1, x2.2.2.2.1, x2.2.2.2.2.1, x2.2.2.2.2.2, x2.1)) (fun x3 => some ((0 : Int), (0 : Int), (0 : Int), (0 : Int), (0 : Int), false)) (x.2.1, x.2.2, x.1, (List.length x.1 : Int), (0 : Int), (0 : Int), (0 : Int), (0 : Int), (0 : Int), (0 : Int))
def yjI : List QF := []
def y6C (t : ylI) : St := ⟨.dead :: vI t.1 :: vI t.2.1 :: dd 3 (.box 6 0 :: dd 3 (VK t.2.2.1 :: vI t.2.2.2.1 :: vI t.2.2.2.2.1 :: dd 16 [])), [(6, .box [vI t.2.2.2.2.2.1, vI t.2.2.2.2.2.2.1, vI t.2.2.2.2.2.2.2.1, vI t.2.2.2.2.2.2.2.2.1, vI t.2.2.2.2.2.2.2.2.2])]⟩
def yhj : Gk vW := fun κ => w9 (fun t => κ none ⟨dd 6 (.box 6 0 :: vB t.1 :: dd 21 []), [(6, .box [vI t.2.1, vI t.2.2.1, vI t.2.2.2.1, vI t.2.2.2.2.1, vI t.2.2.2.2.2])]⟩) (fun t => κ (some 0) ⟨dd 6 (.box 6 0 :: dd 22 []), [(6, .box [vI t.1, vI t.2.1, vI t.2.2.1, vI t.2.2.2.1, vI t.2.2.2.2])]⟩)
def yjJ : Lp := lpC 2 (unG ylJ y6C) @yhj lpN
theorem ypN : LF yjI yjJ 124 2 Tryz.f124 0 y6C @yhj fun t => t := fun R κ again t => by kernel_rfl
theorem ypO : LK yjI yjJ 124 Tryz.f124 0 := lkN (u := (unG ylJ y6C)) (yw fun t => by kernel_rfl) ypN
theorem yuV : EV yjI yjJ 124 Tryz.f124 ynE ywn ycf wO := fun x => by kernel_rfl
def yye : QF := ⟨124, wO, okN (n := 1) Tryz.func124 ⟨ypO, trivial⟩ yuV⟩
def wc (x : yra) : Option ywo :=
 Option.bind (zu x.1) fun r1 => bif (decide ((Go.IntKind.wrap .i64 ((List.length x.1 : Int) - (1 : Int))) ≥ (0 : Int))) then if (0 : Int) ≤ (Go.IntKind.wrap .i64 ((List.length x.1 : Int) - (1 : Int))) then if (Go.IntKind.wrap .i64 ((List.length x.1 : Int) - (1 : Int))) < (List.length x.1 : Int) then Option.bind (wO ((yl x.1 (Go.IntKind.wrap .i64 ((List.length x.1 : Int) - (1 : Int)))), x.2.1, x.2.2.1)) fun r2 => Option.bind (bif r2.2.2.2.2.2 then some true else if (0 : Int) ≤ (Go.IntKind.wrap .i64 ((List.length x.1 : Int) - (1 : Int))) then if (Go.IntKind.wrap .i64 ((List.length x.1 : Int) - (1 : Int))) < (List.length x.1 : Int) then some (decide (((List.length (yl x.1 (Go.IntKind.wrap .i64 ((List.length x.1 : Int) - (1 : Int)))) : Nat) : Int) < (4 : Int))) else none else none) fun u3 => bif u3 then if (0 : Int) ≤ (Go.IntKind.wrap .i64 ((List.length x.1 : Int) - (1 : Int))) then if (Go.IntKind.wrap .i64 ((List.length x.1 : Int) - (1 : Int))) < (List.length x.1 : Int) then Option.bind (ZT ((yl x.1 (Go.IntKind.wrap .i64 ((List.length x.1 : Int) - (1 : Int)))), x.2.1, x.2.2.1, x.2.2.2.1, x.2.2.2.2.1, x.2.2.2.2.2)) fun r4 => if (0 : Int) ≤ (Go.IntKind.wrap .i64 ((List.length x.1 : Int) - (1 : Int))) then if (Go.IntKind.wrap .i64 ((List.length x.1 : Int) - (1 : Int))) < (List.length r1 : Int) then Option.bind (zB (List.set r1 (Int.toNat (Go.IntKind.wrap .i64 ((List.length x.1 : Int) - (1 : Int)))) r4)) fun r5 => bif r5 then some ((List.set r1 (Int.toNat (Go.IntKind.wrap .i64 ((List.length x.1 : Int) - (1 : Int)))) r4), true) else Option.bind (zJ x) fun r6 => Option.bind (zm r6) fun r7 => Option.bind (bif (decide ((List.length r6 : Int) > (8 : Int))) then some true else Option.bind (zB r7) fun r9 => some (!r9)) fun u8 => bif u8 then Option.bind (zu x.1) fun r10 => some (r10, false) else some (r7, true) else none else none else none else none else if (List.length r1 + List.length ([([x.2] : List y7)] : List y9)) * 24 < 140737488355328 then Option.bind (zB (r1 ++ ([([x.2] : List y7)] : List y9))) fun r11 => bif r11 then some ((r1 ++ ([([x.2] : List y7)] : List y9)), true) else Option.bind (zJ x) fun r12 => Option.bind (zm r12) fun r13 => Option.bind (bif (decide ((List.length r12 : Int) > (8 : Int))) then some true else Option.bind (zB r13) fun r15 => some (!r15)) fun u14 => bif u14 then Option.bind (zu x.1) fun r16 => some (r16, false) else some (r13, true) else none else none else none else if (List.length r1 + List.length ([([x.2] : List y7)] : List y9)) * 24 < 140737488355328 then Option.bind (zB (r1 ++ ([([x.2] : List y7)] : List y9))) fun r17 => bif r17 then some ((r1 ++ ([([x.2] : List y7)] : List y9)), true) else Option.bind (zJ x) fun r18 => Option.bind (zm r18) fun r19 => Option.bind (bif (decide ((List.length r18 : Int) > (8 : Int))) then some true else Option.bind (zB r19) fun r21 => some (!r21)) fun u20 => bif u20 then Option.bind (zu x.1) fun r22 => some (r22, false) else some (r19, true) else none
theorem yAc : EV [q90, q93, q95, yyd, yye, ytG] lpN 89 Tryz.f89 yxv yrb ywp wc := fun x => by kernel_rfl
def q89 : QF := ⟨89, wc, okN (n := 0) Tryz.func89 trivial yAc⟩
def zV (x : yrB) : Option Qz8 :=
 if (0 : Int) ≤ (0 : Int) then if (0 : Int) ≤ x.2.2.1 then if x.2.2.1 ≤ (List.length x.1 : Int) then Option.bind (Zy (List.drop (Int.toNat (0 : Int)) (List.take (Int.toNat x.2.2.1) x.1))) fun r1 => if (List.length r1 + List.length x.2.2.2.2.1) * 8 < 140737488355328 then if (0 : Int) ≤ (Go.IntKind.wrap .i64 (x.2.2.1 + x.2.2.2.1)) then if (Go.IntKind.wrap .i64 (x.2.2.1 + x.2.2.2.1)) ≤ (List.length x.1 : Int) then if (List.length x.1 : Int) ≤ (List.length x.1 : Int) then if (List.length (r1 ++ x.2.2.2.2.1) + List.length (List.drop (Int.toNat (Go.IntKind.wrap .i64 (x.2.2.1 + x.2.2.2.1))) (List.take (Int.toNat (List.length x.1 : Int)) x.1))) * 8 < 140737488355328 then if (0 : Int) ≤ (0 : Int) then if (0 : Int) ≤ x.2.2.1 then if x.2.2.1 ≤ (List.length x.2.1 : Int) then if (List.length ([] : List y0) + List.length (List.drop (Int.toNat (0 : Int)) (List.take (Int.toNat x.2.2.1) x.2.1))) * 24 < 140737488355328 then if (List.length (([] : List y0) ++ (List.drop (Int.toNat (0 : Int)) (List.take (Int.toNat x.2.2.1) x.2.1))) + List.length x.2.2.2.2.2) * 24 < 140737488355328 then if (0 : Int) ≤ (Go.IntKind.wrap .i64 (x.2.2.1 + x.2.2.2.1)) then if (Go.IntKind.wrap .i64 (x.2.2.1 + x.2.2.2.1)) ≤ (List.length x.2.1 : Int) then if (List.length x.2.1 : Int) ≤ (List.length x.2.1 : Int) then if (List.length ((([] : List y0) ++ (List.drop (Int.toNat (0 : Int)) (List.take (Int.toNat x.2.2.1) x.2.1))) ++ x.2.2.2.2.2) + List.length (List.drop (Int.toNat (Go.IntKind.wrap .i64 (x.2.2.1 + x.2.2.2.1))) (List.take (Int.toNat (List.length x.2.1 : Int)) x.2.1))) * 24 < 140737488355328 then some (((r1 ++ x.2.2.2.2.1) ++ (List.drop (Int.toNat (Go.IntKind.wrap .i64 (x.2.2.1 + x.2.2.2.1))) (List.take (Int.toNat (List.length x.1 : Int)) x.1))), (((([] : List y0) ++ (List.drop (Int.toNat (0 : Int)) (List.take (Int.toNat x.2.2.1) x.2.1))) ++ x.2.2.2.2.2) ++ (List.drop (Int.toNat (Go.IntKind.wrap .i64 (x.2.2.1 + x.2.2.2.1))) (List.take (Int.toNat (List.length x.2.1 : Int)) x.2.1)))) else none else none else none else none else none else none else none else none else none else none else none else none else none else none else none else none else none
theorem yAd : EV [yyc] lpN 91 Tryz.f91 yxw yrC qz8 zV := fun x => by kernel_rfl
def q91 : QF := ⟨91, zV, okN (n := 0) Tryz.func91 trivial yAd⟩
abbrev vf : Type := y8x ⊕ y8x
def vg (k0 : Qz8 → Option R) (k1 : Qz8 → Option R) (again : vf → Option R) : vf → Option R
 | .inl t2 => bif (decide ((Go.IntKind.wrap .i64 (t2.1 + (1 : Int))) < (List.length t2.2.2 : Int))) then if (0 : Int) ≤ t2.1 then if t2.1 < (List.length t2.2.2 : Int) then Option.bind (yL (yd t2.2.2 t2.1)) fun r1 => if (0 : Int) ≤ (Go.IntKind.wrap .i64 (t2.1 + (1 : Int))) then if (Go.IntKind.wrap .i64 (t2.1 + (1 : Int))) < (List.length t2.2.2 : Int) then Option.bind (yL (yd t2.2.2 (Go.IntKind.wrap .i64 (t2.1 + (1 : Int))))) fun r2 => if (List.length r1 + List.length r2) * 40 < 140737488355328 then bif (decide ((List.length (r1 ++ r2) : Int) ≤ (6 : Int))) then if (0 : Int) ≤ t2.1 then if t2.1 < (List.length t2.2.1 : Int) then Option.bind (zm (r1 ++ r2)) fun r3 => Option.bind (zV (t2.2.1, t2.2.2, t2.1, (2 : Int), ([(zt t2.2.1 t2.1)] : List yb), ([r3] : List y0))) fun r4 => again (Sum.inr ((Go.IntKind.wrap .i64 ((-1 : Int) + (1 : Int))), r4.1, r4.2)) else none else none else again (Sum.inl ((Go.IntKind.wrap .i64 (t2.1 + (1 : Int))), t2.2.1, t2.2.2)) else none else none else none else none else none else k0 t2.2
 | .inr t2 => bif (decide ((Go.IntKind.wrap .i64 (t2.1 + (1 : Int))) < (List.length t2.2.2 : Int))) then if (0 : Int) ≤ t2.1 then if t2.1 < (List.length t2.2.2 : Int) then Option.bind (yL (yd t2.2.2 t2.1)) fun r5 => if (0 : Int) ≤ (Go.IntKind.wrap .i64 (t2.1 + (1 : Int))) then if (Go.IntKind.wrap .i64 (t2.1 + (1 : Int))) < (List.length t2.2.2 : Int) then Option.bind (yL (yd t2.2.2 (Go.IntKind.wrap .i64 (t2.1 + (1 : Int))))) fun r6 => if (List.length r5 + List.length r6) * 40 < 140737488355328 then bif (decide ((List.length (r5 ++ r6) : Int) ≤ (6 : Int))) then if (0 : Int) ≤ t2.1 then if t2.1 < (List.length t2.2.1 : Int) then Option.bind (zm (r5 ++ r6)) fun r7 => Option.bind (zV (t2.2.1, t2.2.2, t2.1, (2 : Int), ([(zt t2.2.1 t2.1)] : List yb), ([r7] : List y0))) fun r8 => again (Sum.inr ((Go.IntKind.wrap .i64 ((-1 : Int) + (1 : Int))), r8.1, r8.2)) else none else none else again (Sum.inr ((Go.IntKind.wrap .i64 (t2.1 + (1 : Int))), t2.2.1, t2.2.2)) else none else none else none else none else none else k1 t2.2
def Q9 k0 k1 := zL (@vg R k0 k1) Y3
def Z7 (x : Qz8) : Option Qz8 :=
 Q9 (fun x9 => some x9) (fun x10 => some x10) (Sum.inl ((0 : Int), x.1, x.2))
def ypP : List QF := [q63, q91, q93]
def y6D (t : y8x) : St := ⟨.dead :: .box 1 0 :: .box 2 0 :: vI t.1 :: dd 39 [], [(1, .box [z9 t.2.1, yA t.2.2]), (2, .box [.nils, .nils])]⟩
theorem yjK : ∀ s t, unG yec y6D s = some t → y6D t = s := yw fun t => by kernel_rfl
def y6E (t : y8x) : St := ⟨.dead :: .box 1 0 :: .box 2 0 :: vI t.1 :: dd 39 [], [(1, .box [.own 10000000, .own 10000001]), (2, .box [.nils, .nils]), (10000000, .root true 3 yf t.2.1), (10000001, .root true 99 yj t.2.2)]⟩
theorem yjL : ∀ s t, unG yec y6E s = some t → y6E t = s := yw fun t => by kernel_rfl
def y6F : (y8x ⊕ y8x) → St := Sum.elim y6D y6E
def y9s (s : St) : Option (y8x ⊕ y8x) := ((unG yec y6D s).map Sum.inl).or (((unG yec y6E) s).map Sum.inr)
theorem yjM : ∀ s t, y9s s = some t → y6F t = s := y95 yjK yjL
def yfq : Gk vf := fun κ => vg (fun t => κ (some 0) ⟨.dead :: .box 1 0 :: .box 2 0 :: dd 40 [], [(1, .box [z9 t.1, yA t.2]), (2, .box [.nils, .nils])]⟩) (fun t => κ (some 0) ⟨.dead :: .box 1 0 :: .box 2 0 :: dd 40 [], [(1, .box [.own 10000000, .own 10000001]), (2, .box [.nils, .nils]), (10000000, .root true 3 yf t.1), (10000001, .root true 99 yj t.2)]⟩)
def ypQ : Lp := lpC 2 y9s @yfq lpN
theorem yjN : LF ypP ypQ 94 2 Tryz.f94 0 y6F @yfq fun v : y8x => .inl v := fun R κ again v => by kernel_rfl
theorem yjO : LF ypP ypQ 94 2 Tryz.f94 0 y6F @yfq fun v : y8x => .inr v := fun R κ again v => by kernel_rfl
theorem yuW : LF ypP ypQ 94 2 Tryz.f94 0 y6F @yfq fun t => t := (LC.sum yjN yjO)
theorem yuX : LK ypP ypQ 94 Tryz.f94 0 := lkN (u := y9s) yjM yuW
theorem yAe : EV ypP ypQ 94 Tryz.f94 yxx qz8 qz8 Z7 := fun x => by kernel_rfl
def q94 : QF := ⟨94, Z7, okN (n := 1) Tryz.func94 ⟨yuX, trivial⟩ yAe⟩
def wd (x : ywq) : Option yws :=
 Option.bind (Yf (x.1, x.2.1)) fun r1 => Option.bind (bif (!r1) then some true else Option.bind (wN x.2.2) fun r3 => some (!r3)) fun u2 => bif u2 then Option.bind (zv (x.1, x.2.1)) fun r4 => some (r4.1, r4.2, false) else Option.bind (jv (x.1, x.2.1, x.2.2.1, x.2.2.2.1)) fun r5 => Option.bind (zv (x.1, x.2.1)) fun r6 => if (0 : Int) ≤ r5 then if r5 < (List.length r6.2 : Int) then Option.bind (wc ((yd r6.2 r5), x.2.2.1, x.2.2.2.1, x.2.2.2.2.1, x.2.2.2.2.2.1, x.2.2.2.2.2.2)) fun r7 => bif (!r7.2) then if (0 : Int) ≤ r5 then if r5 < (List.length r6.2 : Int) then Option.bind (zJ ((yd r6.2 r5), x.2.2.1, x.2.2.2.1, x.2.2.2.2.1, x.2.2.2.2.2.1, x.2.2.2.2.2.2)) fun r8 => if (0 : Int) ≤ (Go.IntKind.wrap .i64 (Int.tdiv (Go.IntKind.wrap .i64 ((List.length r8 : Int) + (1 : Int))) (2 : Int))) then if (Go.IntKind.wrap .i64 (Int.tdiv (Go.IntKind.wrap .i64 ((List.length r8 : Int) + (1 : Int))) (2 : Int))) < (List.length r8 : Int) then if (0 : Int) ≤ r5 then if r5 < (List.length x.1 : Int) then Option.bind (Z3 ((y6 r8 (Go.IntKind.wrap .i64 (Int.tdiv (Go.IntKind.wrap .i64 ((List.length r8 : Int) + (1 : Int))) (2 : Int)))).1, (y6 r8 (Go.IntKind.wrap .i64 (Int.tdiv (Go.IntKind.wrap .i64 ((List.length r8 : Int) + (1 : Int))) (2 : Int)))).2.1)) fun r9 => if (0 : Int) ≤ (0 : Int) then if (0 : Int) ≤ (Go.IntKind.wrap .i64 (Int.tdiv (Go.IntKind.wrap .i64 ((List.length r8 : Int) + (1 : Int))) (2 : Int))) then if (Go.IntKind.wrap .i64 (Int.tdiv (Go.IntKind.wrap .i64 ((List.length r8 : Int) + (1 : Int))) (2 : Int))) ≤ (List.length r8 : Int) then Option.bind (zm (List.drop (Int.toNat (0 : Int)) (List.take (Int.toNat (Go.IntKind.wrap .i64 (Int.tdiv (Go.IntKind.wrap .i64 ((List.length r8 : Int) + (1 : Int))) (2 : Int)))) r8))) fun r10 => if (0 : Int) ≤ (Go.IntKind.wrap .i64 (Int.tdiv (Go.IntKind.wrap .i64 ((List.length r8 : Int) + (1 : Int))) (2 : Int))) then if (Go.IntKind.wrap .i64 (Int.tdiv (Go.IntKind.wrap .i64 ((List.length r8 : Int) + (1 : Int))) (2 : Int))) ≤ (List.length r8 : Int) then if (List.length r8 : Int) ≤ (List.length r8 : Int) then Option.bind (zm (List.drop (Int.toNat (Go.IntKind.wrap .i64 (Int.tdiv (Go.IntKind.wrap .i64 ((List.length r8 : Int) + (1 : Int))) (2 : Int)))) (List.take (Int.toNat (List.length r8 : Int)) r8))) fun r11 => Option.bind (zV (r6.1, r6.2, r5, (1 : Int), ([(zt x.1 r5), r9] : List yb), ([r10, r11] : List y0))) fun r12 => Option.bind (Z7 r12) fun r13 => Option.bind (Yf r13) fun r14 => bif (!r14) then Option.bind (zv (x.1, x.2.1)) fun r15 => some (r15.1, r15.2, false) else some (r13.1, r13.2, true) else none else none else none else none else none else none else none else none else none else none else none else none else Option.bind (bif (decide (r5 > (0 : Int))) then Option.bind (yL r7.1) fun r17 => some ((List.length r17 : Int) == (0 : Int)) else some false) fun u16 => bif u16 then Option.bind (zV (r6.1, r6.2, r5, (1 : Int), ([] : List yb), ([] : List y0))) fun r18 => Option.bind (Z7 r18) fun r19 => Option.bind (Yf r19) fun r20 => bif (!r20) then Option.bind (zv (x.1, x.2.1)) fun r21 => some (r21.1, r21.2, false) else some (r19.1, r19.2, true) else if (0 : Int) ≤ r5 then if r5 < (List.length r6.2 : Int) then Option.bind (Z7 (r6.1, (List.set r6.2 (Int.toNat r5) r7.1))) fun r22 => Option.bind (Yf r22) fun r23 => bif (!r23) then Option.bind (zv (x.1, x.2.1)) fun r24 => some (r24.1, r24.2, false) else some (r22.1, r22.2, true) else none else none else none else none
theorem yAf : EV [q53, q63, q79, q87, q88, q89, q90, q91, q92, q93, q94] lpN 50 Tryz.f50 yxy ywr ywt wd := fun x => by kernel_rfl
def q50 : QF := ⟨50, wd, okN (n := 0) Tryz.func50 trivial yAf⟩
def Jc (x : yk9) : Option (List y8) :=
 Option.bind (zw x.1) fun r1 => Option.bind (Zh x.1) fun r2 => Option.bind (bif (!r2) then some true else Option.bind (yC (x.2, (0 : Int), (23 : Int))) fun r4 => some (!r4)) fun u3 => Option.bind (bif u3 then some true else if (0 : Int) ≤ x.2 then if x.2 < (List.length x.1 : Int) then some (!((ym x.1 x.2).2.1)) else none else none) fun u5 => bif u5 then some r1 else if (0 : Int) ≤ x.2 then if x.2 < (List.length x.1 : Int) then if (0 : Int) ≤ x.2 then if x.2 < (List.length r1 : Int) then some (List.set r1 (Int.toNat x.2) ((Int.tmod (Go.IntKind.wrap .i64 ((ym x.1 x.2).1 + (1 : Int))) (1000 : Int)), false, (0 : Int))) else none else none else none else none
theorem yAg : EV [q47, q55, q81] lpN 51 Tryz.f51 yxz yka [(.sl 53 ye)] Jc := fun x => by kernel_rfl
def q51 : QF := ⟨51, Jc, okN (n := 0) Tryz.func51 trivial yAg⟩
abbrev WC : Type := yqz
def WD (k0 : yeb → Option R) (k1 : yqy → Option R) (again : WC → Option R) (t2 : WC) : Option R :=
 bif (decide (t2.2.2.1 ≥ (0 : Int))) then if (0 : Int) ≤ t2.2.2.1 then if t2.2.2.1 < (List.length t2.2.2.2.1 : Int) then Option.bind (wO ((yl t2.2.2.2.1 t2.2.2.1), t2.1, t2.2.1)) fun r1 => bif (!r1.2.2.2.2.2) then again (t2.1, t2.2.1, (Go.IntKind.wrap .i64 (t2.2.2.1 - (1 : Int))), t2.2.2.2.1, t2.2.2.2.2.1, t2.2.2.2.2.2.1, t2.2.2.2.2.2.2.1, t2.2.2.2.2.2.2.2.1, t2.2.2.2.2.2.2.2.2) else bif (r1.2.2.1 == (0 : Int)) then k0 t2.2.2.2.2 else k1 (true, r1.1, r1.2.1, r1.2.2.1, r1.2.2.2.1, r1.2.2.2.2.1) else none else none else k0 t2.2.2.2.2
def Qa k0 k1 := zL (@WD R k0 k1) Y3
def WE (x : yhR) : Option yce :=
 Qa (fun x2 => some ((0 : Int), (0 : Int), (0 : Int), (0 : Int), (0 : Int), false)) (fun x3 => some (x3.2.1, x3.2.2.1, x3.2.2.2.1, x3.2.2.2.2.1, x3.2.2.2.2.2, x3.1)) (x.2.1, x.2.2, (Go.IntKind.wrap .i64 ((List.length x.1 : Int) - (1 : Int))), x.1, (0 : Int), (0 : Int), (0 : Int), (0 : Int), (0 : Int))
def yjP : List QF := [yye]
def y6G (t : yqz) : St := ⟨.dead :: vI t.1 :: vI t.2.1 :: .box 3 0 :: dd 2 (.box 6 0 :: .dead :: vI t.2.2.1 :: dd 28 []), [(3, .box [Yg t.2.2.2.1]), (6, .box [vI t.2.2.2.2.1, vI t.2.2.2.2.2.1, vI t.2.2.2.2.2.2.1, vI t.2.2.2.2.2.2.2.1, vI t.2.2.2.2.2.2.2.2])]⟩
def yhk : Gk WC := fun κ => WD (fun t => κ (some 0) ⟨dd 6 (.box 6 0 :: dd 30 []), [(6, .box [vI t.1, vI t.2.1, vI t.2.2.1, vI t.2.2.2.1, vI t.2.2.2.2])]⟩) (fun t => κ none ⟨dd 6 (.box 6 0 :: vB t.1 :: dd 29 []), [(6, .box [vI t.2.1, vI t.2.2.1, vI t.2.2.2.1, vI t.2.2.2.2.1, vI t.2.2.2.2.2])]⟩)
def yjQ : Lp := lpC 2 (unG yqA y6G) @yhk lpN
theorem ypR : LF yjP yjQ 122 2 Tryz.f122 0 y6G @yhk fun t => t := fun R κ again t => by kernel_rfl
theorem ypS : LK yjP yjQ 122 Tryz.f122 0 := lkN (u := (unG yqA y6G)) (yw fun t => by kernel_rfl) ypR
theorem yuY : EV yjP yjQ 122 Tryz.f122 ynF yqB ycf WE := fun x => by kernel_rfl
def yAh : QF := ⟨122, WE, okN (n := 1) Tryz.func122 ⟨ypS, trivial⟩ yuY⟩
def JE (x : yqw) : Option yce :=
 Option.bind (jv x) fun r1 => Option.bind (yC (r1, (0 : Int), (Go.IntKind.wrap .i64 ((List.length x.2.1 : Int) - (1 : Int))))) fun r2 => bif (!r2) then some ((0 : Int), (0 : Int), (0 : Int), (0 : Int), (0 : Int), false) else if (0 : Int) ≤ r1 then if r1 < (List.length x.2.1 : Int) then Option.bind (WE ((yd x.2.1 r1), x.2.2.1, x.2.2.2)) fun r3 => some r3 else none else none
theorem yAi : EV [q47, q88, yAh] lpN 82 Tryz.f82 yxA yqx ycf JE := fun x => by kernel_rfl
def q82 : QF := ⟨82, JE, okN (n := 0) Tryz.func82 trivial yAi⟩
def zG (x : ykG) : Option yf0 :=
 Option.bind (JE (x.1, x.2.1, x.2.2.2.2.2.2.1, x.2.2.2.2.2.2.2.1)) fun r1 => Option.bind (wd (x.1, x.2.1, x.2.2.2.2.2.2)) fun r2 => Option.bind (bif r2.2.2 then some r1.2.2.2.2.2 else some false) fun u3 => Option.bind (bif u3 then some (r1.2.2.1 == (1 : Int)) else some false) fun u4 => bif u4 then Option.bind (Jc (x.2.2.2.1, r1.2.2.2.1)) fun r5 => some (r2.2.2, r2.1, r2.2.1, x.2.2.1, r5, x.2.2.2.2.1, x.2.2.2.2.2.1) else some (r2.2.2, r2.1, r2.2.1, x.2.2.1, x.2.2.2.1, x.2.2.2.2.1, x.2.2.2.2.2.1)
theorem yAj : EV [q50, q51, q82] lpN 41 Tryz.f41 yxB ykH ykC zG := fun x => by kernel_rfl
def q41 : QF := ⟨41, zG, okN (n := 0) Tryz.func41 trivial yAj⟩
def YD (x : ywc) : Option y7L :=
 Option.bind (bif (!x.2.2.2.2.2.2.2.2.2.2.2.2) then some true else Option.bind (ZV (x.2.2.2.2.2.2.1, x.2.2.2.2.2.2.2.1, x.2.2.2.2.2.2.2.2.1, x.2.2.2.2.2.2.2.2.2.1, x.2.2.2.2.2.2.2.2.2.2.1, x.2.2.2.2.2.2.2.2.2.2.2.1)) fun r2 => some (!r2)) fun u1 => bif u1 then Option.bind (z3 (x.1, x.2.1, x.2.2.1, x.2.2.2.1, x.2.2.2.2.1, x.2.2.2.2.2.1)) fun r3 => some (r3.1, r3.2.1, r3.2.2.1, r3.2.2.2.1, r3.2.2.2.2.1, r3.2.2.2.2.2, (6 : Int)) else some (x.2.2.2.2.2.2.1, x.2.2.2.2.2.2.2.1, x.2.2.2.2.2.2.2.2.1, x.2.2.2.2.2.2.2.2.2.1, x.2.2.2.2.2.2.2.2.2.2.1, x.2.2.2.2.2.2.2.2.2.2.2.1, (0 : Int))
theorem yAk : EV [q19, q39] lpN 42 Tryz.f42 yxC ywd y7M YD := fun x => by kernel_rfl
def q42 : QF := ⟨42, YD, okN (n := 0) Tryz.func42 trivial yAk⟩
def ZK (x : ywu) : Option y7L :=
 Option.bind (Yq (x.1, x.2.1, x.2.2.1, x.2.2.2.1, x.2.2.2.2.1, x.2.2.2.2.2.1, x.2.2.2.2.2.2.1, x.2.2.2.2.2.2.2.1, true)) fun r1 => Option.bind (bif (r1.2 == (0 : Int)) then Option.bind (ZU x.2.2.2.2.2.2.2.2) fun r3 => some (!r3) else some false) fun u2 => bif u2 then bif ((4 : Int) != (0 : Int)) then Option.bind (z3 (x.1, x.2.1, x.2.2.1, x.2.2.2.1, x.2.2.2.2.1, x.2.2.2.2.2.1)) fun r4 => some (r4.1, r4.2.1, r4.2.2.1, r4.2.2.2.1, r4.2.2.2.2.1, r4.2.2.2.2.2, (4 : Int)) else Option.bind (z3 (x.1, x.2.1, x.2.2.1, x.2.2.2.1, x.2.2.2.2.1, x.2.2.2.2.2.1)) fun r5 => Option.bind (Zz (x.2.2.2.1, x.2.2.2.2.2.2.2.2)) fun r6 => bif (!r6.2.2) then Option.bind (z3 (x.1, x.2.1, x.2.2.1, x.2.2.2.1, x.2.2.2.2.1, x.2.2.2.2.2.1)) fun r7 => some (r7.1, r7.2.1, r7.2.2.1, r7.2.2.2.1, r7.2.2.2.2.1, r7.2.2.2.2.2, (6 : Int)) else if (0 : Int) ≤ r1.1 then if r1.1 < (List.length x.2.2.2.2.1 : Int) then if (0 : Int) ≤ r6.2.1 then if r6.2.1 < (List.length r6.1 : Int) then Option.bind (zG (r5.1, r5.2.1, r5.2.2.1, r6.1, r5.2.2.2.2.1, r5.2.2.2.2.2, x.2.2.2.2.2.2.2.1, (yc x.2.2.2.2.1 r1.1).2.1, (1 : Int), r6.2.1, (ym r6.1 r6.2.1).1)) fun r8 => Option.bind (YD (x.1, x.2.1, x.2.2.1, x.2.2.2.1, x.2.2.2.2.1, x.2.2.2.2.2.1, r8.2.1, r8.2.2.1, r8.2.2.2.1, r8.2.2.2.2.1, r8.2.2.2.2.2.1, r8.2.2.2.2.2.2, r8.1)) fun r9 => some r9 else none else none else none else none else bif (r1.2 != (0 : Int)) then Option.bind (z3 (x.1, x.2.1, x.2.2.1, x.2.2.2.1, x.2.2.2.2.1, x.2.2.2.2.2.1)) fun r10 => some (r10.1, r10.2.1, r10.2.2.1, r10.2.2.2.1, r10.2.2.2.2.1, r10.2.2.2.2.2, r1.2) else Option.bind (z3 (x.1, x.2.1, x.2.2.1, x.2.2.2.1, x.2.2.2.2.1, x.2.2.2.2.2.1)) fun r11 => Option.bind (Zz (x.2.2.2.1, x.2.2.2.2.2.2.2.2)) fun r12 => bif (!r12.2.2) then Option.bind (z3 (x.1, x.2.1, x.2.2.1, x.2.2.2.1, x.2.2.2.2.1, x.2.2.2.2.2.1)) fun r13 => some (r13.1, r13.2.1, r13.2.2.1, r13.2.2.2.1, r13.2.2.2.2.1, r13.2.2.2.2.2, (6 : Int)) else if (0 : Int) ≤ r1.1 then if r1.1 < (List.length x.2.2.2.2.1 : Int) then if (0 : Int) ≤ r12.2.1 then if r12.2.1 < (List.length r12.1 : Int) then Option.bind (zG (r11.1, r11.2.1, r11.2.2.1, r12.1, r11.2.2.2.2.1, r11.2.2.2.2.2, x.2.2.2.2.2.2.2.1, (yc x.2.2.2.2.1 r1.1).2.1, (1 : Int), r12.2.1, (ym r12.1 r12.2.1).1)) fun r14 => Option.bind (YD (x.1, x.2.1, x.2.2.1, x.2.2.2.1, x.2.2.2.2.1, x.2.2.2.2.2.1, r14.2.1, r14.2.2.1, r14.2.2.2.1, r14.2.2.2.2.1, r14.2.2.2.2.2.1, r14.2.2.2.2.2.2, r14.1)) fun r15 => some r15 else none else none else none else none
theorem yAl : EV [q36, q38, q39, q40, q41, q42] lpN 11 Tryz.f11 yxD ywv y7M ZK := fun x => by kernel_rfl
def q11 : QF := ⟨11, ZK, okN (n := 0) Tryz.func11 trivial yAl⟩
abbrev ki : Type := ylK
def ZA (k0 : Bool → Option R) (k1 : Unit → Option R) (again : ki → Option R) (t4 : ki) : Option R :=
 bif (decide (t4.2.2 < (List.length t4.1 : Int))) then if (0 : Int) ≤ t4.2.2 then if t4.2.2 < (List.length t4.1 : Int) then if (0 : Int) ≤ t4.2.2 then if t4.2.2 < (List.length t4.2.1 : Int) then bif ((zt t4.1 t4.2.2) != (zt t4.2.1 t4.2.2)) then k0 false else again (t4.1, t4.2.1, (Go.IntKind.wrap .i64 (t4.2.2 + (1 : Int)))) else none else none else none else none else k1 ()
def Vo k0 k1 := zL (@ZA R k0 k1) Y3
def Jd (x : yrD) : Option Bool :=
 bif ((List.length x.1 : Int) != (List.length x.2 : Int)) then some false else Vo (fun x1 => some x1) (fun x2 => some true) (x.1, x.2, (0 : Int))
def yuZ : List QF := []
def y9t (t : ylK) : St := ⟨z9 t.1 :: z9 t.2.1 :: dd 3 (vI t.2.2 :: dd 20 []), []⟩
def ypT : Gk ki := fun κ => ZA (fun t => κ none ⟨dd 4 (vB t :: dd 21 []), []⟩) (fun t => κ (some 0) ⟨dd 26 [], []⟩)
def yv0 : Lp := lpC 4 (unG ylL y9t) @ypT lpN
theorem yv1 : LF yuZ yv0 83 4 Tryz.f83 0 y9t @ypT fun t => t := fun R κ again t => by kernel_rfl
theorem yv2 : LK yuZ yv0 83 Tryz.f83 0 := lkN (u := (unG ylL y9t)) (yw fun t => by kernel_rfl) yv1
theorem yAm : EV yuZ yv0 83 Tryz.f83 yxE yrE [.bool] Jd := fun x => by kernel_rfl
def q83 : QF := ⟨83, Jd, okN (n := 1) Tryz.func83 ⟨yv2, trivial⟩ yAm⟩
abbrev kj : Type := ylM
def ZB (k0 : Bool → Option R) (k1 : Unit → Option R) (again : kj → Option R) (t4 : kj) : Option R :=
 bif (decide (t4.2.2 < (List.length t4.1 : Int))) then if (0 : Int) ≤ t4.2.2 then if t4.2.2 < (List.length t4.1 : Int) then if (0 : Int) ≤ t4.2.2 then if t4.2.2 < (List.length t4.2.1 : Int) then bif (!(((y6 t4.1 t4.2.2).1 == (y6 t4.2.1 t4.2.2).1) && (((y6 t4.1 t4.2.2).2.1 == (y6 t4.2.1 t4.2.2).2.1) && (((y6 t4.1 t4.2.2).2.2.1 == (y6 t4.2.1 t4.2.2).2.2.1) && (((y6 t4.1 t4.2.2).2.2.2.1 == (y6 t4.2.1 t4.2.2).2.2.2.1) && (((y6 t4.1 t4.2.2).2.2.2.2 == (y6 t4.2.1 t4.2.2).2.2.2.2) && true)))))) then k0 false else again (t4.1, t4.2.1, (Go.IntKind.wrap .i64 (t4.2.2 + (1 : Int)))) else none else none else none else none else k1 ()
def Vp k0 k1 := zL (@ZB R k0 k1) Y3
def Je (x : yr0) : Option Bool :=
 bif ((List.length x.1 : Int) != (List.length x.2 : Int)) then some false else Vp (fun x1 => some x1) (fun x2 => some true) (x.1, x.2, (0 : Int))
def yjR : List QF := []
def y6H (t : ylM) : St := ⟨VK t.1 :: VK t.2.1 :: dd 3 (vI t.2.2 :: dd 20 []), []⟩
def yhl : Gk kj := fun κ => ZB (fun t => κ none ⟨dd 4 (vB t :: dd 21 []), []⟩) (fun t => κ (some 0) ⟨dd 26 [], []⟩)
def yjS : Lp := lpC 4 (unG ylN y6H) @yhl lpN
theorem ypU : LF yjR yjS 123 4 Tryz.f123 0 y6H @yhl fun t => t := fun R κ again t => by kernel_rfl
theorem ypV : LK yjR yjS 123 Tryz.f123 0 := lkN (u := (unG ylN y6H)) (yw fun t => by kernel_rfl) ypU
theorem yv3 : EV yjR yjS 123 Tryz.f123 ynG yr1 [.bool] Je := fun x => by kernel_rfl
def yAn : QF := ⟨123, Je, okN (n := 1) Tryz.func123 ⟨ypV, trivial⟩ yv3⟩
abbrev kl : Type := yhP
def ZC (k0 : Bool → Option R) (k1 : Unit → Option R) (again : kl → Option R) (t4 : kl) : Option R :=
 bif (decide (t4.1 < (List.length t4.2.1 : Int))) then if (0 : Int) ≤ t4.1 then if t4.1 < (List.length t4.2.1 : Int) then if (0 : Int) ≤ t4.1 then if t4.1 < (List.length t4.2.2 : Int) then Option.bind (Je ((yl t4.2.1 t4.1), (yl t4.2.2 t4.1))) fun r1 => bif (!r1) then k0 false else again ((Go.IntKind.wrap .i64 (t4.1 + (1 : Int))), t4.2.1, t4.2.2) else none else none else none else none else k1 ()
def Vq k0 k1 := zL (@ZC R k0 k1) Y3
def Jf (x : yrF) : Option Bool :=
 bif ((List.length x.1 : Int) != (List.length x.2 : Int)) then some false else Vq (fun x2 => some x2) (fun x3 => some true) ((0 : Int), x.1, x.2)
def yv4 : List QF := [yAn]
def y9u (t : yhP) : St := ⟨dd 2 (.box 2 0 :: .box 3 0 :: .dead :: vI t.1 :: dd 26 []), [(2, .box [Yg t.2.1]), (3, .box [Yg t.2.2])]⟩
def ypW : Gk kl := fun κ => ZC (fun t => κ none ⟨dd 4 (vB t :: dd 27 []), []⟩) (fun t => κ (some 0) ⟨dd 32 [], []⟩)
def yv5 : Lp := lpC 4 (unG yqu y9u) @ypW lpN
theorem yv6 : LF yv4 yv5 84 4 Tryz.f84 0 y9u @ypW fun t => t := fun R κ again t => by kernel_rfl
theorem yv7 : LK yv4 yv5 84 Tryz.f84 0 := lkN (u := (unG yqu y9u)) (yw fun t => by kernel_rfl) yv6
theorem yAo : EV yv4 yv5 84 Tryz.f84 yxF yrG [.bool] Jf := fun x => by kernel_rfl
def q84 : QF := ⟨84, Jf, okN (n := 1) Tryz.func84 ⟨yv7, trivial⟩ yAo⟩
abbrev km : Type := yhQ
def ZD (k0 : Bool → Option R) (k1 : Unit → Option R) (again : km → Option R) (t4 : km) : Option R :=
 bif (decide (t4.1 < (List.length t4.2.2.1 : Int))) then if (0 : Int) ≤ t4.1 then if t4.1 < (List.length t4.2.2.1 : Int) then if (0 : Int) ≤ t4.1 then if t4.1 < (List.length t4.2.2.2.2 : Int) then Option.bind (Jf ((yd t4.2.2.1 t4.1), (yd t4.2.2.2.2 t4.1))) fun r3 => bif (!r3) then k0 false else again ((Go.IntKind.wrap .i64 (t4.1 + (1 : Int))), t4.2.1, t4.2.2.1, t4.2.2.2.1, t4.2.2.2.2) else none else none else none else none else k1 ()
def Vr k0 k1 := zL (@ZD R k0 k1) Y3
def Jg (x : yrH) : Option Bool :=
 Option.bind (Jd (x.1, x.2.2.1)) fun r1 => Option.bind (bif (!r1) then some true else some ((List.length x.2.1 : Int) != (List.length x.2.2.2 : Int))) fun u2 => bif u2 then some false else Vr (fun x4 => some x4) (fun x5 => some true) ((0 : Int), x.1, x.2.1, x.2.2.1, x.2.2.2)
def yv8 : List QF := [q83, q84]
def y9v (t : yhQ) : St := ⟨dd 2 (.box 2 0 :: .box 3 0 :: .dead :: vI t.1 :: dd 34 []), [(2, .box [z9 t.2.1, yA t.2.2.1]), (3, .box [z9 t.2.2.2.1, yA t.2.2.2.2])]⟩
def ypX : Gk km := fun κ => ZD (fun t => κ none ⟨dd 4 (vB t :: dd 35 []), []⟩) (fun t => κ (some 0) ⟨dd 40 [], []⟩)
def yv9 : Lp := lpC 4 (unG yqv y9v) @ypX lpN
theorem yva : LF yv8 yv9 43 4 Tryz.f43 0 y9v @ypX fun t => t := fun R κ again t => by kernel_rfl
theorem yvb : LK yv8 yv9 43 Tryz.f43 0 := lkN (u := (unG yqv y9v)) (yw fun t => by kernel_rfl) yva
theorem yAp : EV yv8 yv9 43 Tryz.f43 yxG yrI [.bool] Jg := fun x => by kernel_rfl
def q43 : QF := ⟨43, Jg, okN (n := 1) Tryz.func43 ⟨yvb, trivial⟩ yAp⟩
abbrev kn : Type := ylO
def ZE (k0 : Bool → Option R) (k1 : Unit → Option R) (again : kn → Option R) (t4 : kn) : Option R :=
 bif (decide (t4.2.2 < (List.length t4.1 : Int))) then if (0 : Int) ≤ t4.2.2 then if t4.2.2 < (List.length t4.1 : Int) then if (0 : Int) ≤ t4.2.2 then if t4.2.2 < (List.length t4.2.1 : Int) then bif (!(((yK t4.1 t4.2.2).1 == (yK t4.2.1 t4.2.2).1) && (((yK t4.1 t4.2.2).2 == (yK t4.2.1 t4.2.2).2) && true))) then k0 false else again (t4.1, t4.2.1, (Go.IntKind.wrap .i64 (t4.2.2 + (1 : Int)))) else none else none else none else none else k1 ()
def Vs k0 k1 := zL (@ZE R k0 k1) Y3
def Jh (x : yrJ) : Option Bool :=
 bif ((List.length x.1 : Int) != (List.length x.2 : Int)) then some false else Vs (fun x1 => some x1) (fun x2 => some true) (x.1, x.2, (0 : Int))
def yvc : List QF := []
def y9w (t : ylO) : St := ⟨zl t.1 :: zl t.2.1 :: dd 3 (vI t.2.2 :: dd 20 []), []⟩
def ypY : Gk kn := fun κ => ZE (fun t => κ none ⟨dd 4 (vB t :: dd 21 []), []⟩) (fun t => κ (some 0) ⟨dd 26 [], []⟩)
def yvd : Lp := lpC 4 (unG ylP y9w) @ypY lpN
theorem yve : LF yvc yvd 44 4 Tryz.f44 0 y9w @ypY fun t => t := fun R κ again t => by kernel_rfl
theorem yvf : LK yvc yvd 44 Tryz.f44 0 := lkN (u := (unG ylP y9w)) (yw fun t => by kernel_rfl) yve
theorem yAq : EV yvc yvd 44 Tryz.f44 yxH yrK [.bool] Jh := fun x => by kernel_rfl
def q44 : QF := ⟨44, Jh, okN (n := 1) Tryz.func44 ⟨yvf, trivial⟩ yAq⟩
abbrev WF : Type := ylQ
def Z8 (k0 : Bool → Option R) (k1 : Unit → Option R) (again : WF → Option R) (t4 : WF) : Option R :=
 bif (decide (t4.2.2 < (List.length t4.1 : Int))) then if (0 : Int) ≤ t4.2.2 then if t4.2.2 < (List.length t4.1 : Int) then if (0 : Int) ≤ t4.2.2 then if t4.2.2 < (List.length t4.2.1 : Int) then bif (!(((ym t4.1 t4.2.2).1 == (ym t4.2.1 t4.2.2).1) && (((ym t4.1 t4.2.2).2.1 == (ym t4.2.1 t4.2.2).2.1) && (((ym t4.1 t4.2.2).2.2 == (ym t4.2.1 t4.2.2).2.2) && true)))) then k0 false else again (t4.1, t4.2.1, (Go.IntKind.wrap .i64 (t4.2.2 + (1 : Int)))) else none else none else none else none else k1 ()
def vJ k0 k1 := zL (@Z8 R k0 k1) Y3
def jn (x : yrL) : Option Bool :=
 bif ((List.length x.1 : Int) != (List.length x.2 : Int)) then some false else vJ (fun x1 => some x1) (fun x2 => some true) (x.1, x.2, (0 : Int))
def yvg : List QF := []
def y9x (t : ylQ) : St := ⟨yW t.1 :: yW t.2.1 :: dd 3 (vI t.2.2 :: dd 20 []), []⟩
def ypZ : Gk WF := fun κ => Z8 (fun t => κ none ⟨dd 4 (vB t :: dd 21 []), []⟩) (fun t => κ (some 0) ⟨dd 26 [], []⟩)
def yvh : Lp := lpC 4 (unG ylR y9x) @ypZ lpN
theorem yvi : LF yvg yvh 45 4 Tryz.f45 0 y9x @ypZ fun t => t := fun R κ again t => by kernel_rfl
theorem yvj : LK yvg yvh 45 Tryz.f45 0 := lkN (u := (unG ylR y9x)) (yw fun t => by kernel_rfl) yvi
theorem yAr : EV yvg yvh 45 Tryz.f45 yxI yrM [.bool] jn := fun x => by kernel_rfl
def q45 : QF := ⟨45, jn, okN (n := 1) Tryz.func45 ⟨yvj, trivial⟩ yAr⟩
abbrev ko : Type := ylS
def ZF (k0 : Bool → Option R) (k1 : Unit → Option R) (again : ko → Option R) (t4 : ko) : Option R :=
 bif (decide (t4.1 < (List.length t4.2.2.2.2.2.1 : Int))) then if (0 : Int) ≤ t4.1 then if t4.1 < (List.length t4.2.2.2.2.2.1 : Int) then if (0 : Int) ≤ t4.1 then if t4.1 < (List.length t4.2.2.2.2.2.2.2.2.2.2.2.1 : Int) then bif (!((ByteArray.toList ((yc t4.2.2.2.2.2.1 t4.1).1) == ByteArray.toList ((yc t4.2.2.2.2.2.2.2.2.2.2.2.1 t4.1).1)) && (((yc t4.2.2.2.2.2.1 t4.1).2.1 == (yc t4.2.2.2.2.2.2.2.2.2.2.2.1 t4.1).2.1) && (((yc t4.2.2.2.2.2.1 t4.1).2.2.1 == (yc t4.2.2.2.2.2.2.2.2.2.2.2.1 t4.1).2.2.1) && (((yc t4.2.2.2.2.2.1 t4.1).2.2.2 == (yc t4.2.2.2.2.2.2.2.2.2.2.2.1 t4.1).2.2.2) && true))))) then k0 false else again ((Go.IntKind.wrap .i64 (t4.1 + (1 : Int))), t4.2.1, t4.2.2.1, t4.2.2.2.1, t4.2.2.2.2.1, t4.2.2.2.2.2.1, t4.2.2.2.2.2.2.1, t4.2.2.2.2.2.2.2.1, t4.2.2.2.2.2.2.2.2.1, t4.2.2.2.2.2.2.2.2.2.1, t4.2.2.2.2.2.2.2.2.2.2.1, t4.2.2.2.2.2.2.2.2.2.2.2.1, t4.2.2.2.2.2.2.2.2.2.2.2.2) else none else none else none else none else k1 ()
def kp k0 k1 := zL (@ZF R k0 k1) Y3
def ZG (x : yrN) : Option Bool :=
 Option.bind (Jg (x.1, x.2.1, x.2.2.2.2.2.2.1, x.2.2.2.2.2.2.2.1)) fun r1 => Option.bind (bif (!r1) then some true else Option.bind (Jh (x.2.2.1, x.2.2.2.2.2.2.2.2.1)) fun r3 => some (!r3)) fun u2 => Option.bind (bif u2 then some true else Option.bind (jn (x.2.2.2.1, x.2.2.2.2.2.2.2.2.2.1)) fun r5 => some (!r5)) fun u4 => Option.bind (bif u4 then some true else some ((List.length x.2.2.2.2.1 : Int) != (List.length x.2.2.2.2.2.2.2.2.2.2.1 : Int))) fun u6 => Option.bind (bif u6 then some true else some (x.2.2.2.2.2.1 != x.2.2.2.2.2.2.2.2.2.2.2)) fun u7 => bif u7 then some false else kp (fun x8 => some x8) (fun x9 => some true) ((0 : Int), x.1, x.2.1, x.2.2.1, x.2.2.2.1, x.2.2.2.2.1, x.2.2.2.2.2.1, x.2.2.2.2.2.2.1, x.2.2.2.2.2.2.2.1, x.2.2.2.2.2.2.2.2.1, x.2.2.2.2.2.2.2.2.2.1, x.2.2.2.2.2.2.2.2.2.2.1, x.2.2.2.2.2.2.2.2.2.2.2)
def yvk : List QF := [q43, q44, q45]
def y9y (t : ylS) : St := ⟨dd 2 (.box 2 0 :: .box 3 0 :: .dead :: vI t.1 :: dd 56 []), [(2, .box [z9 t.2.1, yA t.2.2.1, zl t.2.2.2.1, yW t.2.2.2.2.1, Y0 t.2.2.2.2.2.1, vI t.2.2.2.2.2.2.1]), (3, .box [z9 t.2.2.2.2.2.2.2.1, yA t.2.2.2.2.2.2.2.2.1, zl t.2.2.2.2.2.2.2.2.2.1, yW t.2.2.2.2.2.2.2.2.2.2.1, Y0 t.2.2.2.2.2.2.2.2.2.2.2.1, vI t.2.2.2.2.2.2.2.2.2.2.2.2])]⟩
def yq0 : Gk ko := fun κ => ZF (fun t => κ none ⟨dd 4 (vB t :: dd 57 []), []⟩) (fun t => κ (some 0) ⟨dd 62 [], []⟩)
def yvl : Lp := lpC 4 (unG ylT y9y) @yq0 lpN
theorem yvm : LF yvk yvl 12 4 Tryz.f12 0 y9y @yq0 fun t => t := fun R κ again t => by kernel_rfl
theorem yvn : LK yvk yvl 12 Tryz.f12 0 := lkN (u := (unG ylT y9y)) (yw fun t => by kernel_rfl) yvm
theorem yAs : EV yvk yvl 12 Tryz.f12 yxJ yrO [.bool] ZG := fun x => by kernel_rfl
def q12 : QF := ⟨12, ZG, okN (n := 1) Tryz.func12 ⟨yvn, trivial⟩ yAs⟩
def jo (x : yqC) : Option yce :=
 Option.bind (JD (x.2.2.1, x.2.2.2.2)) fun r1 => if (0 : Int) ≤ (if (List.length r1 : Int) < (1 : Int) then (List.length r1 : Int) else (1 : Int)) then if (if (List.length r1 : Int) < (1 : Int) then (List.length r1 : Int) else (1 : Int)) ≤ (List.length r1 : Int) then if (List.length r1 : Int) ≤ (List.length r1 : Int) then Option.bind (ZW (x.1, x.2.1, x.2.2.2.1, (List.drop (Int.toNat (if (List.length r1 : Int) < (1 : Int) then (List.length r1 : Int) else (1 : Int))) (List.take (Int.toNat (List.length r1 : Int)) r1)))) fun r2 => some r2 else none else none else none
theorem yAt : EV [yya, yyb] lpN 85 Tryz.f85 yxK yqD ycf jo := fun x => by kernel_rfl
def q85 : QF := ⟨85, jo, okN (n := 0) Tryz.func85 trivial yAt⟩
def ZX (x : yre) : Option yf0 :=
 if (0 : Int) ≤ x.2.2.2.2.2.2.1 then if x.2.2.2.2.2.2.1 < (List.length x.2.2.2.2.1 : Int) then Option.bind (jo (x.1, x.2.1, x.2.2.1, x.2.2.2.2.2.2.2, (yc x.2.2.2.2.1 x.2.2.2.2.2.2.1).2.1)) fun r1 => Option.bind (bif r1.2.2.2.2.2 then some (r1.2.2.1 == (1 : Int)) else some false) fun u2 => bif u2 then Option.bind (zG (x.1, x.2.1, x.2.2.1, x.2.2.2.1, x.2.2.2.2.1, x.2.2.2.2.2.1, x.2.2.2.2.2.2.2, (yc x.2.2.2.2.1 x.2.2.2.2.2.2.1).2.1, (2 : Int), (0 : Int), (0 : Int))) fun r3 => some r3 else Option.bind (JE (x.1, x.2.1, x.2.2.2.2.2.2.2, (yc x.2.2.2.2.1 x.2.2.2.2.2.2.1).2.1)) fun r4 => bif r4.2.2.2.2.2 then Option.bind (zG (x.1, x.2.1, x.2.2.1, x.2.2.2.1, x.2.2.2.2.1, x.2.2.2.2.2.1, x.2.2.2.2.2.2.2, (yc x.2.2.2.2.1 x.2.2.2.2.2.2.1).2.1, (0 : Int), (0 : Int), (0 : Int))) fun r5 => some r5 else some (true, x.1, x.2.1, x.2.2.1, x.2.2.2.1, x.2.2.2.2.1, x.2.2.2.2.2.1) else none else none
theorem yAu : EV [q41, q82, q85] lpN 46 Tryz.f46 yxL yrf ykC ZX := fun x => by kernel_rfl
def q46 : QF := ⟨46, ZX, okN (n := 0) Tryz.func46 trivial yAu⟩
def jw (x : ykf) : Option y7L :=
 Option.bind (Yq (x.1, x.2.1, x.2.2.1, x.2.2.2.1, x.2.2.2.2.1, x.2.2.2.2.2.1, x.2.2.2.2.2.2.1, x.2.2.2.2.2.2.2, true)) fun r1 => bif (r1.2 != (0 : Int)) then Option.bind (z3 (x.1, x.2.1, x.2.2.1, x.2.2.2.1, x.2.2.2.2.1, x.2.2.2.2.2.1)) fun r2 => some (r2.1, r2.2.1, r2.2.2.1, r2.2.2.2.1, r2.2.2.2.2.1, r2.2.2.2.2.2, r1.2) else Option.bind (z3 (x.1, x.2.1, x.2.2.1, x.2.2.2.1, x.2.2.2.2.1, x.2.2.2.2.2.1)) fun r3 => Option.bind (ZX (r3.1, r3.2.1, r3.2.2.1, r3.2.2.2.1, r3.2.2.2.2.1, r3.2.2.2.2.2, r1.1, x.2.2.2.2.2.2.2)) fun r4 => Option.bind (YD (x.1, x.2.1, x.2.2.1, x.2.2.2.1, x.2.2.2.2.1, x.2.2.2.2.2.1, r4.2.1, r4.2.2.1, r4.2.2.2.1, r4.2.2.2.2.1, r4.2.2.2.2.2.1, r4.2.2.2.2.2.2, r4.1)) fun r5 => some r5
theorem yAv : EV [q36, q39, q42, q46] lpN 13 Tryz.f13 yxM ykg y7M jw := fun x => by kernel_rfl
def q13 : QF := ⟨13, jw, okN (n := 0) Tryz.func13 trivial yAv⟩
abbrev JF : Type := ylU
def JG (k0 : yrP → Option R) (k1 : yhW → Option R) (again : JF → Option R) (t17 : JF) : Option R :=
 if (0 : Int) ≤ t17.2.2.2.1 then if t17.2.2.2.1 < (List.length t17.2.2.2.2.2.2.2.2.2.1 : Int) then bif (decide (t17.2.2.2.2.1 < (yc t17.2.2.2.2.2.2.2.2.2.1 t17.2.2.2.1).2.2.1)) then if (0 : Int) ≤ t17.2.2.2.1 then if t17.2.2.2.1 < (List.length t17.2.2.2.2.2.2.2.2.2.1 : Int) then Option.bind (Y7 (t17.2.2.2.2.2.1, t17.2.2.2.2.2.2.1, t17.2.2.2.2.2.2.2.1, t17.2.2.2.2.2.2.2.2.1, t17.2.2.2.2.2.2.2.2.2.1, t17.2.2.2.2.2.2.2.2.2.2.1, (yc t17.2.2.2.2.2.2.2.2.2.1 t17.2.2.2.1).1, t17.2.2.2.2.1)) fun r13 => if (0 : Int) ≤ t17.2.2.2.1 then if t17.2.2.2.1 < (List.length t17.2.2.2.2.2.2.2.2.2.1 : Int) then Option.bind (Y7 (t17.2.2.2.2.2.2.2.2.2.2.2.2.2.2.2.1, t17.2.2.2.2.2.2.2.2.2.2.2.2.2.2.2.2.1, t17.2.2.2.2.2.2.2.2.2.2.2.2.2.2.2.2.2.1, t17.2.2.2.2.2.2.2.2.2.2.2.2.2.2.2.2.2.2.1, t17.2.2.2.2.2.2.2.2.2.2.2.2.2.2.2.2.2.2.2.1, t17.2.2.2.2.2.2.2.2.2.2.2.2.2.2.2.2.2.2.2.2, (yc t17.2.2.2.2.2.2.2.2.2.1 t17.2.2.2.1).1, t17.2.2.2.2.1)) fun r14 => Option.bind (bif (r13.2 != (0 : Int)) then some true else some (r14.2 != (0 : Int))) fun u15 => Option.bind (bif u15 then some true else Option.bind (bif (t17.2.2.2.1 == t17.2.1) then some (t17.2.2.2.2.1 == t17.2.2.1) else some false) fun u17 => Option.bind (bif u17 then Option.bind (w8 (t17.1, (4 : Int))) fun r19 => some (r14.1 != r19) else some false) fun u18 => some u18) fun u16 => Option.bind (bif u16 then some true else Option.bind (bif (t17.2.2.2.1 != t17.2.1) then some true else some (t17.2.2.2.2.1 != t17.2.2.1)) fun u21 => Option.bind (bif u21 then some (r13.1 != r14.1) else some false) fun u22 => some u22) fun u20 => bif u20 then k0 (t17.1, false, t17.2.1, t17.2.2.1, t17.2.2.2.1, t17.2.2.2.2.2) else again (t17.1, t17.2.1, t17.2.2.1, t17.2.2.2.1, (Go.IntKind.wrap .i64 (t17.2.2.2.2.1 + (1 : Int))), t17.2.2.2.2.2.1, t17.2.2.2.2.2.2.1, t17.2.2.2.2.2.2.2.1, t17.2.2.2.2.2.2.2.2.1, t17.2.2.2.2.2.2.2.2.2.1, t17.2.2.2.2.2.2.2.2.2.2.1, t17.2.2.2.2.2.2.2.2.2.2.2.1, t17.2.2.2.2.2.2.2.2.2.2.2.2.1, t17.2.2.2.2.2.2.2.2.2.2.2.2.2.1, t17.2.2.2.2.2.2.2.2.2.2.2.2.2.2.1, t17.2.2.2.2.2.2.2.2.2.2.2.2.2.2.2.1, t17.2.2.2.2.2.2.2.2.2.2.2.2.2.2.2.2.1, t17.2.2.2.2.2.2.2.2.2.2.2.2.2.2.2.2.2.1, t17.2.2.2.2.2.2.2.2.2.2.2.2.2.2.2.2.2.2.1, t17.2.2.2.2.2.2.2.2.2.2.2.2.2.2.2.2.2.2.2.1, t17.2.2.2.2.2.2.2.2.2.2.2.2.2.2.2.2.2.2.2.2) else none else none else none else none else k1 (t17.1, t17.2.1, t17.2.2.1, t17.2.2.2.1, t17.2.2.2.2.2) else none else none
def kq k0 k1 := zL (@JG R k0 k1) Y3
abbrev JH : Type := yhW
def JI (k0 : yrQ → Option R) (k1 : yrR → Option R) (again : JH → Option R) (t14 : JH) : Option R :=
 bif (decide (t14.2.2.2.1 < (List.length t14.2.2.2.2.2.2.2.2.1 : Int))) then kq (fun x23 => k0 (x23.2.1, x23.2.2.2.1, x23.2.2.2.2.2.2.2.2.2.2.2)) (fun x24 => again (x24.1, x24.2.1, x24.2.2.1, (Go.IntKind.wrap .i64 (x24.2.2.2.1 + (1 : Int))), x24.2.2.2.2.1, x24.2.2.2.2.2.1, x24.2.2.2.2.2.2.1, x24.2.2.2.2.2.2.2.1, x24.2.2.2.2.2.2.2.2.1, x24.2.2.2.2.2.2.2.2.2.1, x24.2.2.2.2.2.2.2.2.2.2.1, x24.2.2.2.2.2.2.2.2.2.2.2.1, x24.2.2.2.2.2.2.2.2.2.2.2.2.1, x24.2.2.2.2.2.2.2.2.2.2.2.2.2.1, x24.2.2.2.2.2.2.2.2.2.2.2.2.2.2.1, x24.2.2.2.2.2.2.2.2.2.2.2.2.2.2.2.1, x24.2.2.2.2.2.2.2.2.2.2.2.2.2.2.2.2.1, x24.2.2.2.2.2.2.2.2.2.2.2.2.2.2.2.2.2.1, x24.2.2.2.2.2.2.2.2.2.2.2.2.2.2.2.2.2.2.1, x24.2.2.2.2.2.2.2.2.2.2.2.2.2.2.2.2.2.2.2)) (t14.1, t14.2.1, t14.2.2.1, t14.2.2.2.1, (0 : Int), t14.2.2.2.2.1, t14.2.2.2.2.2.1, t14.2.2.2.2.2.2.1, t14.2.2.2.2.2.2.2.1, t14.2.2.2.2.2.2.2.2.1, t14.2.2.2.2.2.2.2.2.2.1, t14.2.2.2.2.2.2.2.2.2.2.1, t14.2.2.2.2.2.2.2.2.2.2.2.1, t14.2.2.2.2.2.2.2.2.2.2.2.2.1, t14.2.2.2.2.2.2.2.2.2.2.2.2.2.1, t14.2.2.2.2.2.2.2.2.2.2.2.2.2.2.1, t14.2.2.2.2.2.2.2.2.2.2.2.2.2.2.2.1, t14.2.2.2.2.2.2.2.2.2.2.2.2.2.2.2.2.1, t14.2.2.2.2.2.2.2.2.2.2.2.2.2.2.2.2.2.1, t14.2.2.2.2.2.2.2.2.2.2.2.2.2.2.2.2.2.2.1, t14.2.2.2.2.2.2.2.2.2.2.2.2.2.2.2.2.2.2.2) else k1 (t14.2.2.1, t14.2.2.2.2.2.2.2.2.2.2)
def kr k0 k1 := zL (@JI R k0 k1) Y3
def Zi (x : List y29) : Option Bool :=
 Option.bind (QA x) fun r1 => bif r1 then some true else Option.bind (J0 x) fun r2 => bif ((List.length r2.2.2.2.2.1 : Int) == (0 : Int)) then Option.bind (Y7 (r2.1, r2.2.1, r2.2.2.1, r2.2.2.2.1, r2.2.2.2.2.1, r2.2.2.2.2.2.1, { data := #[97] }, (0 : Int))) fun r3 => Option.bind (bif (r3.1 == (0 : Int)) then some (r3.2 == (2 : Int)) else some false) fun u4 => some u4 else Option.bind (w8 (x, (2 : Int))) fun r5 => if (List.length r2.2.2.2.2.1 : Int) = 0 then none else if (0 : Int) ≤ (Int.tmod r5 (List.length r2.2.2.2.2.1 : Int)) then if (Int.tmod r5 (List.length r2.2.2.2.2.1 : Int)) < (List.length r2.2.2.2.2.1 : Int) then Option.bind (w8 (x, (3 : Int))) fun r6 => if (yc r2.2.2.2.2.1 (Int.tmod r5 (List.length r2.2.2.2.2.1 : Int))).2.2.1 = 0 then none else Option.bind (w8 (x, (4 : Int))) fun r7 => Option.bind (ZK (r2.1, r2.2.1, r2.2.2.1, r2.2.2.2.1, r2.2.2.2.2.1, r2.2.2.2.2.2.1, (yc r2.2.2.2.2.1 (Int.tmod r5 (List.length r2.2.2.2.2.1 : Int))).1, (Int.tmod r6 ((yc r2.2.2.2.2.1 (Int.tmod r5 (List.length r2.2.2.2.2.1 : Int))).2.2.1)), r7)) fun r8 => bif (r8.2.2.2.2.2.2 != (0 : Int)) then Option.bind (ZG (r8.1, r8.2.1, r8.2.2.1, r8.2.2.2.1, r8.2.2.2.2.1, r8.2.2.2.2.2.1, r2.1, r2.2.1, r2.2.2.1, r2.2.2.2.1, r2.2.2.2.2.1, r2.2.2.2.2.2.1)) fun r9 => Option.bind (bif r9 then some ((r8.2.2.2.2.2.2 == (5 : Int)) == (yc r2.2.2.2.2.1 (Int.tmod r5 (List.length r2.2.2.2.2.1 : Int))).2.2.2) else some false) fun u10 => Option.bind (bif u10 then Option.bind (bif (r8.2.2.2.2.2.2 == (6 : Int)) then some true else some ((yc r2.2.2.2.2.1 (Int.tmod r5 (List.length r2.2.2.2.2.1 : Int))).2.2.2)) fun u12 => some u12 else some false) fun u11 => some u11 else kr (fun x25 => some x25.1) (fun x26 => Option.bind (jw (x26.2.2.2.2.2.1, x26.2.2.2.2.2.2.1, x26.2.2.2.2.2.2.2.1, x26.2.2.2.2.2.2.2.2.1, x26.2.2.2.2.2.2.2.2.2.1, x26.2.2.2.2.2.2.2.2.2.2, x26.2.1, x26.1)) fun r27 => Option.bind (Y7 (r27.1, r27.2.1, r27.2.2.1, r27.2.2.2.1, r27.2.2.2.2.1, r27.2.2.2.2.2.1, x26.2.1, x26.1)) fun r28 => Option.bind (bif (!x26.2.2.2.2.1) then Option.bind (bif (r27.2.2.2.2.2.2 == (0 : Int)) then some (r28.1 == (0 : Int)) else some false) fun u30 => Option.bind (bif u30 then some true else some (r27.2.2.2.2.2.2 == (6 : Int))) fun u31 => some u31 else some false) fun u29 => Option.bind (bif u29 then some (r28.2 == (0 : Int)) else some false) fun u32 => some u32) (x, (Int.tmod r5 (List.length r2.2.2.2.2.1 : Int)), (Int.tmod r6 ((yc r2.2.2.2.2.1 (Int.tmod r5 (List.length r2.2.2.2.2.1 : Int))).2.2.1)), (0 : Int), r2.1, r2.2.1, r2.2.2.1, r2.2.2.2.1, r2.2.2.2.2.1, r2.2.2.2.2.2.1, (yc r2.2.2.2.2.1 (Int.tmod r5 (List.length r2.2.2.2.2.1 : Int))).1, (yc r2.2.2.2.2.1 (Int.tmod r5 (List.length r2.2.2.2.2.1 : Int))).2.1, (yc r2.2.2.2.2.1 (Int.tmod r5 (List.length r2.2.2.2.2.1 : Int))).2.2.1, (yc r2.2.2.2.2.1 (Int.tmod r5 (List.length r2.2.2.2.2.1 : Int))).2.2.2, r8.1, r8.2.1, r8.2.2.1, r8.2.2.2.1, r8.2.2.2.2.1, r8.2.2.2.2.2.1) else none else none
def f3Q : List QF := [q7, q8, q9, q10, q11, q12, q13]
def y9z (t : ylU) : St := ⟨yea t.1 :: dd 2 (.box 3 0 :: dd 3 (vI t.2.1 :: .box 8 0 :: vI t.2.2.1 :: .box 10 0 :: .dead :: vI t.2.2.2.1 :: vI t.2.2.2.2.1 :: dd 189 [])), [(3, .box [z9 t.2.2.2.2.2.1, yA t.2.2.2.2.2.2.1, zl t.2.2.2.2.2.2.2.1, yW t.2.2.2.2.2.2.2.2.1, Y0 t.2.2.2.2.2.2.2.2.2.1, vI t.2.2.2.2.2.2.2.2.2.2.1]), (8, .box [vS t.2.2.2.2.2.2.2.2.2.2.2.1, vI t.2.2.2.2.2.2.2.2.2.2.2.2.1, vI t.2.2.2.2.2.2.2.2.2.2.2.2.2.1, vB t.2.2.2.2.2.2.2.2.2.2.2.2.2.2.1]), (10, .box [z9 t.2.2.2.2.2.2.2.2.2.2.2.2.2.2.2.1, yA t.2.2.2.2.2.2.2.2.2.2.2.2.2.2.2.2.1, zl t.2.2.2.2.2.2.2.2.2.2.2.2.2.2.2.2.2.1, yW t.2.2.2.2.2.2.2.2.2.2.2.2.2.2.2.2.2.2.1, Y0 t.2.2.2.2.2.2.2.2.2.2.2.2.2.2.2.2.2.2.2.1, vI t.2.2.2.2.2.2.2.2.2.2.2.2.2.2.2.2.2.2.2.2])]⟩
def yq1 : Gk JF := fun κ => JG (fun t => κ none ⟨yea t.1 :: .dead :: vB t.2.1 :: .box 3 0 :: dd 3 (vI t.2.2.1 :: .box 8 0 :: vI t.2.2.2.1 :: .box 10 0 :: .dead :: vI t.2.2.2.2.1 :: dd 190 []), [(3, .box [z9 t.2.2.2.2.2.1, yA t.2.2.2.2.2.2.1, zl t.2.2.2.2.2.2.2.1, yW t.2.2.2.2.2.2.2.2.1, Y0 t.2.2.2.2.2.2.2.2.2.1, vI t.2.2.2.2.2.2.2.2.2.2.1]), (8, .box [vS t.2.2.2.2.2.2.2.2.2.2.2.1, vI t.2.2.2.2.2.2.2.2.2.2.2.2.1, vI t.2.2.2.2.2.2.2.2.2.2.2.2.2.1, vB t.2.2.2.2.2.2.2.2.2.2.2.2.2.2.1]), (10, .box [z9 t.2.2.2.2.2.2.2.2.2.2.2.2.2.2.2.1, yA t.2.2.2.2.2.2.2.2.2.2.2.2.2.2.2.2.1, zl t.2.2.2.2.2.2.2.2.2.2.2.2.2.2.2.2.2.1, yW t.2.2.2.2.2.2.2.2.2.2.2.2.2.2.2.2.2.2.1, Y0 t.2.2.2.2.2.2.2.2.2.2.2.2.2.2.2.2.2.2.2.1, vI t.2.2.2.2.2.2.2.2.2.2.2.2.2.2.2.2.2.2.2.2])]⟩) (fun t => κ (some 2) ⟨yea t.1 :: dd 2 (.box 3 0 :: dd 3 (vI t.2.1 :: .box 8 0 :: vI t.2.2.1 :: .box 10 0 :: .dead :: vI t.2.2.2.1 :: dd 190 [])), [(3, .box [z9 t.2.2.2.2.1, yA t.2.2.2.2.2.1, zl t.2.2.2.2.2.2.1, yW t.2.2.2.2.2.2.2.1, Y0 t.2.2.2.2.2.2.2.2.1, vI t.2.2.2.2.2.2.2.2.2.1]), (8, .box [vS t.2.2.2.2.2.2.2.2.2.2.1, vI t.2.2.2.2.2.2.2.2.2.2.2.1, vI t.2.2.2.2.2.2.2.2.2.2.2.2.1, vB t.2.2.2.2.2.2.2.2.2.2.2.2.2.1]), (10, .box [z9 t.2.2.2.2.2.2.2.2.2.2.2.2.2.2.1, yA t.2.2.2.2.2.2.2.2.2.2.2.2.2.2.2.1, zl t.2.2.2.2.2.2.2.2.2.2.2.2.2.2.2.2.1, yW t.2.2.2.2.2.2.2.2.2.2.2.2.2.2.2.2.2.1, Y0 t.2.2.2.2.2.2.2.2.2.2.2.2.2.2.2.2.2.2.1, vI t.2.2.2.2.2.2.2.2.2.2.2.2.2.2.2.2.2.2.2])]⟩)
def y9A (t : yhW) : St := ⟨yea t.1 :: dd 2 (.box 3 0 :: dd 3 (vI t.2.1 :: .box 8 0 :: vI t.2.2.1 :: .box 10 0 :: .dead :: vI t.2.2.2.1 :: dd 190 [])), [(3, .box [z9 t.2.2.2.2.1, yA t.2.2.2.2.2.1, zl t.2.2.2.2.2.2.1, yW t.2.2.2.2.2.2.2.1, Y0 t.2.2.2.2.2.2.2.2.1, vI t.2.2.2.2.2.2.2.2.2.1]), (8, .box [vS t.2.2.2.2.2.2.2.2.2.2.1, vI t.2.2.2.2.2.2.2.2.2.2.2.1, vI t.2.2.2.2.2.2.2.2.2.2.2.2.1, vB t.2.2.2.2.2.2.2.2.2.2.2.2.2.1]), (10, .box [z9 t.2.2.2.2.2.2.2.2.2.2.2.2.2.2.1, yA t.2.2.2.2.2.2.2.2.2.2.2.2.2.2.2.1, zl t.2.2.2.2.2.2.2.2.2.2.2.2.2.2.2.2.1, yW t.2.2.2.2.2.2.2.2.2.2.2.2.2.2.2.2.2.1, Y0 t.2.2.2.2.2.2.2.2.2.2.2.2.2.2.2.2.2.2.1, vI t.2.2.2.2.2.2.2.2.2.2.2.2.2.2.2.2.2.2.2])]⟩
def yq2 : Gk JH := fun κ => JI (fun t => κ none ⟨dd 2 (vB t.1 :: dd 5 (.box 8 0 :: vI t.2.1 :: .box 10 0 :: dd 192 [])), [(8, .box [vS t.2.2.1, vI t.2.2.2.1, vI t.2.2.2.2.1, vB t.2.2.2.2.2.1]), (10, .box [z9 t.2.2.2.2.2.2.1, yA t.2.2.2.2.2.2.2.1, zl t.2.2.2.2.2.2.2.2.1, yW t.2.2.2.2.2.2.2.2.2.1, Y0 t.2.2.2.2.2.2.2.2.2.2.1, vI t.2.2.2.2.2.2.2.2.2.2.2])]⟩) (fun t => κ (some 0) ⟨dd 8 (.box 8 0 :: vI t.1 :: .box 10 0 :: dd 192 []), [(8, .box [vS t.2.1, vI t.2.2.1, vI t.2.2.2.1, vB t.2.2.2.2.1]), (10, .box [z9 t.2.2.2.2.2.1, yA t.2.2.2.2.2.2.1, zl t.2.2.2.2.2.2.2.1, yW t.2.2.2.2.2.2.2.2.1, Y0 t.2.2.2.2.2.2.2.2.2.1, vI t.2.2.2.2.2.2.2.2.2.2])]⟩)
def f3P : Lp := lpC 14 (unG ylW y9A) @yq2 (lpC 17 (unG ylV y9z) @yq1 lpN)
theorem yvo : LF f3Q f3P 3 17 Tryz.f3 1 y9z @yq1 fun t => t := fun R κ again t => by kernel_rfl
theorem yvp : LK f3Q f3P 3 Tryz.f3 1 := lkN (u := (unG ylV y9z)) (yw fun t => by kernel_rfl) yvo
theorem yvq : LF f3Q f3P 3 14 Tryz.f3 0 y9A @yq2 fun t => t := fun R κ again t => by kernel_rfl
theorem yvr : LK f3Q f3P 3 Tryz.f3 0 := lkN (u := (unG ylW y9A)) (yw fun t => by kernel_rfl) yvq
theorem ev3 : EV f3Q f3P 3 Tryz.f3 sg3 [(.sl 5 wV)] [.bool] Zi := fun x => by kernel_rfl
def q3 : QF := ⟨3, Zi, okN (n := 2) Tryz.func3 ⟨yvr, yvp, trivial⟩ ev3⟩
end
end Go.Proofs.YtjllpipmaejeoaaGreat.XR
