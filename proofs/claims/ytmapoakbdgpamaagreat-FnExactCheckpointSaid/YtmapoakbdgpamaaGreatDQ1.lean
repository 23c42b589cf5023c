/- What functions compute, and that they do; part 1 of Q; by a program (dec.py). No condition. -/
import Derived.Test.YtmapoakbdgpamaaGreatDQ0
set_option linter.all false
namespace Go.Proofs.YtmapoakbdgpamaaGreat.XQ
open Go.Proofs.YtmapoakbdgpamaaGreat.R
set_option maxRecDepth 100000
noncomputable section
variable {R : Type}
abbrev KU : Type := ypO
def ZY (k0 : yls → Option R) (k1 : ybg → Option R) (again : KU → Option R) (t4 : KU) : Option R :=
 bif (decide (t4.2.2.1 < t4.2.1)) then if (0 : Int) ≤ t4.2.2.1 then if t4.2.2.1 < (List.length t4.2.2.2.2.2.2.2.2.2.2 : Int) then Option.bind (Zq (t4.2.2.2.2.2.1, (y0 t4.2.2.2.2.2.2.2.2.2.2 t4.2.2.1).2.1)) fun r2 => bif (decide (r2 < (0 : Int))) then k0 (false, t4.1, t4.2.2.2.1, t4.2.2.2.2.1, t4.2.2.2.2.2.1, t4.2.2.2.2.2.2.1, t4.2.2.2.2.2.2.2.1, t4.2.2.2.2.2.2.2.2.1) else bif ((y0 t4.2.2.2.2.2.2.2.2.2.2 t4.2.2.1).2.2.1 != (1 : Int)) then again (t4.1, t4.2.1, (Go.IntKind.wrap .i64 (t4.2.2.1 + (1 : Int))), t4.2.2.2.1, t4.2.2.2.2.1, t4.2.2.2.2.2.1, t4.2.2.2.2.2.2.1, t4.2.2.2.2.2.2.2.1, t4.2.2.2.2.2.2.2.2.1, t4.2.2.2.2.2.2.2.2.2.1, t4.2.2.2.2.2.2.2.2.2.2) else Option.bind (WH (t4.2.2.2.2.2.2.1, (y0 t4.2.2.2.2.2.2.2.2.2.2 t4.2.2.1).2.2.2.1, (y0 t4.2.2.2.2.2.2.2.2.2.2 t4.2.2.1).2.2.2.2)) fun r3 => Option.bind (bif (!r3.2) then some true else if (0 : Int) ≤ (y0 t4.2.2.2.2.2.2.2.2.2.2 t4.2.2.1).2.2.2.1 then if (y0 t4.2.2.2.2.2.2.2.2.2.2 t4.2.2.1).2.2.2.1 < (List.length t4.2.2.2.2.2.2.2.2.2.1 : Int) then some (yfy t4.2.2.2.2.2.2.2.2.2.1 ((y0 t4.2.2.2.2.2.2.2.2.2.2 t4.2.2.1).2.2.2.1)) else none else none) fun u4 => bif u4 then k0 (false, t4.1, t4.2.2.2.1, t4.2.2.2.2.1, t4.2.2.2.2.2.1, t4.2.2.2.2.2.2.1, t4.2.2.2.2.2.2.2.1, t4.2.2.2.2.2.2.2.2.1) else if (0 : Int) ≤ (y0 t4.2.2.2.2.2.2.2.2.2.2 t4.2.2.1).2.2.2.1 then if (y0 t4.2.2.2.2.2.2.2.2.2.2 t4.2.2.1).2.2.2.1 < (List.length t4.2.2.2.2.2.2.2.2.2.1 : Int) then again ((Go.IntKind.wrap .i64 (t4.1 + (1 : Int))), t4.2.1, (Go.IntKind.wrap .i64 (t4.2.2.1 + (1 : Int))), t4.2.2.2.1, t4.2.2.2.2.1, t4.2.2.2.2.2.1, t4.2.2.2.2.2.2.1, t4.2.2.2.2.2.2.2.1, t4.2.2.2.2.2.2.2.2.1, (List.set t4.2.2.2.2.2.2.2.2.2.1 (Int.toNat ((y0 t4.2.2.2.2.2.2.2.2.2.2 t4.2.2.1).2.2.2.1)) true), t4.2.2.2.2.2.2.2.2.2.2) else none else none else none else none else k1 (t4.1, t4.2.2.2.1, t4.2.2.2.2.1, t4.2.2.2.2.2.1, t4.2.2.2.2.2.2.1, t4.2.2.2.2.2.2.2.1, t4.2.2.2.2.2.2.2.2.1)
def QI k0 k1 := yS (@ZY R k0 k1) z3
def JP (x : y05) : Option Bool :=
 if (0 : Int) ≤ (24 : Int) then if (24 : Int) ≤ (24 : Int) then if (24 : Int) * ((1 : Nat) : Int) ≤ 140737488351232 then Option.bind (Zc (x.1, x.2.1)) fun r1 => QI (fun x5 => some x5.1) (fun x6 => Option.bind (ZX x6.2.2.2.2.1) fun r7 => some (r7 == x6.1)) ((0 : Int), (List.length r1 : Int), (0 : Int), x.1, x.2.1, x.2.2.1, x.2.2.2.1, x.2.2.2.2.1, x.2.2.2.2.2, (List.replicate (Int.toNat (24 : Int)) yfx), r1) else none else none else none
def ynk : List QF := [yA5, yGI, yGJ, yGK]
def y8C (t : ypO) : St := ⟨.dead :: .box 1 0 :: .dead :: .own 10000000 :: vI t.1 :: dd 7 (.own 10000001 :: vI t.2.1 :: vI t.2.2.1 :: dd 43 []), [(1, .box [zi t.2.2.2.1, yC t.2.2.2.2.1, zr t.2.2.2.2.2.1, yU t.2.2.2.2.2.2.1, Y4 t.2.2.2.2.2.2.2.1, vI t.2.2.2.2.2.2.2.2.1]), (10000000, .root true 4 y4P t.2.2.2.2.2.2.2.2.2.1), (10000001, .root true 106 yg t.2.2.2.2.2.2.2.2.2.2)]⟩
def ykz : Gk KU := fun κ => ZY (fun t => κ none ⟨.dead :: .box 1 0 :: vB t.1 :: .dead :: vI t.2.1 :: dd 53 [], [(1, .box [zi t.2.2.1, yC t.2.2.2.1, zr t.2.2.2.2.1, yU t.2.2.2.2.2.1, Y4 t.2.2.2.2.2.2.1, vI t.2.2.2.2.2.2.2])]⟩) (fun t => κ (some 0) ⟨.dead :: .box 1 0 :: dd 2 (vI t.1 :: dd 53 []), [(1, .box [zi t.2.1, yC t.2.2.1, zr t.2.2.2.1, yU t.2.2.2.2.1, Y4 t.2.2.2.2.2.1, vI t.2.2.2.2.2.2])]⟩)
def ynl : Lp := lpC 4 (unG ypP y8C) @ykz lpN
theorem yvd : LF ynk ynl 136 4 Tryz.f136 0 y8C @ykz fun t => t := fun R κ again t => by kernel_rfl
theorem yve : LK ynk ynl 136 Tryz.f136 0 := lkN (u := (unG ypP y8C)) (ya fun t => by kernel_rfl) yvd
theorem yAg : EV ynk ynl 136 Tryz.f136 ysa wC [.bool] JP := fun x => by kernel_rfl
def yGL : QF := ⟨136, JP, okN (n := 1) Tryz.func136 ⟨yve, trivial⟩ yAg⟩
abbrev Vs : Type := ypQ
def jY (k0 : yhW → Option R) (k1 : y05 → Option R) (again : Vs → Option R) (t4 : Vs) : Option R :=
 bif (decide (t4.2.2.1 < t4.2.1)) then if (0 : Int) ≤ t4.2.2.1 then if t4.2.2.1 < (List.length t4.1 : Int) then bif (decide ((z6 t4.1 t4.2.2.1).1 ≥ t4.2.2.2.2.2.2.2.2)) then k0 (false, t4.2.2.2) else again (t4.1, t4.2.1, (Go.IntKind.wrap .i64 (t4.2.2.1 + (1 : Int))), t4.2.2.2.1, t4.2.2.2.2.1, t4.2.2.2.2.2.1, t4.2.2.2.2.2.2.1, t4.2.2.2.2.2.2.2.1, t4.2.2.2.2.2.2.2.2) else none else none else k1 t4.2.2.2
def y0z k0 k1 := yS (@jY R k0 k1) z3
def Ji (x : y05) : Option Bool :=
 Option.bind (WA (x.1, x.2.1)) fun r1 => Option.bind (bif (!r1) then some true else Option.bind (WB x.2.2.1) fun r3 => some (!r3)) fun u2 => Option.bind (bif u2 then some true else Option.bind (JO x.2.2.2.1) fun r5 => some (!r5)) fun u4 => Option.bind (bif u4 then some true else Option.bind (yd (x.2.2.2.2.2, (1 : Int), (61 : Int))) fun r7 => some (!r7)) fun u6 => bif u6 then some false else y0z (fun x8 => some x8.1) (fun x9 => Option.bind (WG x9) fun r10 => Option.bind (bif r10 then Option.bind (JP x9) fun r12 => some r12 else some false) fun u11 => some u11) (x.2.2.1, (List.length x.2.2.1 : Int), (0 : Int), x.1, x.2.1, x.2.2.1, x.2.2.2.1, x.2.2.2.2.1, x.2.2.2.2.2)
def yAh : List QF := [yGz, yGB, yGD, ybL, yGH, yGL]
def ybM (t : ypQ) : St := ⟨.dead :: .box 1 0 :: dd 26 (zr t.1 :: vI t.2.1 :: vI t.2.2.1 :: dd 15 []), [(1, .box [zi t.2.2.2.1, yC t.2.2.2.2.1, zr t.2.2.2.2.2.1, yU t.2.2.2.2.2.2.1, Y4 t.2.2.2.2.2.2.2.1, vI t.2.2.2.2.2.2.2.2])]⟩
def yvf : Gk Vs := fun κ => jY (fun t => κ none ⟨.dead :: .box 1 0 :: vB t.1 :: dd 43 [], [(1, .box [zi t.2.1, yC t.2.2.1, zr t.2.2.2.1, yU t.2.2.2.2.1, Y4 t.2.2.2.2.2.1, vI t.2.2.2.2.2.2])]⟩) (fun t => κ (some 0) ⟨.dead :: .box 1 0 :: dd 44 [], [(1, .box [zi t.1, yC t.2.1, zr t.2.2.1, yU t.2.2.2.1, Y4 t.2.2.2.2.1, vI t.2.2.2.2.2])]⟩)
def yAi : Lp := lpC 4 (unG ypR ybM) @yvf lpN
theorem yAj : LF yAh yAi 56 4 Tryz.f56 0 ybM @yvf fun t => t := fun R κ again t => by kernel_rfl
theorem yAk : LK yAh yAi 56 Tryz.f56 0 := lkN (u := (unG ypR ybM)) (ya fun t => by kernel_rfl) yAj
theorem yGM : EV yAh yAi 56 Tryz.f56 yCZ wC [.bool] Ji := fun x => by kernel_rfl
def q56 : QF := ⟨56, Ji, okN (n := 1) Tryz.func56 ⟨yAk, trivial⟩ yGM⟩
abbrev Vt : Type := ypS
def z8 (k0 : List z0 → Option R) (again : Vt → Option R) (t3 : Vt) : Option R :=
 bif (decide (t3.2.2.1 < t3.2.1)) then if (0 : Int) ≤ t3.2.2.1 then if t3.2.2.1 < (List.length t3.1 : Int) then if (List.length t3.2.2.2 + List.length (zh t3.1 t3.2.2.1)) * 1 < 140737488355328 then again (t3.1, t3.2.1, (Go.IntKind.wrap .i64 (t3.2.2.1 + (1 : Int))), (t3.2.2.2 ++ (zh t3.1 t3.2.2.1))) else none else none else none else k0 t3.2.2.2
def Vu k0 := yS (@z8 R k0) z3
def yH (x : List y6) : Option (List z0) :=
 Vu (fun x1 => some x1) (x, (List.length x : Int), (0 : Int), ([] : List z0))
def ynm : List QF := []
def y8D (t : ypS) : St := ⟨dd 3 (.own 10000000 :: dd 3 (Yf t.1 :: vI t.2.1 :: vI t.2.2.1 :: dd 8 [])), [(10000000, .root true 5 yu t.2.2.2)]⟩
def ykA : Gk Vt := fun κ => z8 (fun t => κ (some 0) ⟨dd 3 (.own 10000000 :: dd 14 []), [(10000000, .root true 5 yu t)]⟩)
def ynn : Lp := lpC 3 (unG ypT y8D) @ykA lpN
theorem yvg : LF ynm ynn 137 3 Tryz.f137 0 y8D @ykA fun t => t := fun R κ again t => by kernel_rfl
theorem yvh : LK ynm ynn 137 Tryz.f137 0 := lkN (u := (unG ypT y8D)) (ya fun t => by kernel_rfl) yvg
theorem yAl : EV ynm ynn 137 Tryz.f137 ysb [(.sl 32 yc)] [(.sl 5 yu)] yH := fun x => by kernel_rfl
def ynL : QF := ⟨137, yH, okN (n := 1) Tryz.func137 ⟨yvh, trivial⟩ yAl⟩
def zj (x : yli) : Option (List z0) :=
 Option.bind (yH ([x.1, ([(Go.IntKind.wrap .u8 (Go.bits .and .i64 (Int.fdiv x.2 (2 ^ (min (Int.toNat (8 : Int)) (Go.IntKind.bits .i64)))) (255 : Int))), (Go.IntKind.wrap .u8 (Go.bits .and .i64 x.2 (255 : Int)))] : List z0)] : List y6)) fun r1 => some r1
theorem yGN : EV [ynL] lpN 57 Tryz.f57 yD0 ylj [(.sl 5 yu)] zj := fun x => by kernel_rfl
def q57 : QF := ⟨57, zj, okN (n := 0) Tryz.func57 trivial yGN⟩
def JQ (x : yoY) : Option (List z0) :=
 bif (decide (((ByteArray.size x.2 : Nat) : Int) > (60 : Int))) then Option.bind (yH ([x.1] : List y6)) fun r1 => some r1 else Option.bind (zj (x.1, ((ByteArray.size x.2 : Nat) : Int))) fun r2 => if ByteArray.size x.2 < 140737488351232 then Option.bind (yH ([r2, (jp x.2)] : List y6)) fun r3 => some r3 else none
theorem yGO : EV [q57, ynL] lpN 58 Tryz.f58 yD1 yoZ [(.sl 5 yu)] JQ := fun x => by kernel_rfl
def q58 : QF := ⟨58, JQ, okN (n := 0) Tryz.func58 trivial yGO⟩
def Vv (x : Bool) : Option Int :=
 bif x then some (1 : Int) else some (0 : Int)
theorem yGP : EV [] lpN 59 Tryz.f59 yD2 [.bool] [(.int .u8)] Vv := fun x => by kernel_rfl
def q59 : QF := ⟨59, Vv, okN (n := 0) Tryz.func59 trivial yGP⟩
def WJ (x : yp0) : Option (List z0) :=
 Option.bind (yH ([x.1] : List y6)) fun r1 => Option.bind (wB x.2) fun r2 => bif (!r2) then some r1 else if (List.length r1 + List.length ([(Go.IntKind.wrap .u8 x.2.1), (Go.IntKind.wrap .u8 x.2.2.1), (Go.IntKind.wrap .u8 x.2.2.2.1), (Go.IntKind.wrap .u8 x.2.2.2.2.1)] : List z0)) * 1 < 140737488355328 then Option.bind (zj ((r1 ++ ([(Go.IntKind.wrap .u8 x.2.1), (Go.IntKind.wrap .u8 x.2.2.1), (Go.IntKind.wrap .u8 x.2.2.2.1), (Go.IntKind.wrap .u8 x.2.2.2.2.1)] : List z0)), x.2.2.2.2.2)) fun r3 => some r3 else none
theorem yGQ : EV [q57, ynL, yDe] lpN 60 Tryz.f60 yD3 yp1 [(.sl 5 yu)] WJ := fun x => by kernel_rfl
def q60 : QF := ⟨60, WJ, okN (n := 0) Tryz.func60 trivial yGQ⟩
abbrev KV : Type := ypU
def ZZ (k0 : yec → Option R) (again : KV → Option R) (t5 : KV) : Option R :=
 bif (decide (t5.2.2.1 < t5.2.1)) then if (0 : Int) ≤ t5.2.2.1 then if t5.2.2.1 < (List.length t5.1 : Int) then if (List.length t5.2.2.2.2.2.2.2.2.2 + List.length ([(Go.IntKind.wrap .u8 ((z6 t5.1 t5.2.2.1).1)), (Go.IntKind.wrap .u8 ((z6 t5.1 t5.2.2.1).2))] : List z0)) * 1 < 140737488355328 then again (t5.1, t5.2.1, (Go.IntKind.wrap .i64 (t5.2.2.1 + (1 : Int))), t5.2.2.2.1, t5.2.2.2.2.1, t5.2.2.2.2.2.1, t5.2.2.2.2.2.2.1, t5.2.2.2.2.2.2.2.1, t5.2.2.2.2.2.2.2.2.1, (t5.2.2.2.2.2.2.2.2.2 ++ ([(Go.IntKind.wrap .u8 ((z6 t5.1 t5.2.2.1).1)), (Go.IntKind.wrap .u8 ((z6 t5.1 t5.2.2.1).2))] : List z0))) else none else none else none else k0 t5.2.2.2
def KW k0 := yS (@ZZ R k0) z3
abbrev kL : Type := ypW
def Zd (k0 : yec → Option R) (again : kL → Option R) (t11 : kL) : Option R :=
 bif (decide (t11.2.2.1 < t11.2.1)) then if (0 : Int) ≤ t11.2.2.1 then if t11.2.2.1 < (List.length t11.1 : Int) then Option.bind (JQ (t11.2.2.2.2.2.2.2.2.2, (yn t11.1 t11.2.2.1).1)) fun r4 => Option.bind (Vv ((yn t11.1 t11.2.2.1).2.2.2)) fun r5 => if (List.length r4 + List.length ([(Go.IntKind.wrap .u8 ((yn t11.1 t11.2.2.1).2.1)), (Go.IntKind.wrap .u8 ((yn t11.1 t11.2.2.1).2.2.1)), r5] : List z0)) * 1 < 140737488355328 then again (t11.1, t11.2.1, (Go.IntKind.wrap .i64 (t11.2.2.1 + (1 : Int))), t11.2.2.2.1, t11.2.2.2.2.1, t11.2.2.2.2.2.1, t11.2.2.2.2.2.2.1, t11.2.2.2.2.2.2.2.1, t11.2.2.2.2.2.2.2.2.1, (r4 ++ ([(Go.IntKind.wrap .u8 ((yn t11.1 t11.2.2.1).2.1)), (Go.IntKind.wrap .u8 ((yn t11.1 t11.2.2.1).2.2.1)), r5] : List z0))) else none else none else none else k0 t11.2.2.2
def kM k0 := yS (@Zd R k0) z3
abbrev kN : Type := ypY
def Ze (k0 : yec → Option R) (again : kN → Option R) (t16 : kN) : Option R :=
 bif (decide (t16.2.2.1 < t16.2.1)) then if (0 : Int) ≤ t16.2.2.1 then if t16.2.2.1 < (List.length t16.1 : Int) then Option.bind (zj (t16.2.2.2.2.2.2.2.2.2, (yl t16.1 t16.2.2.1).1)) fun r7 => Option.bind (Vv ((yl t16.1 t16.2.2.1).2.1)) fun r8 => if (List.length r7 + List.length ([r8] : List z0)) * 1 < 140737488355328 then Option.bind (zj ((r7 ++ ([r8] : List z0)), (yl t16.1 t16.2.2.1).2.2)) fun r9 => again (t16.1, t16.2.1, (Go.IntKind.wrap .i64 (t16.2.2.1 + (1 : Int))), t16.2.2.2.1, t16.2.2.2.2.1, t16.2.2.2.2.2.1, t16.2.2.2.2.2.2.1, t16.2.2.2.2.2.2.2.1, t16.2.2.2.2.2.2.2.2.1, r9) else none else none else none else k0 t16.2.2.2
def kO k0 := yS (@Ze R k0) z3
abbrev kP : Type := yq0
def Zf (k0 : ylw → Option R) (again : kP → Option R) (t30 : kP) : Option R :=
 bif (decide (t30.2.2.2.2.2.2.2.2.1 < t30.2.2.2.2.2.2.2.1)) then if (0 : Int) ≤ t30.2.2.2.2.2.2.2.2.1 then if t30.2.2.2.2.2.2.2.2.1 < (List.length t30.2.2.2.2.2.2.1 : Int) then Option.bind (WJ (t30.2.2.2.2.2.2.2.2.2.2.2.2.2.2.2, (y0 t30.2.2.2.2.2.2.1 t30.2.2.2.2.2.2.2.2.1).1, (y0 t30.2.2.2.2.2.2.1 t30.2.2.2.2.2.2.2.2.1).2.1, (y0 t30.2.2.2.2.2.2.1 t30.2.2.2.2.2.2.2.2.1).2.2.1, (y0 t30.2.2.2.2.2.2.1 t30.2.2.2.2.2.2.2.2.1).2.2.2.1, (y0 t30.2.2.2.2.2.2.1 t30.2.2.2.2.2.2.2.2.1).2.2.2.2)) fun r12 => again (t30.1, t30.2.1, t30.2.2.1, t30.2.2.2.1, t30.2.2.2.2.1, t30.2.2.2.2.2.1, t30.2.2.2.2.2.2.1, t30.2.2.2.2.2.2.2.1, (Go.IntKind.wrap .i64 (t30.2.2.2.2.2.2.2.2.1 + (1 : Int))), t30.2.2.2.2.2.2.2.2.2.1, t30.2.2.2.2.2.2.2.2.2.2.1, t30.2.2.2.2.2.2.2.2.2.2.2.1, t30.2.2.2.2.2.2.2.2.2.2.2.2.1, t30.2.2.2.2.2.2.2.2.2.2.2.2.2.1, t30.2.2.2.2.2.2.2.2.2.2.2.2.2.2.1, r12) else none else none else k0 (t30.1, t30.2.1, t30.2.2.1, t30.2.2.2.1, t30.2.2.2.2.1, t30.2.2.2.2.2.1, t30.2.2.2.2.2.2.2.2.2)
def kQ k0 := yS (@Zf R k0) z3
abbrev kR : Type := ylw
def Zg (k0 : ylx → Option R) (again : kR → Option R) (t26 : kR) : Option R :=
 bif (decide (t26.2.2.2.2.2.1 < t26.2.2.2.2.1)) then if (0 : Int) ≤ t26.2.2.2.2.2.1 then if t26.2.2.2.2.2.1 < (List.length t26.2.2.2.1 : Int) then if (List.length t26.2.2.2.2.2.2.2.2.2.2.2.2 + List.length ([(Go.IntKind.wrap .u8 (List.length (yh t26.2.2.2.1 t26.2.2.2.2.2.1) : Int))] : List z0)) * 1 < 140737488355328 then kQ (fun x13 => again (x13.1, x13.2.1, x13.2.2.1, x13.2.2.2.1, x13.2.2.2.2.1, (Go.IntKind.wrap .i64 (x13.2.2.2.2.2.1 + (1 : Int))), x13.2.2.2.2.2.2.1, x13.2.2.2.2.2.2.2.1, x13.2.2.2.2.2.2.2.2.1, x13.2.2.2.2.2.2.2.2.2.1, x13.2.2.2.2.2.2.2.2.2.2.1, x13.2.2.2.2.2.2.2.2.2.2.2.1, x13.2.2.2.2.2.2.2.2.2.2.2.2)) (t26.1, t26.2.1, t26.2.2.1, t26.2.2.2.1, t26.2.2.2.2.1, t26.2.2.2.2.2.1, (yh t26.2.2.2.1 t26.2.2.2.2.2.1), (List.length (yh t26.2.2.2.1 t26.2.2.2.2.2.1) : Int), (0 : Int), t26.2.2.2.2.2.2.1, t26.2.2.2.2.2.2.2.1, t26.2.2.2.2.2.2.2.2.1, t26.2.2.2.2.2.2.2.2.2.1, t26.2.2.2.2.2.2.2.2.2.2.1, t26.2.2.2.2.2.2.2.2.2.2.2.1, (t26.2.2.2.2.2.2.2.2.2.2.2.2 ++ ([(Go.IntKind.wrap .u8 (List.length (yh t26.2.2.2.1 t26.2.2.2.2.2.1) : Int))] : List z0))) else none else none else none else k0 (t26.1, t26.2.1, t26.2.2.1, t26.2.2.2.2.2.2)
def kS k0 := yS (@Zg R k0) z3
abbrev kT : Type := ylx
def Zh (k0 : List z0 → Option R) (again : kT → Option R) (t22 : kT) : Option R :=
 bif (decide (t22.2.2.1 < t22.2.1)) then if (0 : Int) ≤ t22.2.2.1 then if t22.2.2.1 < (List.length t22.1 : Int) then if (0 : Int) ≤ t22.2.2.1 then if t22.2.2.1 < (List.length t22.2.2.2.1 : Int) then Option.bind (zj (t22.2.2.2.2.2.2.2.2.2, (zy t22.2.2.2.1 t22.2.2.1))) fun r11 => if (List.length r11 + List.length ([(Go.IntKind.wrap .u8 (List.length (ym t22.1 t22.2.2.1) : Int))] : List z0)) * 1 < 140737488355328 then kS (fun x14 => again (x14.1, x14.2.1, (Go.IntKind.wrap .i64 (x14.2.2.1 + (1 : Int))), x14.2.2.2.1, x14.2.2.2.2.1, x14.2.2.2.2.2.1, x14.2.2.2.2.2.2.1, x14.2.2.2.2.2.2.2.1, x14.2.2.2.2.2.2.2.2.1, x14.2.2.2.2.2.2.2.2.2)) (t22.1, t22.2.1, t22.2.2.1, (ym t22.1 t22.2.2.1), (List.length (ym t22.1 t22.2.2.1) : Int), (0 : Int), t22.2.2.2.1, t22.2.2.2.2.1, t22.2.2.2.2.2.1, t22.2.2.2.2.2.2.1, t22.2.2.2.2.2.2.2.1, t22.2.2.2.2.2.2.2.2.1, (r11 ++ ([(Go.IntKind.wrap .u8 (List.length (ym t22.1 t22.2.2.1) : Int))] : List z0))) else none else none else none else none else none else k0 t22.2.2.2.2.2.2.2.2.2
def kU k0 := yS (@Zh R k0) z3
def JR (x : y05) : Option (List z0) :=
 Option.bind (Ji x) fun r1 => bif (!r1) then some ([] : List z0) else Option.bind (zj (([] : List z0), x.2.2.2.2.2)) fun r2 => if (List.length r2 + List.length ([(Go.IntKind.wrap .u8 (List.length x.2.2.1 : Int))] : List z0)) * 1 < 140737488355328 then KW (fun x3 => if (List.length x3.2.2.2.2.2.2 + List.length ([(Go.IntKind.wrap .u8 (List.length x3.2.2.2.2.1 : Int))] : List z0)) * 1 < 140737488355328 then kM (fun x6 => kO (fun x10 => if (List.length x10.2.2.2.2.2.2 + List.length ([(Go.IntKind.wrap .u8 (List.length x10.2.1 : Int))] : List z0)) * 1 < 140737488355328 then kU (fun x15 => some x15) (x10.2.1, (List.length x10.2.1 : Int), (0 : Int), x10.1, x10.2.1, x10.2.2.1, x10.2.2.2.1, x10.2.2.2.2.1, x10.2.2.2.2.2.1, (x10.2.2.2.2.2.2 ++ ([(Go.IntKind.wrap .u8 (List.length x10.2.1 : Int))] : List z0))) else none) (x6.2.2.2.1, (List.length x6.2.2.2.1 : Int), (0 : Int), x6.1, x6.2.1, x6.2.2.1, x6.2.2.2.1, x6.2.2.2.2.1, x6.2.2.2.2.2.1, x6.2.2.2.2.2.2)) (x3.2.2.2.2.1, (List.length x3.2.2.2.2.1 : Int), (0 : Int), x3.1, x3.2.1, x3.2.2.1, x3.2.2.2.1, x3.2.2.2.2.1, x3.2.2.2.2.2.1, (x3.2.2.2.2.2.2 ++ ([(Go.IntKind.wrap .u8 (List.length x3.2.2.2.2.1 : Int))] : List z0))) else none) (x.2.2.1, (List.length x.2.2.1 : Int), (0 : Int), x.1, x.2.1, x.2.2.1, x.2.2.2.1, x.2.2.2.2.1, x.2.2.2.2.2, (r2 ++ ([(Go.IntKind.wrap .u8 (List.length x.2.2.1 : Int))] : List z0))) else none
def yed : List QF := [q56, q57, q58, q59, q60]
def ybN (t : ypU) : St := ⟨.dead :: .box 1 0 :: .dead :: .own 10000000 :: dd 25 (zr t.1 :: vI t.2.1 :: vI t.2.2.1 :: dd 120 []), [(1, .box [zi t.2.2.2.1, yC t.2.2.2.2.1, zr t.2.2.2.2.2.1, yU t.2.2.2.2.2.2.1, Y4 t.2.2.2.2.2.2.2.1, vI t.2.2.2.2.2.2.2.2.1]), (10000000, .root true 5 yu t.2.2.2.2.2.2.2.2.2)]⟩
def yvi : Gk KV := fun κ => ZZ (fun t => κ (some 0) ⟨.dead :: .box 1 0 :: .dead :: .own 10000000 :: dd 148 [], [(1, .box [zi t.1, yC t.2.1, zr t.2.2.1, yU t.2.2.2.1, Y4 t.2.2.2.2.1, vI t.2.2.2.2.2.1]), (10000000, .root true 5 yu t.2.2.2.2.2.2)]⟩)
def y8E (t : ypW) : St := ⟨.dead :: .box 1 0 :: .dead :: .own 10000000 :: dd 49 (Y4 t.1 :: vI t.2.1 :: vI t.2.2.1 :: dd 96 []), [(1, .box [zi t.2.2.2.1, yC t.2.2.2.2.1, zr t.2.2.2.2.2.1, yU t.2.2.2.2.2.2.1, Y4 t.2.2.2.2.2.2.2.1, vI t.2.2.2.2.2.2.2.2.1]), (10000000, .root true 5 yu t.2.2.2.2.2.2.2.2.2)]⟩
def ykB : Gk kL := fun κ => Zd (fun t => κ (some 2) ⟨.dead :: .box 1 0 :: .dead :: .own 10000000 :: dd 148 [], [(1, .box [zi t.1, yC t.2.1, zr t.2.2.1, yU t.2.2.2.1, Y4 t.2.2.2.2.1, vI t.2.2.2.2.2.1]), (10000000, .root true 5 yu t.2.2.2.2.2.2)]⟩)
def y8F (t : ypY) : St := ⟨.dead :: .box 1 0 :: .dead :: .own 10000000 :: dd 72 (yU t.1 :: vI t.2.1 :: vI t.2.2.1 :: dd 73 []), [(1, .box [zi t.2.2.2.1, yC t.2.2.2.2.1, zr t.2.2.2.2.2.1, yU t.2.2.2.2.2.2.1, Y4 t.2.2.2.2.2.2.2.1, vI t.2.2.2.2.2.2.2.2.1]), (10000000, .root true 5 yu t.2.2.2.2.2.2.2.2.2)]⟩
def ykC : Gk kN := fun κ => Ze (fun t => κ (some 4) ⟨.dead :: .box 1 0 :: .dead :: .own 10000000 :: dd 148 [], [(1, .box [zi t.1, yC t.2.1, zr t.2.2.1, yU t.2.2.2.1, Y4 t.2.2.2.2.1, vI t.2.2.2.2.2.1]), (10000000, .root true 5 yu t.2.2.2.2.2.2)]⟩)
def y8G (t : yq0) : St := ⟨.dead :: .box 1 0 :: .dead :: .own 10000000 :: dd 101 (yC t.1 :: vI t.2.1 :: vI t.2.2.1 :: dd 19 (zC t.2.2.2.1 :: vI t.2.2.2.2.1 :: vI t.2.2.2.2.2.1 :: dd 9 (qE t.2.2.2.2.2.2.1 :: vI t.2.2.2.2.2.2.2.1 :: vI t.2.2.2.2.2.2.2.2.1 :: dd 10 []))), [(1, .box [zi t.2.2.2.2.2.2.2.2.2.1, yC t.2.2.2.2.2.2.2.2.2.2.1, zr t.2.2.2.2.2.2.2.2.2.2.2.1, yU t.2.2.2.2.2.2.2.2.2.2.2.2.1, Y4 t.2.2.2.2.2.2.2.2.2.2.2.2.2.1, vI t.2.2.2.2.2.2.2.2.2.2.2.2.2.2.1]), (10000000, .root true 5 yu t.2.2.2.2.2.2.2.2.2.2.2.2.2.2.2)]⟩
def ykD : Gk kP := fun κ => Zf (fun t => κ (some 10) ⟨.dead :: .box 1 0 :: .dead :: .own 10000000 :: dd 101 (yC t.1 :: vI t.2.1 :: vI t.2.2.1 :: dd 19 (zC t.2.2.2.1 :: vI t.2.2.2.2.1 :: vI t.2.2.2.2.2.1 :: dd 22 [])), [(1, .box [zi t.2.2.2.2.2.2.1, yC t.2.2.2.2.2.2.2.1, zr t.2.2.2.2.2.2.2.2.1, yU t.2.2.2.2.2.2.2.2.2.1, Y4 t.2.2.2.2.2.2.2.2.2.2.1, vI t.2.2.2.2.2.2.2.2.2.2.2.1]), (10000000, .root true 5 yu t.2.2.2.2.2.2.2.2.2.2.2.2)]⟩)
def y8H (t : ylw) : St := ⟨.dead :: .box 1 0 :: .dead :: .own 10000000 :: dd 101 (yC t.1 :: vI t.2.1 :: vI t.2.2.1 :: dd 19 (zC t.2.2.2.1 :: vI t.2.2.2.2.1 :: vI t.2.2.2.2.2.1 :: dd 22 [])), [(1, .box [zi t.2.2.2.2.2.2.1, yC t.2.2.2.2.2.2.2.1, zr t.2.2.2.2.2.2.2.2.1, yU t.2.2.2.2.2.2.2.2.2.1, Y4 t.2.2.2.2.2.2.2.2.2.2.1, vI t.2.2.2.2.2.2.2.2.2.2.2.1]), (10000000, .root true 5 yu t.2.2.2.2.2.2.2.2.2.2.2.2)]⟩
def ykE : Gk kR := fun κ => Zg (fun t => κ (some 8) ⟨.dead :: .box 1 0 :: .dead :: .own 10000000 :: dd 101 (yC t.1 :: vI t.2.1 :: vI t.2.2.1 :: dd 44 []), [(1, .box [zi t.2.2.2.1, yC t.2.2.2.2.1, zr t.2.2.2.2.2.1, yU t.2.2.2.2.2.2.1, Y4 t.2.2.2.2.2.2.2.1, vI t.2.2.2.2.2.2.2.2.1]), (10000000, .root true 5 yu t.2.2.2.2.2.2.2.2.2)]⟩)
def y8I (t : ylx) : St := ⟨.dead :: .box 1 0 :: .dead :: .own 10000000 :: dd 101 (yC t.1 :: vI t.2.1 :: vI t.2.2.1 :: dd 44 []), [(1, .box [zi t.2.2.2.1, yC t.2.2.2.2.1, zr t.2.2.2.2.2.1, yU t.2.2.2.2.2.2.1, Y4 t.2.2.2.2.2.2.2.1, vI t.2.2.2.2.2.2.2.2.1]), (10000000, .root true 5 yu t.2.2.2.2.2.2.2.2.2)]⟩
def ykF : Gk kT := fun κ => Zh (fun t => κ (some 6) ⟨dd 3 (.own 10000000 :: dd 148 []), [(10000000, .root true 5 yu t)]⟩)
def yee : Lp := lpC 22 (unG yq3 y8I) @ykF (lpC 26 (unG yq2 y8H) @ykE (lpC 30 (unG yq1 y8G) @ykD (lpC 16 (unG ypZ y8F) @ykC (lpC 11 (unG ypX y8E) @ykB (lpC 5 (unG ypV ybN) @yvi lpN)))))
theorem yAm : LF yed yee 13 5 Tryz.f13 0 ybN @yvi fun t => t := fun R κ again t => by kernel_rfl
theorem yAn : LK yed yee 13 Tryz.f13 0 := lkN (u := (unG ypV ybN)) (ya fun t => by kernel_rfl) yAm
theorem yvj : LF yed yee 13 11 Tryz.f13 1 y8E @ykB fun t => t := fun R κ again t => by kernel_rfl
theorem yvk : LK yed yee 13 Tryz.f13 1 := lkN (u := (unG ypX y8E)) (ya fun t => by kernel_rfl) yvj
theorem yvl : LF yed yee 13 16 Tryz.f13 2 y8F @ykC fun t => t := fun R κ again t => by kernel_rfl
theorem yvm : LK yed yee 13 Tryz.f13 2 := lkN (u := (unG ypZ y8F)) (ya fun t => by kernel_rfl) yvl
theorem yvn : LF yed yee 13 30 Tryz.f13 5 y8G @ykD fun t => t := fun R κ again t => by kernel_rfl
theorem yvo : LK yed yee 13 Tryz.f13 5 := lkN (u := (unG yq1 y8G)) (ya fun t => by kernel_rfl) yvn
theorem yvp : LF yed yee 13 26 Tryz.f13 4 y8H @ykE fun t => t := fun R κ again t => by kernel_rfl
theorem yvq : LK yed yee 13 Tryz.f13 4 := lkN (u := (unG yq2 y8H)) (ya fun t => by kernel_rfl) yvp
theorem yvr : LF yed yee 13 22 Tryz.f13 3 y8I @ykF fun t => t := fun R κ again t => by kernel_rfl
theorem yvs : LK yed yee 13 Tryz.f13 3 := lkN (u := (unG yq3 y8I)) (ya fun t => by kernel_rfl) yvr
theorem yGR : EV yed yee 13 Tryz.f13 yD4 wC [(.sl 5 yu)] JR := fun x => by kernel_rfl
def q13 : QF := ⟨13, JR, okN (n := 6) Tryz.func13 ⟨yAn, yvk, yvm, yvs, yvq, yvo, trivial⟩ yGR⟩
abbrev KX : Type := yfD ⊕ yfE
def Y1 (k0 : yor → Option R) (k1 : yos → Option R) (again : KX → Option R) : KX → Option R
 | .inl t3 => bif (decide (t3.2.2.1 < t3.2.1)) then if (0 : Int) ≤ t3.2.2.1 then if t3.2.2.1 < (List.length t3.1 : Int) then Option.bind (yH ([(zh t3.1 t3.2.2.1)] : List y6)) fun r1 => if List.length ([r1] : List y6) * 24 < 140737488355328 then again (Sum.inr (t3.1, t3.2.1, (Go.IntKind.wrap .i64 (t3.2.2.1 + (1 : Int))), t3.2.2.2.1, t3.2.2.2.2.1, t3.2.2.2.2.2.1, t3.2.2.2.2.2.2.1, t3.2.2.2.2.2.2.2.1, t3.2.2.2.2.2.2.2.2.1, t3.2.2.2.2.2.2.2.2.2.1, t3.2.2.2.2.2.2.2.2.2.2, ([r1] : List y6))) else none else none else none else k0 t3.2.2.2
 | .inr t3 => bif (decide (t3.2.2.1 < t3.2.1)) then if (0 : Int) ≤ t3.2.2.1 then if t3.2.2.1 < (List.length t3.1 : Int) then Option.bind (yH ([(zh t3.1 t3.2.2.1)] : List y6)) fun r2 => if (List.length t3.2.2.2.2.2.2.2.2.2.2.2 + List.length ([r2] : List y6)) * 24 < 140737488355328 then again (Sum.inr (t3.1, t3.2.1, (Go.IntKind.wrap .i64 (t3.2.2.1 + (1 : Int))), t3.2.2.2.1, t3.2.2.2.2.1, t3.2.2.2.2.2.1, t3.2.2.2.2.2.2.1, t3.2.2.2.2.2.2.2.1, t3.2.2.2.2.2.2.2.2.1, t3.2.2.2.2.2.2.2.2.2.1, t3.2.2.2.2.2.2.2.2.2.2.1, (t3.2.2.2.2.2.2.2.2.2.2.2 ++ ([r2] : List y6)))) else none else none else none else k1 t3.2.2.2
def KY k0 k1 := yS (@Y1 R k0 k1) z3
abbrev KZ : Type := yfF ⊕ ybh ⊕ y7k ⊕ y7l
def yX (k0 : yow → Option R) (k1 : yox → Option R) (k2 : yoy → Option R) (k3 : yhQ → Option R) (again : KZ → Option R) : KZ → Option R
 | .inl t8 => bif (decide (t8.2.2.1 < t8.2.1)) then if (0 : Int) ≤ t8.2.2.1 then if t8.2.2.1 < (List.length t8.1 : Int) then Option.bind (yH ([(yV t8.1 t8.2.2.1).2] : List y6)) fun r13 => if List.length ([((yV t8.1 t8.2.2.1).1, r13)] : List yQ) * 32 < 140737488355328 then again (Sum.inr (Sum.inl (t8.1, t8.2.1, (Go.IntKind.wrap .i64 (t8.2.2.1 + (1 : Int))), t8.2.2.2.1, t8.2.2.2.2.1, t8.2.2.2.2.2.1, t8.2.2.2.2.2.2, ([((yV t8.1 t8.2.2.1).1, r13)] : List yQ)))) else none else none else none else k0 t8.2.2.2
 | .inr (.inl t8) => bif (decide (t8.2.2.1 < t8.2.1)) then if (0 : Int) ≤ t8.2.2.1 then if t8.2.2.1 < (List.length t8.1 : Int) then Option.bind (yH ([(yV t8.1 t8.2.2.1).2] : List y6)) fun r14 => if (List.length t8.2.2.2.2.2.2.2 + List.length ([((yV t8.1 t8.2.2.1).1, r14)] : List yQ)) * 32 < 140737488355328 then again (Sum.inr (Sum.inl (t8.1, t8.2.1, (Go.IntKind.wrap .i64 (t8.2.2.1 + (1 : Int))), t8.2.2.2.1, t8.2.2.2.2.1, t8.2.2.2.2.2.1, t8.2.2.2.2.2.2.1, (t8.2.2.2.2.2.2.2 ++ ([((yV t8.1 t8.2.2.1).1, r14)] : List yQ))))) else none else none else none else k1 t8.2.2.2
 | .inr (.inr (.inl t8)) => bif (decide (t8.2.2.1 < t8.2.1)) then if (0 : Int) ≤ t8.2.2.1 then if t8.2.2.1 < (List.length t8.1 : Int) then Option.bind (yH ([(yV t8.1 t8.2.2.1).2] : List y6)) fun r15 => if List.length ([((yV t8.1 t8.2.2.1).1, r15)] : List yQ) * 32 < 140737488355328 then again (Sum.inr (Sum.inr (Sum.inr (t8.1, t8.2.1, (Go.IntKind.wrap .i64 (t8.2.2.1 + (1 : Int))), t8.2.2.2.1, t8.2.2.2.2.1, t8.2.2.2.2.2.1, t8.2.2.2.2.2.2.1, t8.2.2.2.2.2.2.2, ([((yV t8.1 t8.2.2.1).1, r15)] : List yQ))))) else none else none else none else k2 t8.2.2.2
 | .inr (.inr (.inr t8)) => bif (decide (t8.2.2.1 < t8.2.1)) then if (0 : Int) ≤ t8.2.2.1 then if t8.2.2.1 < (List.length t8.1 : Int) then Option.bind (yH ([(yV t8.1 t8.2.2.1).2] : List y6)) fun r16 => if (List.length t8.2.2.2.2.2.2.2.2 + List.length ([((yV t8.1 t8.2.2.1).1, r16)] : List yQ)) * 32 < 140737488355328 then again (Sum.inr (Sum.inr (Sum.inr (t8.1, t8.2.1, (Go.IntKind.wrap .i64 (t8.2.2.1 + (1 : Int))), t8.2.2.2.1, t8.2.2.2.2.1, t8.2.2.2.2.2.1, t8.2.2.2.2.2.2.1, t8.2.2.2.2.2.2.2.1, (t8.2.2.2.2.2.2.2.2 ++ ([((yV t8.1 t8.2.2.1).1, r16)] : List yQ)))))) else none else none else none else k3 t8.2.2.2
def Yw k0 k1 k2 k3 := yS (@yX R k0 k1 k2 k3) z3
def Yc (x : y1v) : Option y1v :=
 KY (fun x3 => Yw (fun x8 => some (([] : List y6), ([] : List yQ), x8.2.2.1, x8.2.2.2)) (fun x9 => some (([] : List y6), x9.2.2.2.2, x9.2.2.1, x9.2.2.2.1)) (fun x10 => some (x10.2.2.2.2, ([] : List yQ), x10.2.2.1, x10.2.2.2.1)) (fun x11 => some (x11.2.2.2.2.1, x11.2.2.2.2.2, x11.2.2.1, x11.2.2.2.1)) (Sum.inl (x3.2.1, (List.length x3.2.1 : Int), (0 : Int), x3.2.2.2.2.1, x3.2.2.2.2.2.1, x3.2.2.2.2.2.2.1, x3.2.2.2.2.2.2.2))) (fun x12 => Yw (fun x17 => some (([] : List y6), ([] : List yQ), x17.2.2.1, x17.2.2.2)) (fun x18 => some (([] : List y6), x18.2.2.2.2, x18.2.2.1, x18.2.2.2.1)) (fun x19 => some (x19.2.2.2.2, ([] : List yQ), x19.2.2.1, x19.2.2.2.1)) (fun x20 => some (x20.2.2.2.2.1, x20.2.2.2.2.2, x20.2.2.1, x20.2.2.2.1)) (Sum.inr (Sum.inr (Sum.inl (x12.2.1, (List.length x12.2.1 : Int), (0 : Int), x12.2.2.2.2.1, x12.2.2.2.2.2.1, x12.2.2.2.2.2.2.1, x12.2.2.2.2.2.2.2.1, x12.2.2.2.2.2.2.2.2))))) (Sum.inl (x.1, (List.length x.1 : Int), (0 : Int), x.1, x.2.1, x.2.2.1, x.2.2.2, (0 : Int), false, x.2.2.1, x.2.2.2))
def y4V : List QF := [ynL]
def y3U (t : yfD) : St := ⟨.dead :: .box 1 0 :: .box 2 0 :: .box 3 0 :: dd 10 (Yf t.1 :: vI t.2.1 :: vI t.2.2.1 :: dd 33 []), [(1, .box [Yf t.2.2.2.1, y10 t.2.2.2.2.1, vI t.2.2.2.2.2.1, vB t.2.2.2.2.2.2.1]), (2, .box [.nils, .nils, vI t.2.2.2.2.2.2.2.1, vB t.2.2.2.2.2.2.2.2.1]), (3, .box [.nils, .nils, vI t.2.2.2.2.2.2.2.2.2.1, vB t.2.2.2.2.2.2.2.2.2.2])]⟩
theorem yiy : ∀ s t, unG yq4 y3U s = some t → y3U t = s := ya fun t => by kernel_rfl
def y3V (t : yfE) : St := ⟨.dead :: .box 1 0 :: .box 2 0 :: .box 3 0 :: dd 10 (Yf t.1 :: vI t.2.1 :: vI t.2.2.1 :: dd 33 []), [(1, .box [Yf t.2.2.2.1, y10 t.2.2.2.2.1, vI t.2.2.2.2.2.1, vB t.2.2.2.2.2.2.1]), (2, .box [.nils, .nils, vI t.2.2.2.2.2.2.2.1, vB t.2.2.2.2.2.2.2.2.1]), (3, .box [.own 10000000, .nils, vI t.2.2.2.2.2.2.2.2.2.1, vB t.2.2.2.2.2.2.2.2.2.2.1]), (10000000, .deep true 0 32 yc t.2.2.2.2.2.2.2.2.2.2.2)]⟩
theorem yiz : ∀ s t, unG yq5 y3V s = some t → y3V t = s := ya fun t => by kernel_rfl
def y3W : (yfD ⊕ yfE) → St := Sum.elim y3U y3V
def y8J (s : St) : Option (yfD ⊕ yfE) := ((unG yq4 y3U s).map Sum.inl).or (((unG yq5 y3V) s).map Sum.inr)
theorem yiA : ∀ s t, y8J s = some t → y3W t = s := y2C yiy yiz
def yd6 : Gk KX := fun κ => Y1 (fun t => κ (some 0) ⟨.dead :: .box 1 0 :: .box 2 0 :: .box 3 0 :: dd 46 [], [(1, .box [Yf t.1, y10 t.2.1, vI t.2.2.1, vB t.2.2.2.1]), (2, .box [.nils, .nils, vI t.2.2.2.2.1, vB t.2.2.2.2.2.1]), (3, .box [.nils, .nils, vI t.2.2.2.2.2.2.1, vB t.2.2.2.2.2.2.2])]⟩) (fun t => κ (some 0) ⟨.dead :: .box 1 0 :: .box 2 0 :: .box 3 0 :: dd 46 [], [(1, .box [Yf t.1, y10 t.2.1, vI t.2.2.1, vB t.2.2.2.1]), (2, .box [.nils, .nils, vI t.2.2.2.2.1, vB t.2.2.2.2.2.1]), (3, .box [.own 10000000, .nils, vI t.2.2.2.2.2.2.1, vB t.2.2.2.2.2.2.2.1]), (10000000, .deep true 0 32 yc t.2.2.2.2.2.2.2.2)]⟩)
def y3X (t : yfF) : St := ⟨dd 2 (.box 2 0 :: .box 3 0 :: dd 26 (y10 t.1 :: vI t.2.1 :: vI t.2.2.1 :: dd 17 [])), [(2, .box [.nils, .nils, vI t.2.2.2.1, vB t.2.2.2.2.1]), (3, .box [.nils, .nils, vI t.2.2.2.2.2.1, vB t.2.2.2.2.2.2])]⟩
theorem yiB : ∀ s t, unG yq6 y3X s = some t → y3X t = s := ya fun t => by kernel_rfl
def y3Y (t : ybh) : St := ⟨dd 2 (.box 2 0 :: .box 3 0 :: dd 26 (y10 t.1 :: vI t.2.1 :: vI t.2.2.1 :: dd 17 [])), [(2, .box [.nils, .nils, vI t.2.2.2.1, vB t.2.2.2.2.1]), (3, .box [.nils, .own 10000000, vI t.2.2.2.2.2.1, vB t.2.2.2.2.2.2.1]), (10000000, .deep true 0 186 z5 t.2.2.2.2.2.2.2)]⟩
theorem yiC : ∀ s t, unG yq7 y3Y s = some t → y3Y t = s := ya fun t => by kernel_rfl
def y3Z (t : y7k) : St := ⟨dd 2 (.box 2 0 :: .box 3 0 :: dd 26 (y10 t.1 :: vI t.2.1 :: vI t.2.2.1 :: dd 17 [])), [(2, .box [.nils, .nils, vI t.2.2.2.1, vB t.2.2.2.2.1]), (3, .box [.own 10000000, .nils, vI t.2.2.2.2.2.1, vB t.2.2.2.2.2.2.1]), (10000000, .deep true 0 32 yc t.2.2.2.2.2.2.2)]⟩
theorem yiD : ∀ s t, unG yq8 y3Z s = some t → y3Z t = s := ya fun t => by kernel_rfl
def y40 (t : y7l) : St := ⟨dd 2 (.box 2 0 :: .box 3 0 :: dd 26 (y10 t.1 :: vI t.2.1 :: vI t.2.2.1 :: dd 17 [])), [(2, .box [.nils, .nils, vI t.2.2.2.1, vB t.2.2.2.2.1]), (3, .box [.own 10000000, .own 10000001, vI t.2.2.2.2.2.1, vB t.2.2.2.2.2.2.1]), (10000000, .deep true 0 32 yc t.2.2.2.2.2.2.2.1), (10000001, .deep true 0 186 z5 t.2.2.2.2.2.2.2.2)]⟩
theorem yiE : ∀ s t, unG yq9 y40 s = some t → y40 t = s := ya fun t => by kernel_rfl
def yd7 : (y7k ⊕ y7l) → St := Sum.elim y3Z y40
def yd8 (s : St) : Option (y7k ⊕ y7l) := ((unG yq8 y3Z s).map Sum.inl).or (((unG yq9 y40) s).map Sum.inr)
theorem yiF : ∀ s t, yd8 s = some t → yd7 t = s := y2C yiD yiE
def yd9 : (ybh ⊕ y7k ⊕ y7l) → St := Sum.elim y3Y yd7
def yda (s : St) : Option (ybh ⊕ y7k ⊕ y7l) := ((unG yq7 y3Y s).map Sum.inl).or ((yd8 s).map Sum.inr)
theorem yiG : ∀ s t, yda s = some t → yd9 t = s := y2C yiC yiF
def y0Q : (yfF ⊕ ybh ⊕ y7k ⊕ y7l) → St := Sum.elim y3X yd9
def y8K (s : St) : Option (yfF ⊕ ybh ⊕ y7k ⊕ y7l) := ((unG yq6 y3X s).map Sum.inl).or ((yda s).map Sum.inr)
theorem yiH : ∀ s t, y8K s = some t → y0Q t = s := y2C yiB yiG
def y6z : Gk KZ := fun κ => yX (fun t => κ (some 2) ⟨dd 2 (.box 2 0 :: .box 3 0 :: dd 46 []), [(2, .box [.nils, .nils, vI t.1, vB t.2.1]), (3, .box [.nils, .nils, vI t.2.2.1, vB t.2.2.2])]⟩) (fun t => κ (some 2) ⟨dd 2 (.box 2 0 :: .box 3 0 :: dd 46 []), [(2, .box [.nils, .nils, vI t.1, vB t.2.1]), (3, .box [.nils, .own 10000000, vI t.2.2.1, vB t.2.2.2.1]), (10000000, .deep true 0 186 z5 t.2.2.2.2)]⟩) (fun t => κ (some 2) ⟨dd 2 (.box 2 0 :: .box 3 0 :: dd 46 []), [(2, .box [.nils, .nils, vI t.1, vB t.2.1]), (3, .box [.own 10000000, .nils, vI t.2.2.1, vB t.2.2.2.1]), (10000000, .deep true 0 32 yc t.2.2.2.2)]⟩) (fun t => κ (some 2) ⟨dd 2 (.box 2 0 :: .box 3 0 :: dd 46 []), [(2, .box [.nils, .nils, vI t.1, vB t.2.1]), (3, .box [.own 10000000, .own 10000001, vI t.2.2.1, vB t.2.2.2.1]), (10000000, .deep true 0 32 yc t.2.2.2.2.1), (10000001, .deep true 0 186 z5 t.2.2.2.2.2)]⟩)
def y4W : Lp := lpC 8 y8K @y6z (lpC 3 y8J @yd6 lpN)
theorem yiI : LF y4V y4W 178 3 Tryz.f178 0 y3W @yd6 fun v : yfD => .inl v := fun R κ again v => by kernel_rfl
theorem yiJ : LF y4V y4W 178 3 Tryz.f178 0 y3W @yd6 fun v : yfE => .inr v := fun R κ again v => by kernel_rfl
theorem yvt : LF y4V y4W 178 3 Tryz.f178 0 y3W @yd6 fun t => t := (LC.sum yiI yiJ)
theorem yvu : LK y4V y4W 178 Tryz.f178 0 := lkN (u := y8J) yiA yvt
theorem yiK : LF y4V y4W 178 8 Tryz.f178 1 y0Q @y6z fun v : yfF => .inl v := fun R κ again v => by kernel_rfl
theorem yiL : LF y4V y4W 178 8 Tryz.f178 1 y0Q @y6z fun v : ybh => .inr (.inl v) := fun R κ again v => by kernel_rfl
theorem yiM : LF y4V y4W 178 8 Tryz.f178 1 y0Q @y6z fun v : y7k => .inr (.inr (.inl v)) := fun R κ again v => by kernel_rfl
theorem yiN : LF y4V y4W 178 8 Tryz.f178 1 y0Q @y6z fun v : y7l => .inr (.inr (.inr v)) := fun R κ again v => by kernel_rfl
theorem yvv : LF y4V y4W 178 8 Tryz.f178 1 y0Q @y6z fun t => t := (LC.sum yiK (LC.sum yiL (LC.sum yiM yiN)))
theorem yvw : LK y4V y4W 178 Tryz.f178 1 := lkN (u := y8K) yiH yvv
theorem yAo : EV y4V y4W 178 Tryz.f178 ysc wk wk Yc := fun x => by kernel_rfl
def yw5 : QF := ⟨178, Yc, okN (n := 2) Tryz.func178 ⟨yvu, yvw, trivial⟩ yAo⟩
def jZ (x : List yp) : Option (List yp) :=
 if (List.length ([] : List yp) + List.length x) * 8 < 140737488355328 then some (([] : List yp) ++ x) else none
theorem yAp : EV [] lpN 256 Tryz.f256 ysd [(.sl 3 ye)] [(.sl 3 ye)] jZ := fun x => by kernel_rfl
def yGS : QF := ⟨256, jZ, okN (n := 0) Tryz.func256 trivial yAp⟩
abbrev kV : Type := ylk ⊕ yfG
def zJ (k0 : Unit → Option R) (k1 : List y9 → Option R) (again : kV → Option R) : kV → Option R
 | .inl t3 => bif (decide (t3.2.2 < t3.2.1)) then if (0 : Int) ≤ t3.2.2 then if t3.2.2 < (List.length t3.1 : Int) then Option.bind (zS (yh t3.1 t3.2.2)) fun r1 => if List.length ([r1] : List y9) * 24 < 140737488355328 then again (Sum.inr (t3.1, t3.2.1, (Go.IntKind.wrap .i64 (t3.2.2 + (1 : Int))), ([r1] : List y9))) else none else none else none else k0 ()
 | .inr t3 => bif (decide (t3.2.2.1 < t3.2.1)) then if (0 : Int) ≤ t3.2.2.1 then if t3.2.2.1 < (List.length t3.1 : Int) then Option.bind (zS (yh t3.1 t3.2.2.1)) fun r2 => if (List.length t3.2.2.2 + List.length ([r2] : List y9)) * 24 < 140737488355328 then again (Sum.inr (t3.1, t3.2.1, (Go.IntKind.wrap .i64 (t3.2.2.1 + (1 : Int))), (t3.2.2.2 ++ ([r2] : List y9)))) else none else none else none else k1 t3.2.2.2
def qW k0 k1 := yS (@zJ R k0 k1) z3
def Ym (x : List y9) : Option (List y9) :=
 qW (fun x3 => some ([] : List y9)) (fun x4 => some x4) (Sum.inl (x, (List.length x : Int), (0 : Int)))
def yge : List QF := [yDg]
def y41 (t : ylk) : St := ⟨dd 2 (.box 2 0 :: .box 3 0 :: dd 4 (zC t.1 :: vI t.2.1 :: vI t.2.2 :: dd 12 [])), [(2, .box [.nils]), (3, .box [.nils])]⟩
theorem yiO : ∀ s t, unG yvZ y41 s = some t → y41 t = s := ya fun t => by kernel_rfl
def y42 (t : yfG) : St := ⟨dd 2 (.box 2 0 :: .box 3 0 :: dd 4 (zC t.1 :: vI t.2.1 :: vI t.2.2.1 :: dd 12 [])), [(2, .box [.nils]), (3, .box [.own 10000000]), (10000000, .deep true 0 100 yj t.2.2.2)]⟩
theorem yiP : ∀ s t, unG yqa y42 s = some t → y42 t = s := ya fun t => by kernel_rfl
def y43 : (ylk ⊕ yfG) → St := Sum.elim y41 y42
def y8L (s : St) : Option (ylk ⊕ yfG) := ((unG yvZ y41 s).map Sum.inl).or (((unG yqa y42) s).map Sum.inr)
theorem yiQ : ∀ s t, y8L s = some t → y43 t = s := y2C yiO yiP
def ydb : Gk kV := fun κ => zJ (fun t => κ (some 0) ⟨dd 2 (.box 2 0 :: .box 3 0 :: dd 19 []), [(2, .box [.nils]), (3, .box [.nils])]⟩) (fun t => κ (some 0) ⟨dd 2 (.box 2 0 :: .box 3 0 :: dd 19 []), [(2, .box [.nils]), (3, .box [.own 10000000]), (10000000, .deep true 0 100 yj t)]⟩)
def ygf : Lp := lpC 3 y8L @ydb lpN
theorem yiR : LF yge ygf 257 3 Tryz.f257 0 y43 @ydb fun v : ylk => .inl v := fun R κ again v => by kernel_rfl
theorem yiS : LF yge ygf 257 3 Tryz.f257 0 y43 @ydb fun v : yfG => .inr v := fun R κ again v => by kernel_rfl
theorem yvx : LF yge ygf 257 3 Tryz.f257 0 y43 @ydb fun t => t := (LC.sum yiR yiS)
theorem yvy : LK yge ygf 257 Tryz.f257 0 := lkN (u := y8L) yiQ yvx
theorem yAq : EV yge ygf 257 Tryz.f257 yse [(.sl 100 yj)] [(.sl 100 yj)] Ym := fun x => by kernel_rfl
def yGT : QF := ⟨257, Ym, okN (n := 1) Tryz.func257 ⟨yvy, trivial⟩ yAq⟩
abbrev kW : Type := yfH ⊕ yfI
def zK (k0 : List yp → Option R) (k1 : y3o → Option R) (again : kW → Option R) : kW → Option R
 | .inl t3 => bif (decide (t3.2.2.1 < t3.2.1)) then if (0 : Int) ≤ t3.2.2.1 then if t3.2.2.1 < (List.length t3.1 : Int) then Option.bind (Ym (ym t3.1 t3.2.2.1)) fun r2 => if List.length ([r2] : List y7) * 24 < 140737488355328 then again (Sum.inr (t3.1, t3.2.1, (Go.IntKind.wrap .i64 (t3.2.2.1 + (1 : Int))), t3.2.2.2, ([r2] : List y7))) else none else none else none else k0 t3.2.2.2
 | .inr t3 => bif (decide (t3.2.2.1 < t3.2.1)) then if (0 : Int) ≤ t3.2.2.1 then if t3.2.2.1 < (List.length t3.1 : Int) then Option.bind (Ym (ym t3.1 t3.2.2.1)) fun r3 => if (List.length t3.2.2.2.2 + List.length ([r3] : List y7)) * 24 < 140737488355328 then again (Sum.inr (t3.1, t3.2.1, (Go.IntKind.wrap .i64 (t3.2.2.1 + (1 : Int))), t3.2.2.2.1, (t3.2.2.2.2 ++ ([r3] : List y7)))) else none else none else none else k1 t3.2.2.2
def qX k0 k1 := yS (@zK R k0 k1) z3
def Zi (x : y3o) : Option y3o :=
 Option.bind (jZ x.1) fun r1 => qX (fun x4 => some (x4, ([] : List y7))) (fun x5 => some x5) (Sum.inl (x.2, (List.length x.2 : Int), (0 : Int), r1))
def ygg : List QF := [yGS, yGT]
def y44 (t : yfH) : St := ⟨dd 2 (.box 2 0 :: .box 3 0 :: dd 7 (yC t.1 :: vI t.2.1 :: vI t.2.2.1 :: dd 12 [])), [(2, .box [.nils, .nils]), (3, .box [.own 10000000, .nils]), (10000000, .root true 3 ye t.2.2.2)]⟩
theorem yiT : ∀ s t, unG yqb y44 s = some t → y44 t = s := ya fun t => by kernel_rfl
def y45 (t : yfI) : St := ⟨dd 2 (.box 2 0 :: .box 3 0 :: dd 7 (yC t.1 :: vI t.2.1 :: vI t.2.2.1 :: dd 12 [])), [(2, .box [.nils, .nils]), (3, .box [.own 10000000, .own 10000001]), (10000000, .root true 3 ye t.2.2.2.1), (10000001, .deep true 0 98 yf t.2.2.2.2)]⟩
theorem yiU : ∀ s t, unG yqc y45 s = some t → y45 t = s := ya fun t => by kernel_rfl
def y46 : (yfH ⊕ yfI) → St := Sum.elim y44 y45
def y8M (s : St) : Option (yfH ⊕ yfI) := ((unG yqb y44 s).map Sum.inl).or (((unG yqc y45) s).map Sum.inr)
theorem yiV : ∀ s t, y8M s = some t → y46 t = s := y2C yiT yiU
def ydc : Gk kW := fun κ => zK (fun t => κ (some 0) ⟨dd 2 (.box 2 0 :: .box 3 0 :: dd 22 []), [(2, .box [.nils, .nils]), (3, .box [.own 10000000, .nils]), (10000000, .root true 3 ye t)]⟩) (fun t => κ (some 0) ⟨dd 2 (.box 2 0 :: .box 3 0 :: dd 22 []), [(2, .box [.nils, .nils]), (3, .box [.own 10000000, .own 10000001]), (10000000, .root true 3 ye t.1), (10000001, .deep true 0 98 yf t.2)]⟩)
def ygh : Lp := lpC 3 y8M @ydc lpN
theorem yiW : LF ygg ygh 223 3 Tryz.f223 0 y46 @ydc fun v : yfH => .inl v := fun R κ again v => by kernel_rfl
theorem yiX : LF ygg ygh 223 3 Tryz.f223 0 y46 @ydc fun v : yfI => .inr v := fun R κ again v => by kernel_rfl
theorem yvz : LF ygg ygh 223 3 Tryz.f223 0 y46 @ydc fun t => t := (LC.sum yiW yiX)
theorem yvA : LK ygg ygh 223 Tryz.f223 0 := lkN (u := y8M) yiV yvz
theorem yAr : EV ygg ygh 223 Tryz.f223 ysf vi vi Zi := fun x => by kernel_rfl
def yGU : QF := ⟨223, Zi, okN (n := 1) Tryz.func223 ⟨yvA, trivial⟩ yAr⟩
def WK (x : List yo) : Option (List yo) :=
 if (List.length ([] : List yo) + List.length x) * 16 < 140737488355328 then some (([] : List yo) ++ x) else none
theorem yAs : EV [] lpN 224 Tryz.f224 ysg [(.sl 89 yB)] [(.sl 89 yB)] WK := fun x => by kernel_rfl
def yGV : QF := ⟨224, WK, okN (n := 0) Tryz.func224 trivial yAs⟩
def wc (x : List yb) : Option (List yb) :=
 if (List.length ([] : List yb) + List.length x) * 24 < 140737488355328 then some (([] : List yb) ++ x) else none
theorem yAt : EV [] lpN 225 Tryz.f225 ysh [(.sl 95 yk)] [(.sl 95 yk)] wc := fun x => by kernel_rfl
def yGW : QF := ⟨225, wc, okN (n := 0) Tryz.func225 trivial yAt⟩
def J0 (x : y05) : Option y05 :=
 Option.bind (Zi (x.1, x.2.1)) fun r1 => Option.bind (WK x.2.2.1) fun r2 => Option.bind (wc x.2.2.2.1) fun r3 => if (List.length ([] : List yA) + List.length x.2.2.2.2.1) * 40 < 140737488355328 then some (r1.1, r1.2, r2, r3, (([] : List yA) ++ x.2.2.2.2.1), x.2.2.2.2.2) else none
theorem yAu : EV [yGU, yGV, yGW] lpN 179 Tryz.f179 ysi wC wC J0 := fun x => by kernel_rfl
def yGX : QF := ⟨179, J0, okN (n := 0) Tryz.func179 trivial yAu⟩
def j0 (x : y06) : Option y06 :=
 Option.bind (Yc (x.1, x.2.1, x.2.2.1, x.2.2.2.1)) fun r1 => Option.bind (J0 (x.2.2.2.2.1, x.2.2.2.2.2.1, x.2.2.2.2.2.2.1, x.2.2.2.2.2.2.2.1, x.2.2.2.2.2.2.2.2.1, x.2.2.2.2.2.2.2.2.2.1)) fun r2 => some (r1.1, r1.2.1, r1.2.2.1, r1.2.2.2, r2.1, r2.2.1, r2.2.2.1, r2.2.2.2.1, r2.2.2.2.2.1, r2.2.2.2.2.2, x.2.2.2.2.2.2.2.2.2.2)
theorem yAv : EV [yw5, yGX] lpN 103 Tryz.f103 ysj jg jg j0 := fun x => by kernel_rfl
def yGY : QF := ⟨103, j0, okN (n := 0) Tryz.func103 trivial yAv⟩
abbrev qr : Type := yqd
def JS (k0 : ylu → Option R) (k1 : y1v → Option R) (again : qr → Option R) (t4 : qr) : Option R :=
 bif (decide (t4.2.2.1 < t4.2.1)) then if (0 : Int) ≤ t4.2.2.1 then if t4.2.2.1 < (List.length t4.1 : Int) then bif (decide ((List.length (zh t4.1 t4.2.2.1) : Int) > (80 : Int))) then k0 (false, t4.2.2.2) else again (t4.1, t4.2.1, (Go.IntKind.wrap .i64 (t4.2.2.1 + (1 : Int))), t4.2.2.2.1, t4.2.2.2.2.1, t4.2.2.2.2.2.1, t4.2.2.2.2.2.2) else none else none else k1 t4.2.2.2
def qs k0 k1 := yS (@JS R k0 k1) z3
abbrev Vw : Type := yqf
def J1 (k0 : Bool → Option R) (k1 : Unit → Option R) (again : Vw → Option R) (t10 : Vw) : Option R :=
 bif (decide (t10.2.2.1 < t10.2.1)) then if (0 : Int) ≤ t10.2.2.1 then if t10.2.2.1 < (List.length t10.1 : Int) then Option.bind (yd ((yV t10.1 t10.2.2.1).1, (0 : Int), (Go.IntKind.wrap .i64 ((List.length t10.2.2.2.1 : Int) - (1 : Int))))) fun r7 => Option.bind (bif (!r7) then some true else some (decide (((List.length ((yV t10.1 t10.2.2.1).2) : Nat) : Int) > (80 : Int)))) fun u8 => bif u8 then k0 false else again (t10.1, t10.2.1, (Go.IntKind.wrap .i64 (t10.2.2.1 + (1 : Int))), t10.2.2.2.1, t10.2.2.2.2.1, t10.2.2.2.2.2.1, t10.2.2.2.2.2.2) else none else none else k1 ()
def Vx k0 k1 := yS (@J1 R k0 k1) z3
def Zr (x : y1v) : Option Bool :=
 Option.bind (yd ((List.length x.1 : Int), (1 : Int), (60 : Int))) fun r1 => Option.bind (bif (!r1) then some true else some (decide ((List.length x.2.1 : Int) > (60 : Int)))) fun u2 => Option.bind (bif u2 then some true else Option.bind (yd (x.2.2.1, (-1 : Int), (1000 : Int))) fun r4 => some (!r4)) fun u3 => bif u3 then some false else qs (fun x5 => some x5.1) (fun x6 => Vx (fun x9 => some x9) (fun x10 => some true) (x6.2.1, (List.length x6.2.1 : Int), (0 : Int), x6.1, x6.2.1, x6.2.2.1, x6.2.2.2)) (x.1, (List.length x.1 : Int), (0 : Int), x.1, x.2.1, x.2.2.1, x.2.2.2)
def ygi : List QF := [ybL]
def y8N (t : yqd) : St := ⟨.dead :: .box 1 0 :: dd 23 (Yf t.1 :: vI t.2.1 :: vI t.2.2.1 :: dd 29 []), [(1, .box [Yf t.2.2.2.1, y10 t.2.2.2.2.1, vI t.2.2.2.2.2.1, vB t.2.2.2.2.2.2])]⟩
def ykG : Gk qr := fun κ => JS (fun t => κ none ⟨.dead :: .box 1 0 :: vB t.1 :: dd 54 [], [(1, .box [Yf t.2.1, y10 t.2.2.1, vI t.2.2.2.1, vB t.2.2.2.2])]⟩) (fun t => κ (some 0) ⟨.dead :: .box 1 0 :: dd 55 [], [(1, .box [Yf t.1, y10 t.2.1, vI t.2.2.1, vB t.2.2.2])]⟩)
def y4X (t : yqf) : St := ⟨.dead :: .box 1 0 :: dd 34 (y10 t.1 :: vI t.2.1 :: vI t.2.2.1 :: dd 18 []), [(1, .box [Yf t.2.2.2.1, y10 t.2.2.2.2.1, vI t.2.2.2.2.2.1, vB t.2.2.2.2.2.2])]⟩
def ygj : Gk Vw := fun κ => J1 (fun t => κ none ⟨dd 2 (vB t :: dd 54 []), []⟩) (fun t => κ (some 2) ⟨dd 57 [], []⟩)
def ygk : Lp := lpC 10 (unG yqg y4X) @ygj (lpC 4 (unG yqe y8N) @ykG lpN)
theorem yvB : LF ygi ygk 160 4 Tryz.f160 0 y8N @ykG fun t => t := fun R κ again t => by kernel_rfl
theorem yvC : LK ygi ygk 160 Tryz.f160 0 := lkN (u := (unG yqe y8N)) (ya fun t => by kernel_rfl) yvB
theorem yno : LF ygi ygk 160 10 Tryz.f160 1 y4X @ygj fun t => t := fun R κ again t => by kernel_rfl
theorem ynp : LK ygi ygk 160 Tryz.f160 1 := lkN (u := (unG yqg y4X)) (ya fun t => by kernel_rfl) yno
theorem yAw : EV ygi ygk 160 Tryz.f160 ysk wk [.bool] Zr := fun x => by kernel_rfl
def yw6 : QF := ⟨160, Zr, okN (n := 2) Tryz.func160 ⟨yvC, ynp, trivial⟩ yAw⟩
def kX (x : y1v) : Option ywD :=
 bif (x.2.2.1 == (0 : Int)) then some (x.1, x.2.1, (-1 : Int), true, false) else bif (decide (x.2.2.1 > (0 : Int))) then some (x.1, x.2.1, (Go.IntKind.wrap .i64 (x.2.2.1 - (1 : Int))), x.2.2.2, true) else some (x.1, x.2.1, x.2.2.1, x.2.2.2, true)
theorem yAx : EV [] lpN 180 Tryz.f180 ysl wk ywE kX := fun x => by kernel_rfl
def yDi : QF := ⟨180, kX, okN (n := 0) Tryz.func180 trivial yAx⟩
abbrev kY : Type := yfJ ⊕ yfK
def zL (k0 : yhQ → Option R) (k1 : ywF → Option R) (again : kY → Option R) : kY → Option R
 | .inl t8 => bif (decide (t8.2.1 < t8.1)) then if (0 : Int) ≤ t8.2.1 then if t8.2.1 < (List.length t8.2.2.2.2.2.2.1 : Int) then Option.bind (yH ([(yV t8.2.2.2.2.2.2.1 t8.2.1).2] : List y6)) fun r5 => if (0 : Int) ≤ (yV t8.2.2.2.2.2.2.1 t8.2.1).1 then if (yV t8.2.2.2.2.2.2.1 t8.2.1).1 < (List.length t8.2.2.2.2.2.2.2 : Int) then again (Sum.inr (t8.2.2.2.2.2.2.1, t8.1, (Go.IntKind.wrap .i64 (t8.2.1 + (1 : Int))), t8.2.2.1, t8.2.2.2.1, t8.2.2.2.2.2.2.1, t8.2.2.2.2.1, t8.2.2.2.2.2.1, (List.set t8.2.2.2.2.2.2.2 (Int.toNat ((yV t8.2.2.2.2.2.2.1 t8.2.1).1)) r5))) else none else none else none else none else k0 (t8.2.2.1, t8.2.2.2.1, t8.2.2.2.2.1, t8.2.2.2.2.2.1, t8.2.2.2.2.2.2.2, t8.2.2.2.2.2.2.1)
 | .inr t8 => bif (decide (t8.2.2.1 < t8.2.1)) then if (0 : Int) ≤ t8.2.2.1 then if t8.2.2.1 < (List.length t8.1 : Int) then Option.bind (yH ([(yV t8.1 t8.2.2.1).2] : List y6)) fun r6 => if (0 : Int) ≤ (yV t8.1 t8.2.2.1).1 then if (yV t8.1 t8.2.2.1).1 < (List.length t8.2.2.2.2.2.2.2.2 : Int) then again (Sum.inr (t8.1, t8.2.1, (Go.IntKind.wrap .i64 (t8.2.2.1 + (1 : Int))), t8.2.2.2.1, t8.2.2.2.2.1, t8.2.2.2.2.2.1, t8.2.2.2.2.2.2.1, t8.2.2.2.2.2.2.2.1, (List.set t8.2.2.2.2.2.2.2.2 (Int.toNat ((yV t8.1 t8.2.2.1).1)) r6))) else none else none else none else none else k1 t8.2.2.2
def kZ k0 k1 := yS (@zL R k0 k1) z3
def zw (x : y1v) : Option y1v :=
 Option.bind (Yc x) fun r1 => Option.bind (Zr x) fun r2 => Option.bind (bif (!r2) then some true else some x.2.2.2) fun u3 => bif u3 then some r1 else Option.bind (kX r1) fun r4 => bif (!r4.2.2.2.2) then some (r4.1, r4.2.1, r4.2.2.1, r4.2.2.2.1) else kZ (fun x7 => some (x7.2.2.2.2.1, ([] : List yQ), x7.2.2.1, x7.2.2.2.1)) (fun x8 => some (x8.2.2.2.2.2, ([] : List yQ), x8.2.2.2.1, x8.2.2.2.2.1)) (Sum.inl ((List.length r4.2.1 : Int), (0 : Int), (0 : Int), false, r4.2.2.1, r4.2.2.2.1, r4.2.1, r4.1))
def ygl : List QF := [ynL, yw6, yw5, yDi]
def y47 (t : yfJ) : St := ⟨dd 2 (.box 2 0 :: .box 3 0 :: dd 22 (.own 10000000 :: vI t.1 :: vI t.2.1 :: dd 15 [])), [(2, .box [.nils, .nils, vI t.2.2.1, vB t.2.2.2.1]), (3, .box [.own 10000001, .own 10000000, vI t.2.2.2.2.1, vB t.2.2.2.2.2.1]), (10000000, .deep true 0 186 z5 t.2.2.2.2.2.2.1), (10000001, .deep true 0 32 yc t.2.2.2.2.2.2.2)]⟩
theorem yiY : ∀ s t, unG yqh y47 s = some t → y47 t = s := ya fun t => by kernel_rfl
def y48 (t : yfK) : St := ⟨dd 2 (.box 2 0 :: .box 3 0 :: dd 22 (y10 t.1 :: vI t.2.1 :: vI t.2.2.1 :: dd 15 [])), [(2, .box [.nils, .nils, vI t.2.2.2.1, vB t.2.2.2.2.1]), (3, .box [.own 10000000, y10 t.2.2.2.2.2.1, vI t.2.2.2.2.2.2.1, vB t.2.2.2.2.2.2.2.1]), (10000000, .deep false 0 32 yc t.2.2.2.2.2.2.2.2)]⟩
theorem yiZ : ∀ s t, unG yqi y48 s = some t → y48 t = s := ya fun t => by kernel_rfl
def y49 : (yfJ ⊕ yfK) → St := Sum.elim y47 y48
def y8O (s : St) : Option (yfJ ⊕ yfK) := ((unG yqh y47 s).map Sum.inl).or (((unG yqi y48) s).map Sum.inr)
theorem yj0 : ∀ s t, y8O s = some t → y49 t = s := y2C yiY yiZ
def ydd : Gk kY := fun κ => zL (fun t => κ (some 0) ⟨dd 2 (.box 2 0 :: .box 3 0 :: dd 40 []), [(2, .box [.nils, .nils, vI t.1, vB t.2.1]), (3, .box [.own 10000000, .own 10000001, vI t.2.2.1, vB t.2.2.2.1]), (10000000, .deep true 0 32 yc t.2.2.2.2.1), (10000001, .deep true 0 186 z5 t.2.2.2.2.2)]⟩) (fun t => κ (some 0) ⟨dd 2 (.box 2 0 :: .box 3 0 :: dd 40 []), [(2, .box [.nils, .nils, vI t.1, vB t.2.1]), (3, .box [.own 10000000, y10 t.2.2.1, vI t.2.2.2.1, vB t.2.2.2.2.1]), (10000000, .deep false 0 32 yc t.2.2.2.2.2)]⟩)
def ygm : Lp := lpC 8 y8O @ydd lpN
theorem yj1 : LF ygl ygm 105 8 Tryz.f105 0 y49 @ydd fun v : yfJ => .inl v := fun R κ again v => by kernel_rfl
theorem yj2 : LF ygl ygm 105 8 Tryz.f105 0 y49 @ydd fun v : yfK => .inr v := fun R κ again v => by kernel_rfl
theorem yvD : LF ygl ygm 105 8 Tryz.f105 0 y49 @ydd fun t => t := (LC.sum yj1 yj2)
theorem yvE : LK ygl ygm 105 Tryz.f105 0 := lkN (u := y8O) yj0 yvD
theorem yAy : EV ygl ygm 105 Tryz.f105 ysm wk wk zw := fun x => by kernel_rfl
def yGZ : QF := ⟨105, zw, okN (n := 1) Tryz.func105 ⟨yvE, trivial⟩ yAy⟩
def JT (x : ywm) : Option Bool :=
 Option.bind (yd (x.2.2.2.2.2.2.2.2.2.2.1, x.2.2.2.2.2.2.2.2.2.2.2.2.2, (50000 : Int))) fun r1 => Option.bind (bif r1 then Option.bind (yd (x.2.2.2.2.2.2.2.2.2.2.2.1, (1 : Int), (50000 : Int))) fun r3 => some r3 else some false) fun u2 => Option.bind (bif u2 then Option.bind (yd (x.2.2.2.2.2.2.2.2.2.2.2.2.1, (1 : Int), (50000 : Int))) fun r5 => some r5 else some false) fun u4 => Option.bind (bif u4 then Option.bind (yd (x.2.2.2.2.2.2.2.2.2.2.2.2.1, x.2.2.2.2.2.2.2.2.2.2.2.1, (Go.IntKind.wrap .i64 (x.2.2.2.2.2.2.2.2.2.2.2.1 + (6 : Int))))) fun r7 => some r7 else some false) fun u6 => Option.bind (bif u6 then Option.bind (Zr (x.1, x.2.1, x.2.2.1, x.2.2.2.1)) fun r9 => some r9 else some false) fun u8 => Option.bind (bif u8 then some ((List.length x.1 : Int) == (60 : Int)) else some false) fun u10 => Option.bind (bif u10 then Option.bind (Ji (x.2.2.2.2.1, x.2.2.2.2.2.1, x.2.2.2.2.2.2.1, x.2.2.2.2.2.2.2.1, x.2.2.2.2.2.2.2.2.1, x.2.2.2.2.2.2.2.2.2.1)) fun r12 => some r12 else some false) fun u11 => some u11
theorem yAz : EV [q56, ybL, yw6] lpN 109 Tryz.f109 ysn ywn [.bool] JT := fun x => by kernel_rfl
def yH0 : QF := ⟨109, JT, okN (n := 0) Tryz.func109 trivial yAz⟩
abbrev y0A : Type := yqj
def qd (k0 : yly → Option R) (again : y0A → Option R) (t7 : y0A) : Option R :=
 bif (decide (t7.2.2.2.2 < (8 : Int))) then bif ((Int.tmod t7.1 (2 : Int)) == (1 : Int)) then again ((Go.bits .xor .i64 (Go.IntKind.wrap .i64 (Int.tdiv t7.1 (2 : Int))) (2197175160 : Int)), t7.2.1, t7.2.2.1, t7.2.2.2.1, (Go.IntKind.wrap .i64 (t7.2.2.2.2 + (1 : Int)))) else again ((Go.IntKind.wrap .i64 (Int.tdiv t7.1 (2 : Int))), t7.2.1, t7.2.2.1, t7.2.2.2.1, (Go.IntKind.wrap .i64 (t7.2.2.2.2 + (1 : Int)))) else k0 (t7.1, t7.2.1, t7.2.2.1, t7.2.2.2.1)
def y0B k0 := yS (@qd R k0) z3
abbrev y0C : Type := yly
def y0D (k0 : Int → Option R) (again : y0C → Option R) (t3 : y0C) : Option R :=
 bif (decide (t3.2.2.2 < t3.2.2.1)) then if (0 : Int) ≤ t3.2.2.2 then if t3.2.2.2 < (List.length t3.2.1 : Int) then y0B (fun x1 => again (x1.1, x1.2.1, x1.2.2.1, (Go.IntKind.wrap .i64 (x1.2.2.2 + (1 : Int))))) ((Go.bits .xor .i64 t3.1 (Go.IntKind.wrap .i64 (ya6 t3.2.1 t3.2.2.2))), t3.2.1, t3.2.2.1, t3.2.2.2, (0 : Int)) else none else none else k0 t3.1
def y3a k0 := yS (@y0D R k0) z3
def vD (x : List z0) : Option Int :=
 y3a (fun x2 => some (Go.bits .xor .i64 x2 (4294967295 : Int))) ((4294967295 : Int), x, (List.length x : Int), (0 : Int))
def ygn : List QF := []
def y8P (t : yqj) : St := ⟨dd 3 (vI t.1 :: dd 3 (yeJ t.2.1 :: vI t.2.2.1 :: vI t.2.2.2.1 :: dd 7 (vI t.2.2.2.2 :: dd 13 []))), []⟩
def ykH : Gk y0A := fun κ => qd (fun t => κ (some 2) ⟨dd 3 (vI t.1 :: dd 3 (yeJ t.2.1 :: vI t.2.2.1 :: vI t.2.2.2 :: dd 21 [])), []⟩)
def y8Q (t : yly) : St := ⟨dd 3 (vI t.1 :: dd 3 (yeJ t.2.1 :: vI t.2.2.1 :: vI t.2.2.2 :: dd 21 [])), []⟩
def ykI : Gk y0C := fun κ => y0D (fun t => κ (some 0) ⟨dd 3 (vI t :: dd 27 []), []⟩)
def ygo : Lp := lpC 3 (unG yql y8Q) @ykI (lpC 7 (unG yqk y8P) @ykH lpN)
theorem yvF : LF ygn ygo 110 7 Tryz.f110 1 y8P @ykH fun t => t := fun R κ again t => by kernel_rfl
theorem yvG : LK ygn ygo 110 Tryz.f110 1 := lkN (u := (unG yqk y8P)) (ya fun t => by kernel_rfl) yvF
theorem yvH : LF ygn ygo 110 3 Tryz.f110 0 y8Q @ykI fun t => t := fun R κ again t => by kernel_rfl
theorem yvI : LK ygn ygo 110 Tryz.f110 0 := lkN (u := (unG yql y8Q)) (ya fun t => by kernel_rfl) yvH
theorem yAA : EV ygn ygo 110 Tryz.f110 yso [(.sl 5 yu)] [(.int .i64)] vD := fun x => by kernel_rfl
def yDj : QF := ⟨110, vD, okN (n := 2) Tryz.func110 ⟨yvI, yvG, trivial⟩ yAA⟩
def Yn (x : yqm) : Option y1v :=
 Option.bind (Yc (x.1, x.2.1, x.2.2.1, x.2.2.2.1)) fun r1 => Option.bind (Zr (x.1, x.2.1, x.2.2.1, x.2.2.2.1)) fun r2 => Option.bind (bif (!r2) then some true else some x.2.2.2.1) fun u3 => Option.bind (bif u3 then some true else Option.bind (yd (x.2.2.2.2.1, (0 : Int), (Go.IntKind.wrap .i64 ((List.length x.1 : Int) - (1 : Int))))) fun r5 => some (!r5)) fun u4 => Option.bind (bif u4 then some true else some (decide ((List.length x.2.2.2.2.2 : Int) > (80 : Int)))) fun u6 => Option.bind (bif u6 then some true else some ((List.length x.2.1 : Int) == (60 : Int))) fun u7 => bif u7 then some r1 else Option.bind (kX r1) fun r8 => bif r8.2.2.2.2 then Option.bind (yH ([x.2.2.2.2.2] : List y6)) fun r9 => if (List.length r8.2.1 + List.length ([(x.2.2.2.2.1, r9)] : List yQ)) * 32 < 140737488355328 then some (r8.1, (r8.2.1 ++ ([(x.2.2.2.2.1, r9)] : List yQ)), r8.2.2.1, r8.2.2.2.1) else none else some (r8.1, r8.2.1, r8.2.2.1, r8.2.2.2.1)
theorem yAB : EV [ybL, ynL, yw6, yw5, yDi] lpN 112 Tryz.f112 ysp yqn wk Yn := fun x => by kernel_rfl
def yDk : QF := ⟨112, Yn, okN (n := 0) Tryz.func112 trivial yAB⟩
def WL (x : y4Q) : Option Int :=
 Option.bind (yd (x.1, (0 : Int), (1 : Int))) fun r1 => Option.bind (bif (!r1) then some true else Option.bind (yd (x.2, (0 : Int), (23 : Int))) fun r3 => some (!r3)) fun u2 => bif u2 then some (-1 : Int) else some (Go.IntKind.wrap .i64 ((Go.IntKind.wrap .i64 ((8 : Int) + (Go.IntKind.wrap .i64 (x.1 * (24 : Int))))) + x.2))
theorem yAC : EV [ybL] lpN 161 Tryz.f161 ysq yeK [(.int .i64)] WL := fun x => by kernel_rfl
def yH1 : QF := ⟨161, WL, okN (n := 0) Tryz.func161 trivial yAC⟩
abbrev wo : Type := yqo
def ZG (k0 : yhQ → Option R) (again : wo → Option R) (t5 : wo) : Option R :=
 bif (decide ((Go.IntKind.wrap .i64 (t5.2.2.1 * (70 : Int))) < (List.length t5.2.1 : Int))) then Option.bind (WL (t5.1, t5.2.2.1)) fun r6 => if (0 : Int) ≤ (Go.IntKind.wrap .i64 (t5.2.2.1 * (70 : Int))) then if (Go.IntKind.wrap .i64 (t5.2.2.1 * (70 : Int))) ≤ (if (List.length t5.2.1 : Int) < (Go.IntKind.wrap .i64 ((Go.IntKind.wrap .i64 (t5.2.2.1 + (1 : Int))) * (70 : Int))) then (List.length t5.2.1 : Int) else (Go.IntKind.wrap .i64 ((Go.IntKind.wrap .i64 (t5.2.2.1 + (1 : Int))) * (70 : Int)))) then if (if (List.length t5.2.1 : Int) < (Go.IntKind.wrap .i64 ((Go.IntKind.wrap .i64 (t5.2.2.1 + (1 : Int))) * (70 : Int))) then (List.length t5.2.1 : Int) else (Go.IntKind.wrap .i64 ((Go.IntKind.wrap .i64 (t5.2.2.1 + (1 : Int))) * (70 : Int)))) ≤ (List.length t5.2.1 : Int) then Option.bind (Yn (t5.2.2.2.2.2.2.2.1, t5.2.2.2.2.2.2.2.2, t5.2.2.2.2.2.1, t5.2.2.2.2.2.2.1, r6, (List.drop (Int.toNat (Go.IntKind.wrap .i64 (t5.2.2.1 * (70 : Int)))) (List.take (Int.toNat (if (List.length t5.2.1 : Int) < (Go.IntKind.wrap .i64 ((Go.IntKind.wrap .i64 (t5.2.2.1 + (1 : Int))) * (70 : Int))) then (List.length t5.2.1 : Int) else (Go.IntKind.wrap .i64 ((Go.IntKind.wrap .i64 (t5.2.2.1 + (1 : Int))) * (70 : Int))))) t5.2.1)))) fun r7 => again (t5.1, t5.2.1, (Go.IntKind.wrap .i64 (t5.2.2.1 + (1 : Int))), t5.2.2.2.1, t5.2.2.2.2.1, r7.2.2.1, r7.2.2.2, r7.1, r7.2.1) else none else none else none else k0 t5.2.2.2
def wq k0 := yS (@ZG R k0) z3
def Zj (x : yqm) : Option y1v :=
 Option.bind (Yc (x.1, x.2.1, x.2.2.1, x.2.2.2.1)) fun r1 => Option.bind (Zr (x.1, x.2.1, x.2.2.1, x.2.2.2.1)) fun r2 => Option.bind (bif (!r2) then some true else some (decide ((List.length x.2.2.2.2.2 : Int) > (1680 : Int)))) fun u3 => Option.bind (bif u3 then some true else Option.bind (yd (x.2.2.2.2.1, (0 : Int), (1 : Int))) fun r5 => some (!r5)) fun u4 => bif u4 then some r1 else wq (fun x8 => some (x8.2.2.2.2.1, x8.2.2.2.2.2, x8.2.2.1, x8.2.2.2.1)) (x.2.2.2.2.1, x.2.2.2.2.2, (0 : Int), (0 : Int), false, r1.2.2.1, r1.2.2.2, r1.1, r1.2.1)
def ynq : List QF := [yDk, ybL, yw6, yH1, yw5]
def y8R (t : yqo) : St := ⟨.dead :: vI t.1 :: yeJ t.2.1 :: dd 3 (.box 6 0 :: .box 7 0 :: vI t.2.2.1 :: dd 39 []), [(6, .box [.nils, .nils, vI t.2.2.2.1, vB t.2.2.2.2.1]), (7, .box [.own 10000000, .own 10000001, vI t.2.2.2.2.2.1, vB t.2.2.2.2.2.2.1]), (10000000, .deep true 0 32 yc t.2.2.2.2.2.2.2.1), (10000001, .deep true 0 186 z5 t.2.2.2.2.2.2.2.2)]⟩
def ykJ : Gk wo := fun κ => ZG (fun t => κ (some 0) ⟨dd 6 (.box 6 0 :: .box 7 0 :: dd 40 []), [(6, .box [.nils, .nils, vI t.1, vB t.2.1]), (7, .box [.own 10000000, .own 10000001, vI t.2.2.1, vB t.2.2.2.1]), (10000000, .deep true 0 32 yc t.2.2.2.2.1), (10000001, .deep true 0 186 z5 t.2.2.2.2.2)]⟩)
def ynr : Lp := lpC 5 (unG yqp y8R) @ykJ lpN
theorem yvJ : LF ynq ynr 111 5 Tryz.f111 0 y8R @ykJ fun t => t := fun R κ again t => by kernel_rfl
theorem yvK : LK ynq ynr 111 Tryz.f111 0 := lkN (u := (unG yqp y8R)) (ya fun t => by kernel_rfl) yvJ
theorem yAD : EV ynq ynr 111 Tryz.f111 ysr yqn wk Zj := fun x => by kernel_rfl
def yH2 : QF := ⟨111, Zj, okN (n := 1) Tryz.func111 ⟨yvK, trivial⟩ yAD⟩
def JU (x : yhN) : Option Bool :=
 Option.bind (yd (x.1, (1 : Int), (60000 : Int))) fun r1 => Option.bind (bif r1 then Option.bind (yd (x.2.1, (0 : Int), (1 : Int))) fun r3 => some r3 else some false) fun u2 => Option.bind (bif u2 then Option.bind (yd (x.2.2.1, (0 : Int), (1680 : Int))) fun r5 => some r5 else some false) fun u4 => Option.bind (bif u4 then Option.bind (yd (x.2.2.2.1, (0 : Int), (4294967295 : Int))) fun r7 => some r7 else some false) fun u6 => Option.bind (bif u6 then Option.bind (yd (x.2.2.2.2, (1 : Int), (60000 : Int))) fun r9 => some r9 else some false) fun u8 => some u8
theorem yAE : EV [ybL] lpN 159 Tryz.f159 yss y16 [.bool] JU := fun x => by kernel_rfl
def yH3 : QF := ⟨159, JU, okN (n := 0) Tryz.func159 trivial yAE⟩
def K0 (x : yli) : Option (List z0) :=
 Option.bind (zj (x.1, (Int.fdiv x.2 (2 ^ (min (Int.toNat (16 : Int)) (Go.IntKind.bits .i64)))))) fun r1 => Option.bind (zj (r1, x.2)) fun r2 => some r2
theorem yAF : EV [q57] lpN 184 Tryz.f184 yst ylj [(.sl 5 yu)] K0 := fun x => by kernel_rfl
def yH4 : QF := ⟨184, K0, okN (n := 0) Tryz.func184 trivial yAF⟩
def J2 (x : yhN) : Option (List z0) :=
 Option.bind (JU x) fun r1 => bif (!r1) then some ([] : List z0) else Option.bind (zj (([] : List z0), x.1)) fun r2 => if (List.length r2 + List.length ([(Go.IntKind.wrap .u8 x.2.1)] : List z0)) * 1 < 140737488355328 then Option.bind (zj ((r2 ++ ([(Go.IntKind.wrap .u8 x.2.1)] : List z0)), x.2.2.1)) fun r3 => Option.bind (K0 (r3, x.2.2.2.1)) fun r4 => Option.bind (zj (r4, x.2.2.2.2)) fun r5 => Option.bind (vD r5) fun r6 => Option.bind (K0 (r5, r6)) fun r7 => some r7 else none
theorem yAG : EV [q57, yDj, yH3, yH4] lpN 113 Tryz.f113 ysu y16 [(.sl 5 yu)] J2 := fun x => by kernel_rfl
def yH5 : QF := ⟨113, J2, okN (n := 0) Tryz.func113 trivial yAG⟩
def zl (x : y06) : Option y06 :=
 Option.bind (j0 x) fun r1 => Option.bind (JT (x.1, x.2.1, x.2.2.1, x.2.2.2.1, x.2.2.2.2.1, x.2.2.2.2.2.1, x.2.2.2.2.2.2.1, x.2.2.2.2.2.2.2.1, x.2.2.2.2.2.2.2.2.1, x.2.2.2.2.2.2.2.2.2.1, x.2.2.2.2.2.2.2.2.2.2.1, x.2.2.2.2.2.2.2.2.2.2.2.1, x.2.2.2.2.2.2.2.2.2.2.2.2, (0 : Int))) fun r2 => Option.bind (bif (!r2) then some true else some x.2.2.2.1) fun u3 => Option.bind (bif u3 then some true else some (x.2.2.2.2.2.2.2.2.2.2.1 == (50000 : Int))) fun u4 => bif u4 then some r1 else Option.bind (JR (x.2.2.2.2.1, x.2.2.2.2.2.1, x.2.2.2.2.2.2.1, x.2.2.2.2.2.2.2.1, x.2.2.2.2.2.2.2.2.1, x.2.2.2.2.2.2.2.2.2.1)) fun r5 => Option.bind (vD r5) fun r6 => Option.bind (zw (x.1, x.2.1, x.2.2.1, x.2.2.2.1)) fun r7 => Option.bind (Zj (r7.1, r7.2.1, r7.2.2.1, r7.2.2.2, (Int.tmod (Go.IntKind.wrap .i64 (x.2.2.2.2.2.2.2.2.2.2.1 + (1 : Int))) (2 : Int)), r5)) fun r8 => Option.bind (zw r8) fun r9 => Option.bind (J2 ((Go.IntKind.wrap .i64 (x.2.2.2.2.2.2.2.2.2.2.1 + (1 : Int))), (Int.tmod (Go.IntKind.wrap .i64 (x.2.2.2.2.2.2.2.2.2.2.1 + (1 : Int))) (2 : Int)), (List.length r5 : Int), r6, x.2.2.2.2.2.2.2.2.2.2.2.2)) fun r10 => Option.bind (Yn (r9.1, r9.2.1, r9.2.2.1, r9.2.2.2, (Int.tmod (Go.IntKind.wrap .i64 (x.2.2.2.2.2.2.2.2.2.2.1 + (1 : Int))) (2 : Int)), r10)) fun r11 => Option.bind (zw r11) fun r12 => bif (!r12.2.2.2) then some (r12.1, r12.2.1, r12.2.2.1, r12.2.2.2, r1.2.2.2.2.1, r1.2.2.2.2.2.1, r1.2.2.2.2.2.2.1, r1.2.2.2.2.2.2.2.1, r1.2.2.2.2.2.2.2.2.1, r1.2.2.2.2.2.2.2.2.2.1, (Go.IntKind.wrap .i64 (x.2.2.2.2.2.2.2.2.2.2.1 + (1 : Int))), x.2.2.2.2.2.2.2.2.2.2.2.2, r1.2.2.2.2.2.2.2.2.2.2.2.2) else some (r12.1, r12.2.1, r12.2.2.1, r12.2.2.2, r1.2.2.2.2)
theorem yH6 : EV [q13, yGY, yGZ, yH0, yDj, yH2, yDk, yH5] lpN 40 Tryz.f40 yD5 jg jg zl := fun x => by kernel_rfl
def q40 : QF := ⟨40, zl, okN (n := 0) Tryz.func40 trivial yH6⟩
def yY (x : yon) : Option Bool :=
 Option.bind (Jw (x.1, x.2.1, x.2.2.1, x.2.2.2.1, x.2.2.2.2.1, x.2.2.2.2.2.1, x.2.2.2.2.2.2.1, x.2.2.2.2.2.2.2.1, x.2.2.2.2.2.2.2.2.1, x.2.2.2.2.2.2.2.2.2.1, x.2.2.2.2.2.2.2.2.2.2.1, x.2.2.2.2.2.2.2.2.2.2.2.1, x.2.2.2.2.2.2.2.2.2.2.2.2, (1048576 : Int))) fun r1 => bif (decide (r1 < (0 : Int))) then some true else Option.bind (Yb x) fun r2 => Option.bind (zI r2) fun r3 => Option.bind (Yb x) fun r4 => Option.bind (zl r4) fun r5 => Option.bind (Y9 (r5.1, r5.2.1, r5.2.2.1, r5.2.2.2.1, r5.2.2.2.2.1, r5.2.2.2.2.2.1, r5.2.2.2.2.2.2.1, r5.2.2.2.2.2.2.2.1, r5.2.2.2.2.2.2.2.2.1, r5.2.2.2.2.2.2.2.2.2.1, r5.2.2.2.2.2.2.2.2.2.2.1, r5.2.2.2.2.2.2.2.2.2.2.2.1, r5.2.2.2.2.2.2.2.2.2.2.2.2, r3)) fun r6 => bif (!r6) then some false else Option.bind (Yb x) fun r7 => Option.bind (Y9 (r4.1, r4.2.1, r4.2.2.1, r4.2.2.2.1, r4.2.2.2.2.1, r4.2.2.2.2.2.1, r4.2.2.2.2.2.2.1, r4.2.2.2.2.2.2.2.1, r4.2.2.2.2.2.2.2.2.1, r4.2.2.2.2.2.2.2.2.2.1, r4.2.2.2.2.2.2.2.2.2.2.1, r4.2.2.2.2.2.2.2.2.2.2.2.1, r4.2.2.2.2.2.2.2.2.2.2.2.2, r7)) fun r8 => bif (!r8) then some false else Option.bind (Yr (r4.1, r4.2.1, r4.2.2.1, r4.2.2.2.1, r4.2.2.2.2.1, r4.2.2.2.2.2.1, r4.2.2.2.2.2.2.1, r4.2.2.2.2.2.2.2.1, r4.2.2.2.2.2.2.2.2.1, r4.2.2.2.2.2.2.2.2.2.1, r4.2.2.2.2.2.2.2.2.2.2.1, r4.2.2.2.2.2.2.2.2.2.2.2.1, r4.2.2.2.2.2.2.2.2.2.2.2.2, (1 : Int))) fun r9 => Option.bind (bif (decide (r9.1 < (0 : Int))) then some true else Option.bind (Y9 (r5.1, r5.2.1, r5.2.2.1, r5.2.2.2.1, r5.2.2.2.2.1, r5.2.2.2.2.2.1, r5.2.2.2.2.2.2.1, r5.2.2.2.2.2.2.2.1, r5.2.2.2.2.2.2.2.2.1, r5.2.2.2.2.2.2.2.2.2.1, r5.2.2.2.2.2.2.2.2.2.2.1, r5.2.2.2.2.2.2.2.2.2.2.2.1, r5.2.2.2.2.2.2.2.2.2.2.2.2, r3)) fun r11 => some (!r11)) fun u10 => bif u10 then some false else Option.bind (Yr (r5.1, r5.2.1, r5.2.2.1, r5.2.2.2.1, r5.2.2.2.2.1, r5.2.2.2.2.2.1, r5.2.2.2.2.2.2.1, r5.2.2.2.2.2.2.2.1, r5.2.2.2.2.2.2.2.2.1, r5.2.2.2.2.2.2.2.2.2.1, r5.2.2.2.2.2.2.2.2.2.2.1, r5.2.2.2.2.2.2.2.2.2.2.2.1, r5.2.2.2.2.2.2.2.2.2.2.2.2, (1 : Int))) fun r12 => Option.bind (Yt (r12.2.1, r12.2.2.1, r5.2.2.1, r5.2.2.2.1, r12.2.2.2.1, r12.2.2.2.2.1, r12.2.2.2.2.2.1, r12.2.2.2.2.2.2.1, r12.2.2.2.2.2.2.2, r5.2.2.2.2.2.2.2.2.2.1, r5.2.2.2.2.2.2.2.2.2.2.1, r5.2.2.2.2.2.2.2.2.2.2.2.1, r5.2.2.2.2.2.2.2.2.2.2.2.2, (1 : Int))) fun r13 => bif (decide (r13 < (0 : Int))) then some false else bif (r13 != r12.1) then some false else Option.bind (Yb x) fun r14 => Option.bind (zl r14) fun r15 => Option.bind (Y9 (r15.1, r15.2.1, r15.2.2.1, r15.2.2.2.1, r15.2.2.2.2.1, r15.2.2.2.2.2.1, r15.2.2.2.2.2.2.1, r15.2.2.2.2.2.2.2.1, r15.2.2.2.2.2.2.2.2.1, r15.2.2.2.2.2.2.2.2.2.1, r15.2.2.2.2.2.2.2.2.2.2.1, r15.2.2.2.2.2.2.2.2.2.2.2.1, r15.2.2.2.2.2.2.2.2.2.2.2.2, r3)) fun r16 => bif (!r16) then some false else Option.bind (Yt (r12.2.1, r12.2.2.1, r5.2.2.1, r5.2.2.2.1, r12.2.2.2.1, r12.2.2.2.2.1, r12.2.2.2.2.2.1, r12.2.2.2.2.2.2.1, r12.2.2.2.2.2.2.2, r5.2.2.2.2.2.2.2.2.2.1, r5.2.2.2.2.2.2.2.2.2.2.1, r5.2.2.2.2.2.2.2.2.2.2.2.1, r5.2.2.2.2.2.2.2.2.2.2.2.2, (1 : Int))) fun r17 => bif (decide (r17 < (0 : Int))) then some false else bif (r17 != r12.1) then some false else some true
theorem ev8 : EV [q32, q33, q34, q35, q37, q39, q40] lpN 8 Tryz.f8 sg8 yfz [.bool] yY := fun x => by kernel_rfl
def q8 : QF := ⟨8, yY, okN (n := 0) Tryz.func8 trivial ev8⟩
end
end Go.Proofs.YtmapoakbdgpamaaGreat.XQ
