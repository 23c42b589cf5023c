/- What functions compute, and that they do; part 1 of I; by a program (dec.py). No condition. -/
import Derived.Test.YthgdjjdigalckaaGreatDI0
set_option linter.all false
namespace Go.Proofs.YthgdjjdigalckaaGreat.XI
open Go.Proofs.YthgdjjdigalckaaGreat.R
set_option maxRecDepth 100000
noncomputable section
variable {R : Type}
def vM (x : yaQ) : Option yn6 :=
 Option.bind (zU x) fun r1 => Option.bind (yb (r1.2.2.2.2.2.1, r1.2.2.2.2.2.2.1, r1.2.2.2.2.2.2.2, (12 : Int))) fun r2 => bif (r2.1 == (0 : Int)) then Option.bind (yz (r2.2.1, r2.2.2.1, r2.2.2.2, ([(-1 : Int), (15 : Int), (16 : Int)] : List ye))) fun r3 => some (r3.1, r1.2.1, r1.2.2.1, r1.2.2.2.1, r1.2.2.2.2.1, r3.2) else bif (r2.1 == (1 : Int)) then Option.bind (yz (r2.2.1, r2.2.2.1, r2.2.2.2, ([(0 : Int), (60 : Int), (61 : Int)] : List ye))) fun r4 => some (r1.1, r4.1, r1.2.2.1, r1.2.2.2.1, r1.2.2.2.2.1, r4.2) else bif (r2.1 == (2 : Int)) then Option.bind (yz (r2.2.1, r2.2.2.1, r2.2.2.2, ([(-1 : Int), (3 : Int)] : List ye))) fun r5 => some (r1.1, r1.2.1, r5.1, r1.2.2.2.1, r1.2.2.2.2.1, r5.2) else bif (r2.1 == (3 : Int)) then Option.bind (yz (r2.2.1, r2.2.2.1, r2.2.2.2, ([(-1 : Int), (1 : Int), (23 : Int), (24 : Int)] : List ye))) fun r6 => some (r1.1, r1.2.1, r1.2.2.1, r6.1, r1.2.2.2.2.1, r6.2) else bif (r2.1 == (4 : Int)) then Option.bind (yz (r2.2.1, r2.2.2.1, r2.2.2.2, ([(-1 : Int), (1 : Int), (999 : Int), (1000 : Int)] : List ye))) fun r7 => some (r1.1, r1.2.1, r1.2.2.1, r1.2.2.2.1, r7) else some (r1.1, r1.2.1, r1.2.2.1, r1.2.2.2.1, r1.2.2.2.2.1, r2.2)
theorem yDt : EV [q90, y5o, yxd] lpN 363 Tryz.f363 yua Qg yn7 vM := fun x => by kernel_rfl
def yIP : QF := ⟨363, vM, okN (n := 0) Tryz.func363 trivial yDt⟩
def vN (x : yld) : Option yrk :=
 Option.bind (kT x) fun r1 => Option.bind (yb (r1.2.1, r1.2.2.1, r1.2.2.2, (8 : Int))) fun r2 => bif (r2.1 == (0 : Int)) then Option.bind (vM r2.2) fun r3 => if (List.length r1.1 + List.length ([(r3.1, r3.2.1, r3.2.2.1, r3.2.2.2.1, r3.2.2.2.2.1)] : List y9)) * 40 < 140737488355328 then some ((r1.1 ++ ([(r3.1, r3.2.1, r3.2.2.1, r3.2.2.2.1, r3.2.2.2.2.1)] : List y9)), r3.2.2.2.2.2.1, r3.2.2.2.2.2.2.1, r3.2.2.2.2.2.2.2) else none else bif (r2.1 == (1 : Int)) then bif (decide ((List.length r1.1 : Int) > (1 : Int))) then if (0 : Int) ≤ (0 : Int) then if (0 : Int) < (List.length r1.1 : Int) then if (0 : Int) ≤ (1 : Int) then if (1 : Int) < (List.length r1.1 : Int) then if (0 : Int) ≤ (0 : Int) then if (0 : Int) < (List.length r1.1 : Int) then if (0 : Int) ≤ (1 : Int) then if (1 : Int) < ((List.length (List.set r1.1 (Int.toNat (0 : Int)) ((y6 r1.1 (1 : Int)).1, (y6 r1.1 (1 : Int)).2.1, (y6 r1.1 (1 : Int)).2.2.1, (y6 r1.1 (1 : Int)).2.2.2.1, (y6 r1.1 (1 : Int)).2.2.2.2)) : Nat) : Int) then some ((List.set (List.set r1.1 (Int.toNat (0 : Int)) ((y6 r1.1 (1 : Int)).1, (y6 r1.1 (1 : Int)).2.1, (y6 r1.1 (1 : Int)).2.2.1, (y6 r1.1 (1 : Int)).2.2.2.1, (y6 r1.1 (1 : Int)).2.2.2.2)) (Int.toNat (1 : Int)) ((y6 r1.1 (0 : Int)).1, (y6 r1.1 (0 : Int)).2.1, (y6 r1.1 (0 : Int)).2.2.1, (y6 r1.1 (0 : Int)).2.2.2.1, (y6 r1.1 (0 : Int)).2.2.2.2)), r2.2.1, r2.2.2.1, r2.2.2.2) else none else none else none else none else none else none else none else none else some (r1.1, r2.2) else some (r1.1, r2.2)
theorem yDu : EV [y5o, yIO, yIP] lpN 353 Tryz.f353 yub yle yrl vN := fun x => by kernel_rfl
def yIQ : QF := ⟨353, vN, okN (n := 0) Tryz.func353 trivial yDu⟩
def WN (x : yaQ) : Option yrg :=
 Option.bind (kQ x) fun r1 => Option.bind (yb (r1.2.1, r1.2.2.1, r1.2.2.2, (8 : Int))) fun r2 => bif (r2.1 == (0 : Int)) then Option.bind (vN (r2.2.1, r2.2.2.1, r2.2.2.2, (6 : Int))) fun r3 => if (List.length r1.1 + List.length ([r3.1] : List y7)) * 24 < 140737488355328 then some ((r1.1 ++ ([r3.1] : List y7)), r3.2.1, r3.2.2.1, r3.2.2.2) else none else bif (r2.1 == (1 : Int)) then Option.bind (zU r2.2) fun r4 => Option.bind (zU r4.2.2.2.2.2) fun r5 => if (List.length r1.1 + List.length ([([(r4.1, r4.2.1, r4.2.2.1, r4.2.2.2.1, r4.2.2.2.2.1)] : List y9), ([(r5.1, r5.2.1, r5.2.2.1, r5.2.2.2.1, r5.2.2.2.2.1)] : List y9)] : List y7)) * 24 < 140737488355328 then some ((r1.1 ++ ([([(r4.1, r4.2.1, r4.2.2.1, r4.2.2.2.1, r4.2.2.2.2.1)] : List y9), ([(r5.1, r5.2.1, r5.2.2.1, r5.2.2.2.1, r5.2.2.2.2.1)] : List y9)] : List y7)), r5.2.2.2.2.2.1, r5.2.2.2.2.2.2.1, r5.2.2.2.2.2.2.2) else none else some (r1.1, r2.2)
theorem yDv : EV [y5o, yxd, yIN, yIQ] lpN 333 Tryz.f333 yuc Qg yrh WN := fun x => by kernel_rfl
def yIR : QF := ⟨333, WN, okN (n := 0) Tryz.func333 trivial yDv⟩
def vO (x : yld) : Option yrd :=
 Option.bind (kO x) fun r1 => Option.bind (yb (r1.2.2.1, r1.2.2.2.1, r1.2.2.2.2, (12 : Int))) fun r2 => bif (r2.1 == (0 : Int)) then Option.bind (yb (r2.2.1, r2.2.2.1, r2.2.2.2, (List.length r1.1 : Int))) fun r3 => Option.bind (yz (r3.2.1, r3.2.2.1, r3.2.2.2, ([(0 : Int), (-1 : Int), (1 : Int), (300 : Int)] : List ye))) fun r4 => if (0 : Int) ≤ r3.1 then if r3.1 < (List.length r1.1 : Int) then some ((List.set r1.1 (Int.toNat r3.1) r4.1), r1.2.1, r4.2.1, r4.2.2.1, r4.2.2.2) else none else none else bif (r2.1 == (1 : Int)) then Option.bind (WN r2.2) fun r5 => if (List.length r1.2.1 + List.length ([r5.1] : List y0)) * 24 < 140737488355328 then some (r1.1, (r1.2.1 ++ ([r5.1] : List y0)), r5.2.1, r5.2.2.1, r5.2.2.2) else none else bif (r2.1 == (2 : Int)) then Option.bind (yb (r2.2.1, r2.2.2.1, r2.2.2.2, (List.length r1.2.1 : Int))) fun r6 => Option.bind (WN r6.2) fun r7 => if (0 : Int) ≤ r6.1 then if r6.1 < (List.length r1.2.1 : Int) then some (r1.1, (List.set r1.2.1 (Int.toNat r6.1) r7.1), r7.2.1, r7.2.2.1, r7.2.2.2) else none else none else bif (r2.1 == (3 : Int)) then some (([] : List ye), ([] : List y0), r2.2.1, r2.2.2.1, r2.2.2.2) else some (r1.1, r1.2.1, r2.2)
theorem yDw : EV [q90, y5o, yIM, yIR] lpN 277 Tryz.f277 yud yle yre vO := fun x => by kernel_rfl
def yIS : QF := ⟨277, vO, okN (n := 0) Tryz.func277 trivial yDw⟩
def wH (x : yld) : Option yAc :=
 Option.bind (yb x) fun r1 => some ((r1.1 == (0 : Int)), r1.2.1, r1.2.2.1, r1.2.2.2)
theorem yDx : EV [y5o] lpN 144 Tryz.f144 yue yle yAd wH := fun x => by kernel_rfl
def yGM : QF := ⟨144, wH, okN (n := 0) Tryz.func144 trivial yDx⟩
abbrev kU : Type := yj1
def kV (k0 : yrm → Option R) (again : kU → Option R) (t3 : kU) : Option R :=
 bif (decide (t3.1 > (0 : Int))) then bif (decide ((List.length t3.2.2.2.2 : Int) > (0 : Int))) then Option.bind (wH (t3.2.1, t3.2.2.1, t3.2.2.2.1, (4 : Int))) fun r2 => bif (!r2.1) then Option.bind (yb (r2.2.1, r2.2.2.1, r2.2.2.2, (List.length t3.2.2.2.2 : Int))) fun r3 => if (0 : Int) ≤ r3.1 then if r3.1 < (List.length t3.2.2.2.2 : Int) then Option.bind (yb (r3.2.1, r3.2.2.1, r3.2.2.2, (8 : Int))) fun r4 => Option.bind (Y7 (t3.2.2.2.2, (Go.IntKind.wrap .i64 ((1 : Int) + r4.1)), (yG t3.2.2.2.2 r3.1).1)) fun r5 => again ((Go.IntKind.wrap .i64 (t3.1 - (1 : Int))), r4.2.1, r4.2.2.1, r4.2.2.2, r5.1) else none else none else Option.bind (yb (r2.2.1, r2.2.2.1, r2.2.2.2, (8 : Int))) fun r6 => Option.bind (Y7 (t3.2.2.2.2, (Go.IntKind.wrap .i64 ((1 : Int) + r6.1)), (0 : Int))) fun r7 => again ((Go.IntKind.wrap .i64 (t3.1 - (1 : Int))), r6.2.1, r6.2.2.1, r6.2.2.2, r7.1) else Option.bind (yb (t3.2.1, t3.2.2.1, t3.2.2.2.1, (8 : Int))) fun r8 => Option.bind (Y7 (t3.2.2.2.2, (Go.IntKind.wrap .i64 ((1 : Int) + r8.1)), (0 : Int))) fun r9 => again ((Go.IntKind.wrap .i64 (t3.1 - (1 : Int))), r8.2.1, r8.2.2.1, r8.2.2.2, r9.1) else k0 t3.2
def y19 k0 := zh (@kV R k0) zu
def kW (x : yaQ) : Option yrn :=
 Option.bind (yb (x.1, x.2.1, x.2.2, (8 : Int))) fun r1 => y19 (fun x10 => some (x10.2.2.2, x10.1, x10.2.1, x10.2.2.1)) (r1.1, r1.2.1, r1.2.2.1, r1.2.2.2, ([] : List ya))
def yp6 : List QF := [yGM, y5o, yCy]
def y9b (t : yj1) : St := ⟨.box 900 0 :: dd 2 (.own 10000000 :: vI t.1 :: dd 34 []), [(900, .box [wP t.2.1, vI t.2.2.1, vI t.2.2.2.1]), (10000000, .root true 146 ym t.2.2.2.2)]⟩
def ymg : Gk kU := fun κ => kV (fun t => κ (some 0) ⟨.box 900 0 :: dd 2 (.own 10000000 :: dd 35 []), [(900, .box [wP t.1, vI t.2.1, vI t.2.2.1]), (10000000, .root true 146 ym t.2.2.2)]⟩)
def yp7 : Lp := lpC 3 (unG yj2 y9b) @ymg lpN
theorem yxk : LF yp6 yp7 334 3 Tryz.f334 0 y9b @ymg fun t => t := fun R κ again t => by kernel_rfl
theorem yxl : LK yp6 yp7 334 Tryz.f334 0 := lkN (u := (unG yj2 y9b)) (yo fun t => by kernel_rfl) yxk
theorem yDy : EV yp6 yp7 334 Tryz.f334 yuf Qg yro kW := fun x => by kernel_rfl
def yIT : QF := ⟨334, kW, okN (n := 1) Tryz.func334 ⟨yxl, trivial⟩ yDy⟩
abbrev kX : Type := yj1
def kY (k0 : yrm → Option R) (again : kX → Option R) (t10 : kX) : Option R :=
 bif (decide (t10.1 < (14 : Int))) then if (List.length t10.2.2.2.2 + List.length ([((Go.IntKind.wrap .i64 ((20 : Int) + t10.1)), (0 : Int))] : List ya)) * 16 < 140737488355328 then again ((Go.IntKind.wrap .i64 (t10.1 + (1 : Int))), t10.2.1, t10.2.2.1, t10.2.2.2.1, (t10.2.2.2.2 ++ ([((Go.IntKind.wrap .i64 ((20 : Int) + t10.1)), (0 : Int))] : List ya))) else none else k0 t10.2
def y1a k0 := zh (@kY R k0) zu
def vP (x : yaQ) : Option yrn :=
 Option.bind (kW x) fun r1 => Option.bind (yb (r1.2.1, r1.2.2.1, r1.2.2.2, (8 : Int))) fun r2 => bif (r2.1 == (0 : Int)) then Option.bind (yz (r2.2.1, r2.2.2.1, r2.2.2.2, ([(0 : Int), (3 : Int), (60 : Int), (61 : Int)] : List ye))) fun r3 => Option.bind (yz (r3.2.1, r3.2.2.1, r3.2.2.2, ([(0 : Int), (1 : Int), (9 : Int), (-1 : Int)] : List ye))) fun r4 => if (List.length r1.1 + List.length ([(r3.1, r4.1)] : List ya)) * 16 < 140737488355328 then some ((r1.1 ++ ([(r3.1, r4.1)] : List ya)), r4.2.1, r4.2.2.1, r4.2.2.2) else none else bif (r2.1 == (1 : Int)) then bif (decide ((List.length r1.1 : Int) > (0 : Int))) then Option.bind (yz (r2.2.1, r2.2.2.1, r2.2.2.2, ([(1 : Int), (2 : Int), (3 : Int)] : List ye))) fun r5 => if (0 : Int) ≤ (0 : Int) then if (0 : Int) < (List.length r1.1 : Int) then some ((List.set r1.1 (Int.toNat (0 : Int)) ((yG r1.1 (0 : Int)).1, r5.1)), r5.2.1, r5.2.2.1, r5.2.2.2) else none else none else some (r1.1, r2.2) else bif (r2.1 == (2 : Int)) then y1a (fun x6 => some (x6.2.2.2, x6.1, x6.2.1, x6.2.2.1)) ((0 : Int), r2.2.1, r2.2.2.1, r2.2.2.2, r1.1) else some (r1.1, r2.2)
def yp8 : List QF := [q90, y5o, yIT]
def y5p (t : yj1) : St := ⟨.box 900 0 :: dd 2 (.own 10000000 :: vI t.1 :: dd 40 []), [(900, .box [wP t.2.1, vI t.2.2.1, vI t.2.2.2.1]), (10000000, .root true 146 ym t.2.2.2.2)]⟩
def ygP : Gk kX := fun κ => kY (fun t => κ (some 1) ⟨.box 900 0 :: dd 2 (.own 10000000 :: dd 41 []), [(900, .box [wP t.1, vI t.2.1, vI t.2.2.1]), (10000000, .root true 146 ym t.2.2.2)]⟩)
def yp9 : Lp := lpC 10 (unG yj2 y5p) @ygP lpN
theorem ypa : LF yp8 yp9 278 10 Tryz.f278 0 y5p @ygP fun t => t := fun R κ again t => by kernel_rfl
theorem ypb : LK yp8 yp9 278 Tryz.f278 0 := lkN (u := (unG yj2 y5p)) (yo fun t => by kernel_rfl) ypa
theorem yDz : EV yp8 yp9 278 Tryz.f278 yug Qg yro vP := fun x => by kernel_rfl
def yIU : QF := ⟨278, vP, okN (n := 1) Tryz.func278 ⟨ypb, trivial⟩ yDz⟩
abbrev kZ : Type := yrp
def K0 (k0 : yAe → Option R) (again : kZ → Option R) (t3 : kZ) : Option R :=
 bif (decide (t3.1 > (0 : Int))) then Option.bind (wH (t3.2.1, t3.2.2.1, t3.2.2.2.1, (3 : Int))) fun r3 => bif r3.1 then Option.bind (yb (r3.2.1, r3.2.2.1, r3.2.2.2, (6 : Int))) fun r4 => Option.bind (Zb (t3.2.2.2.2, r4.1)) fun r5 => again ((Go.IntKind.wrap .i64 (t3.1 - (1 : Int))), r4.2.1, r4.2.2.1, r4.2.2.2, r5) else Option.bind (yz (r3.2.1, r3.2.2.1, r3.2.2.2, ([(0 : Int), (5 : Int), (65535 : Int)] : List ye))) fun r6 => Option.bind (Ys (t3.2.2.2.2, r6.1)) fun r7 => again ((Go.IntKind.wrap .i64 (t3.1 - (1 : Int))), r6.2.1, r6.2.2.1, r6.2.2.2, r7.1) else k0 t3.2
def y1b k0 := zh (@K0 R k0) zu
def K1 (x : yaQ) : Option yrr :=
 Option.bind (jr ()) fun r1 => Option.bind (yb (x.1, x.2.1, x.2.2, (30 : Int))) fun r2 => y1b (fun x8 => some (x8.2.2.2, x8.1, x8.2.1, x8.2.2.1)) (r2.1, r2.2.1, r2.2.2.1, r2.2.2.2, r1)
def ypc : List QF := [q90, yCB, yCQ, yGM, y5o, yGA]
def y9c (t : yrp) : St := ⟨.box 900 0 :: dd 2 (.own 10000000 :: vI t.1 :: dd 23 []), [(900, .box [wP t.2.1, vI t.2.2.1, vI t.2.2.2.1]), (10000000, .root true 113 yd t.2.2.2.2)]⟩
def ymh : Gk kZ := fun κ => K0 (fun t => κ (some 0) ⟨.box 900 0 :: dd 2 (.own 10000000 :: dd 24 []), [(900, .box [wP t.1, vI t.2.1, vI t.2.2.1]), (10000000, .root true 113 yd t.2.2.2)]⟩)
def ypd : Lp := lpC 3 (unG yrq y9c) @ymh lpN
theorem yxm : LF ypc ypd 335 3 Tryz.f335 0 y9c @ymh fun t => t := fun R κ again t => by kernel_rfl
theorem yxn : LK ypc ypd 335 Tryz.f335 0 := lkN (u := (unG yrq y9c)) (yo fun t => by kernel_rfl) yxm
theorem yDA : EV ypc ypd 335 Tryz.f335 yuh Qg yrs K1 := fun x => by kernel_rfl
def yIV : QF := ⟨335, K1, okN (n := 1) Tryz.func335 ⟨yxn, trivial⟩ yDA⟩
def vQ (x : yaQ) : Option yrr :=
 Option.bind (K1 x) fun r1 => Option.bind (yb (r1.2.1, r1.2.2.1, r1.2.2.2, (10 : Int))) fun r2 => bif (r2.1 == (0 : Int)) then if (0 : Int) ≤ (1 : Int) then if (1 : Int) ≤ (List.length r1.1 : Int) then if (List.length r1.1 : Int) ≤ (List.length r1.1 : Int) then some ((List.drop (Int.toNat (1 : Int)) (List.take (Int.toNat (List.length r1.1 : Int)) r1.1)), r2.2.1, r2.2.2.1, r2.2.2.2) else none else none else none else bif (r2.1 == (1 : Int)) then Option.bind (yb (r2.2.1, r2.2.2.1, r2.2.2.2, (List.length r1.1 : Int))) fun r3 => Option.bind (yz (r3.2.1, r3.2.2.1, r3.2.2.2, ([(-1 : Int), (999 : Int), (1000 : Int)] : List ye))) fun r4 => if (0 : Int) ≤ r3.1 then if r3.1 < (List.length r1.1 : Int) then some ((List.set r1.1 (Int.toNat r3.1) (r4.1, (yp r1.1 r3.1).2)), r4.2.1, r4.2.2.1, r4.2.2.2) else none else none else bif (r2.1 == (2 : Int)) then Option.bind (yb (r2.2.1, r2.2.2.1, r2.2.2.2, (List.length r1.1 : Int))) fun r5 => Option.bind (yz (r5.2.1, r5.2.2.1, r5.2.2.2, ([(-1 : Int), (5 : Int), (65536 : Int)] : List ye))) fun r6 => if (0 : Int) ≤ r5.1 then if r5.1 < (List.length r1.1 : Int) then some ((List.set r1.1 (Int.toNat r5.1) ((yp r1.1 r5.1).1, (yp r1.1 r5.1).2.1, r6.1)), r6.2.1, r6.2.2.1, r6.2.2.2) else none else none else bif (r2.1 == (3 : Int)) then if (0 : Int) ≤ (0 : Int) then if (0 : Int) < (List.length r1.1 : Int) then some ((List.set r1.1 (Int.toNat (0 : Int)) ((999 : Int), (yp r1.1 (0 : Int)).2)), r2.2.1, r2.2.2.1, r2.2.2.2) else none else none else some (r1.1, r2.2)
theorem yDB : EV [q90, y5o, yIV] lpN 279 Tryz.f279 yui Qg yrs vQ := fun x => by kernel_rfl
def yIW : QF := ⟨279, vQ, okN (n := 0) Tryz.func279 trivial yDB⟩
def jV (x : yld) : Option yr9 :=
 Option.bind (Jm x) fun r1 => Option.bind (yb (r1.2.2.2.2.2.2.1, r1.2.2.2.2.2.2.2.1, r1.2.2.2.2.2.2.2.2, (20 : Int))) fun r2 => bif (r2.1 == (0 : Int)) then Option.bind (vO (r2.2.1, r2.2.2.1, r2.2.2.2, (6 : Int))) fun r3 => some (r3.1, r3.2.1, r1.2.2.1, r1.2.2.2.1, r1.2.2.2.2.1, r1.2.2.2.2.2.1, r3.2.2) else bif (r2.1 == (1 : Int)) then Option.bind (vP r2.2) fun r4 => some (r1.1, r1.2.1, r4.1, r1.2.2.2.1, r1.2.2.2.2.1, r1.2.2.2.2.2.1, r4.2) else bif (r2.1 == (2 : Int)) then Option.bind (vQ r2.2) fun r5 => some (r1.1, r1.2.1, r1.2.2.1, r5.1, r1.2.2.2.2.1, r1.2.2.2.2.2.1, r5.2) else bif (r2.1 == (3 : Int)) then Option.bind (w4 (r2.2.1, r2.2.2.1, r2.2.2.2, ([{ data := #[97] }, { data := #[122, 122] }, { data := #[65] }] : List QS))) fun r6 => Option.bind (yb (r6.2.1, r6.2.2.1, r6.2.2.2, (4 : Int))) fun r7 => Option.bind (yz (r7.2.1, r7.2.2.1, r7.2.2.2, ([(0 : Int), (1 : Int), (13 : Int)] : List ye))) fun r8 => if (List.length r1.2.2.2.2.1 + List.length ([(r6.1, (Go.IntKind.wrap .i64 ((1 : Int) + r7.1)), r8.1, false)] : List yf)) * 40 < 140737488355328 then some (r1.1, r1.2.1, r1.2.2.1, r1.2.2.2.1, (r1.2.2.2.2.1 ++ ([(r6.1, (Go.IntKind.wrap .i64 ((1 : Int) + r7.1)), r8.1, false)] : List yf)), r1.2.2.2.2.2.1, r8.2.1, r8.2.2.1, r8.2.2.2) else none else bif (r2.1 == (4 : Int)) then Option.bind (yz (r2.2.1, r2.2.2.1, r2.2.2.2, ([(0 : Int), (1 : Int), (60 : Int), (61 : Int), (62 : Int)] : List ye))) fun r9 => some (r1.1, r1.2.1, r1.2.2.1, r1.2.2.2.1, r1.2.2.2.2.1, r9) else bif (r2.1 == (5 : Int)) then Option.bind (yb (r2.2.1, r2.2.2.1, r2.2.2.2, (List.length r1.2.2.2.1 : Int))) fun r10 => if (0 : Int) ≤ r10.1 then if r10.1 < (List.length r1.2.2.2.1 : Int) then some (r1.1, r1.2.1, r1.2.2.1, (List.set r1.2.2.2.1 (Int.toNat r10.1) ((yp r1.2.2.2.1 r10.1).1, true, (yp r1.2.2.2.1 r10.1).2.2)), r1.2.2.2.2.1, r1.2.2.2.2.2.1, r10.2.1, r10.2.2.1, r10.2.2.2) else none else none else bif (r2.1 == (6 : Int)) then bif (decide ((List.length r1.2.2.2.2.1 : Int) > (0 : Int))) then Option.bind (yb (r2.2.1, r2.2.2.1, r2.2.2.2, (6 : Int))) fun r11 => if (0 : Int) ≤ (0 : Int) then if (0 : Int) < (List.length r1.2.2.2.2.1 : Int) then some (r1.1, r1.2.1, r1.2.2.1, r1.2.2.2.1, (List.set r1.2.2.2.2.1 (Int.toNat (0 : Int)) ((yl r1.2.2.2.2.1 (0 : Int)).1, (Go.IntKind.wrap .i64 ((1 : Int) + r11.1)), (yl r1.2.2.2.2.1 (0 : Int)).2.2)), r1.2.2.2.2.2.1, r11.2.1, r11.2.2.1, r11.2.2.2) else none else none else some (r1.1, r1.2.1, r1.2.2.1, r1.2.2.2.1, r1.2.2.2.2.1, r1.2.2.2.2.2.1, r2.2) else some (r1.1, r1.2.1, r1.2.2.1, r1.2.2.2.1, r1.2.2.2.2.1, r1.2.2.2.2.2.1, r2.2)
theorem yDC : EV [q90, yGL, y5o, yCq, yIS, yIU, yIW] lpN 165 Tryz.f165 yuj yle yra jV := fun x => by kernel_rfl
def yGN : QF := ⟨165, jV, okN (n := 0) Tryz.func165 trivial yDC⟩
abbrev Wu : Type := ygl ⊕ ygm
def Je (k0 : yAf → Option R) (k1 : yAg → Option R) (again : Wu → Option R) : Wu → Option R
 | .inl t4 => bif (decide (t4.1 > (0 : Int))) then Option.bind (zT (t4.2.2.1, t4.2.2.2.1, t4.2.2.2.2.1)) fun r5 => Option.bind (jR (t4.2.2.2.2.2.1, t4.2.2.2.2.2.2.1, t4.2.2.2.2.2.2.2.1, t4.2.2.2.2.2.2.2.2.1, t4.2.2.2.2.2.2.2.2.2.2, t4.2.2.2.2.2.2.2.2.2.1, r5.1)) fun r6 => again (Sum.inr ((Go.IntKind.wrap .i64 (t4.1 - (1 : Int))), t4.2.1, r5.2.1, r5.2.2.1, r5.2.2.2, r6.1, r6.2.1, r6.2.2.1, r6.2.2.2.2.2.1, r6.2.2.2.1, r6.2.2.2.2.1)) else k0 (t4.2.1, t4.2.2.2.2.2)
 | .inr t4 => bif (decide (t4.1 > (0 : Int))) then Option.bind (zT (t4.2.2.1, t4.2.2.2.1, t4.2.2.2.2.1)) fun r7 => Option.bind (jR (t4.2.2.2.2.2.1, t4.2.2.2.2.2.2.1, t4.2.2.2.2.2.2.2.1, t4.2.2.2.2.2.2.2.2.2.1, t4.2.2.2.2.2.2.2.2.2.2, t4.2.2.2.2.2.2.2.2.1, r7.1)) fun r8 => again (Sum.inr ((Go.IntKind.wrap .i64 (t4.1 - (1 : Int))), t4.2.1, r7.2.1, r7.2.2.1, r7.2.2.2, r8.1, r8.2.1, r8.2.2.1, r8.2.2.2.2.2.1, r8.2.2.2.1, r8.2.2.2.2.1)) else k1 (t4.2.1, t4.2.2.2.2.2)
def y0m k0 k1 := zh (@Je R k0 k1) zu
def We (x : List za) : Option y6q :=
 Option.bind (WK x) fun r1 => Option.bind (jS (x, (24 : Int))) fun r2 => Option.bind (jV (r1.1, r1.2.1, r1.2.2, (Go.IntKind.wrap .i64 ((6 : Int) + r2)))) fun r3 => Option.bind (yb (r3.2.2.2.2.2.2.1, r3.2.2.2.2.2.2.2.1, r3.2.2.2.2.2.2.2.2, (3 : Int))) fun r4 => y0m (fun x9 => some (x9.2.1, x9.2.2.1, x9.2.2.2.1, x9.2.2.2.2.1, x9.2.2.2.2.2.2, x9.2.2.2.2.2.1)) (fun x10 => some (x10.2.1, x10.2.2.1, x10.2.2.2.1, x10.2.2.2.2.2.1, x10.2.2.2.2.2.2, x10.2.2.2.2.1)) (Sum.inl (r4.1, (0 : Int), r4.2.1, r4.2.2.1, r4.2.2.2, r3.1, r3.2.1, r3.2.2.1, r3.2.2.2.1, r3.2.2.2.2.2.1, r3.2.2.2.2.1))
def ygQ : List QF := [q64, yCk, yCm, y5o, yGN, yGy]
def y4r (t : ygl) : St := ⟨dd 2 (.box 2 0 :: .box 8500 0 :: .box 4 0 :: vI t.1 :: dd 21 []), [(2, .box [.nils, .nils, .nils, .nils, .nils, vI t.2.1]), (8500, .box [wP t.2.2.1, vI t.2.2.2.1, vI t.2.2.2.2.1]), (4, .box [zc t.2.2.2.2.2.1, yw t.2.2.2.2.2.2.1, zk t.2.2.2.2.2.2.2.1, yI t.2.2.2.2.2.2.2.2.1, .own 10000000, vI t.2.2.2.2.2.2.2.2.2.1]), (10000000, .root true 46 yt t.2.2.2.2.2.2.2.2.2.2)]⟩
theorem yjx : ∀ s t, unG yrt y4r s = some t → y4r t = s := yo fun t => by kernel_rfl
def y4s (t : ygm) : St := ⟨dd 2 (.box 2 0 :: .box 8500 0 :: .box 4 0 :: vI t.1 :: dd 21 []), [(2, .box [.nils, .nils, .nils, .nils, .nils, vI t.2.1]), (8500, .box [wP t.2.2.1, vI t.2.2.2.1, vI t.2.2.2.2.1]), (4, .box [zc t.2.2.2.2.2.1, yw t.2.2.2.2.2.2.1, zk t.2.2.2.2.2.2.2.1, .own 10000000, .own 10000001, vI t.2.2.2.2.2.2.2.2.1]), (10000000, .root true 113 yd t.2.2.2.2.2.2.2.2.2.1), (10000001, .root true 46 yt t.2.2.2.2.2.2.2.2.2.2)]⟩
theorem yjy : ∀ s t, unG yru y4s s = some t → y4s t = s := yo fun t => by kernel_rfl
def y4t : (ygl ⊕ ygm) → St := Sum.elim y4r y4s
def y9d (s : St) : Option (ygl ⊕ ygm) := ((unG yrt y4r s).map Sum.inl).or (((unG yru y4s) s).map Sum.inr)
theorem yjz : ∀ s t, y9d s = some t → y4t t = s := y5h yjx yjy
def ydR : Gk Wu := fun κ => Je (fun t => κ (some 0) ⟨dd 2 (.box 2 0 :: .dead :: .box 4 0 :: dd 22 []), [(2, .box [.nils, .nils, .nils, .nils, .nils, vI t.1]), (4, .box [zc t.2.1, yw t.2.2.1, zk t.2.2.2.1, yI t.2.2.2.2.1, .own 10000000, vI t.2.2.2.2.2.1]), (10000000, .root true 46 yt t.2.2.2.2.2.2)]⟩) (fun t => κ (some 0) ⟨dd 2 (.box 2 0 :: .dead :: .box 4 0 :: dd 22 []), [(2, .box [.nils, .nils, .nils, .nils, .nils, vI t.1]), (4, .box [zc t.2.1, yw t.2.2.1, zk t.2.2.2.1, .own 10000000, .own 10000001, vI t.2.2.2.2.1]), (10000000, .root true 113 yd t.2.2.2.2.2.1), (10000001, .root true 46 yt t.2.2.2.2.2.2)]⟩)
def ygR : Lp := lpC 4 y9d @ydR lpN
theorem yjA : LF ygQ ygR 106 4 Tryz.f106 0 y4t @ydR fun v : ygl => .inl v := fun R κ again v => by kernel_rfl
theorem yjB : LF ygQ ygR 106 4 Tryz.f106 0 y4t @ydR fun v : ygm => .inr v := fun R κ again v => by kernel_rfl
theorem yxo : LF ygQ ygR 106 4 Tryz.f106 0 y4t @ydR fun t => t := (LC.sum yjA yjB)
theorem yxp : LK ygQ ygR 106 Tryz.f106 0 := lkN (u := y9d) yjz yxo
theorem yDD : EV ygQ ygR 106 Tryz.f106 yuk [(.sl 5 yu)] jI We := fun x => by kernel_rfl
def yIX : QF := ⟨106, We, okN (n := 1) Tryz.func106 ⟨yxp, trivial⟩ yDD⟩
def ZD (x : List za) : Option y6q :=
 Option.bind (We x) fun r1 => some r1
theorem yIY : EV [yIX] lpN 50 Tryz.f50 yGh [(.sl 5 yu)] jI ZD := fun x => by kernel_rfl
def q50 : QF := ⟨50, ZD, okN (n := 0) Tryz.func50 trivial yIY⟩
abbrev qk : Type := yrv
def zz (k0 : List za → Option R) (again : qk → Option R) (t3 : qk) : Option R :=
 bif (decide (t3.2.2.1 < t3.2.1)) then if (0 : Int) ≤ t3.2.2.1 then if t3.2.2.1 < (List.length t3.1 : Int) then if (List.length t3.2.2.2 + List.length (y5k t3.1 t3.2.2.1)) * 1 < 140737488355328 then again (t3.1, t3.2.1, (Go.IntKind.wrap .i64 (t3.2.2.1 + (1 : Int))), (t3.2.2.2 ++ (y5k t3.1 t3.2.2.1))) else none else none else none else k0 t3.2.2.2
def qm k0 := zh (@zz R k0) zu
def Yp (x : List y2y) : Option (List za) :=
 qm (fun x1 => some x1) (x, (List.length x : Int), (0 : Int), ([] : List za))
def ype : List QF := []
def y9e (t : yrv) : St := ⟨dd 3 (.own 10000000 :: dd 3 (yqy t.1 :: vI t.2.1 :: vI t.2.2.1 :: dd 8 [])), [(10000000, .root true 5 yu t.2.2.2)]⟩
def ymi : Gk qk := fun κ => zz (fun t => κ (some 0) ⟨dd 3 (.own 10000000 :: dd 14 []), [(10000000, .root true 5 yu t)]⟩)
def ypf : Lp := lpC 3 (unG yrw y9e) @ymi lpN
theorem yxq : LF ype ypf 189 3 Tryz.f189 0 y9e @ymi fun t => t := fun R κ again t => by kernel_rfl
theorem yxr : LK ype ypf 189 Tryz.f189 0 := lkN (u := (unG yrw y9e)) (yo fun t => by kernel_rfl) yxq
theorem yDE : EV ype ypf 189 Tryz.f189 yul [(.sl 22 y3j)] [(.sl 5 yu)] Yp := fun x => by kernel_rfl
def yDF : QF := ⟨189, Yp, okN (n := 1) Tryz.func189 ⟨yxr, trivial⟩ yDE⟩
def ZV (x : yiX) : Option (List za) :=
 Option.bind (Yp ([x.1, ([(Go.IntKind.wrap .u8 (Go.bits .and .i64 (Int.fdiv x.2 (2 ^ (min (Int.toNat (8 : Int)) (Go.IntKind.bits .i64)))) (255 : Int))), (Go.IntKind.wrap .u8 (Go.bits .and .i64 x.2 (255 : Int)))] : List za)] : List y2y)) fun r1 => some r1
theorem yDG : EV [yDF] lpN 151 Tryz.f151 yum ylc [(.sl 5 yu)] ZV := fun x => by kernel_rfl
def yDH : QF := ⟨151, ZV, okN (n := 0) Tryz.func151 trivial yDG⟩
def Wf (x : yrx) : Option (List za) :=
 bif (decide (((ByteArray.size x.2 : Nat) : Int) > (60 : Int))) then Option.bind (Yp ([x.1] : List y2y)) fun r1 => some r1 else Option.bind (ZV (x.1, ((ByteArray.size x.2 : Nat) : Int))) fun r2 => if ByteArray.size x.2 < 140737488351232 then Option.bind (Yp ([r2, (Zq x.2)] : List y2y)) fun r3 => some r3 else none
theorem yDI : EV [yDH, yDF] lpN 152 Tryz.f152 yun yry [(.sl 5 yu)] Wf := fun x => by kernel_rfl
def yIZ : QF := ⟨152, Wf, okN (n := 0) Tryz.func152 trivial yDI⟩
def qn (x : Bool) : Option Int :=
 bif x then some (1 : Int) else some (0 : Int)
theorem yDJ : EV [] lpN 153 Tryz.f153 yuo [.bool] [(.int .u8)] qn := fun x => by kernel_rfl
def yJ0 : QF := ⟨153, qn, okN (n := 0) Tryz.func153 trivial yDJ⟩
def K2 (x : yrz) : Option (List za) :=
 Option.bind (Yp ([x.1] : List y2y)) fun r1 => Option.bind (JM x.2) fun r2 => bif (!r2) then some r1 else if (List.length r1 + List.length ([(Go.IntKind.wrap .u8 x.2.1), (Go.IntKind.wrap .u8 x.2.2.1), (Go.IntKind.wrap .u8 x.2.2.2.1), (Go.IntKind.wrap .u8 x.2.2.2.2.1)] : List za)) * 1 < 140737488355328 then Option.bind (ZV ((r1 ++ ([(Go.IntKind.wrap .u8 x.2.1), (Go.IntKind.wrap .u8 x.2.2.1), (Go.IntKind.wrap .u8 x.2.2.2.1), (Go.IntKind.wrap .u8 x.2.2.2.2.1)] : List za)), x.2.2.2.2.2)) fun r3 => some r3 else none
theorem yDK : EV [yDH, yDF, yB7] lpN 154 Tryz.f154 yup yrA [(.sl 5 yu)] K2 := fun x => by kernel_rfl
def yJ1 : QF := ⟨154, K2, okN (n := 0) Tryz.func154 trivial yDK⟩
abbrev V8 : Type := yrB
def Jf (k0 : yf5 → Option R) (again : V8 → Option R) (t5 : V8) : Option R :=
 bif (decide (t5.2.2.1 < t5.2.1)) then if (0 : Int) ≤ t5.2.2.1 then if t5.2.2.1 < (List.length t5.1 : Int) then if (List.length t5.2.2.2.2.2.2.2.2.2 + List.length ([(Go.IntKind.wrap .u8 ((yG t5.1 t5.2.2.1).1)), (Go.IntKind.wrap .u8 ((yG t5.1 t5.2.2.1).2))] : List za)) * 1 < 140737488355328 then again (t5.1, t5.2.1, (Go.IntKind.wrap .i64 (t5.2.2.1 + (1 : Int))), t5.2.2.2.1, t5.2.2.2.2.1, t5.2.2.2.2.2.1, t5.2.2.2.2.2.2.1, t5.2.2.2.2.2.2.2.1, t5.2.2.2.2.2.2.2.2.1, (t5.2.2.2.2.2.2.2.2.2 ++ ([(Go.IntKind.wrap .u8 ((yG t5.1 t5.2.2.1).1)), (Go.IntKind.wrap .u8 ((yG t5.1 t5.2.2.1).2))] : List za))) else none else none else none else k0 t5.2.2.2
def V9 k0 := zh (@Jf R k0) zu
abbrev KK : Type := yrD
def jv (k0 : yf5 → Option R) (again : KK → Option R) (t11 : KK) : Option R :=
 bif (decide (t11.2.2.1 < t11.2.1)) then if (0 : Int) ≤ t11.2.2.1 then if t11.2.2.1 < (List.length t11.1 : Int) then Option.bind (Wf (t11.2.2.2.2.2.2.2.2.2, (yl t11.1 t11.2.2.1).1)) fun r4 => Option.bind (qn ((yl t11.1 t11.2.2.1).2.2.2)) fun r5 => if (List.length r4 + List.length ([(Go.IntKind.wrap .u8 ((yl t11.1 t11.2.2.1).2.1)), (Go.IntKind.wrap .u8 ((yl t11.1 t11.2.2.1).2.2.1)), r5] : List za)) * 1 < 140737488355328 then again (t11.1, t11.2.1, (Go.IntKind.wrap .i64 (t11.2.2.1 + (1 : Int))), t11.2.2.2.1, t11.2.2.2.2.1, t11.2.2.2.2.2.1, t11.2.2.2.2.2.2.1, t11.2.2.2.2.2.2.2.1, t11.2.2.2.2.2.2.2.2.1, (r4 ++ ([(Go.IntKind.wrap .u8 ((yl t11.1 t11.2.2.1).2.1)), (Go.IntKind.wrap .u8 ((yl t11.1 t11.2.2.1).2.2.1)), r5] : List za))) else none else none else none else k0 t11.2.2.2
def KL k0 := zh (@jv R k0) zu
abbrev KM : Type := yrF
def jw (k0 : yf5 → Option R) (again : KM → Option R) (t16 : KM) : Option R :=
 bif (decide (t16.2.2.1 < t16.2.1)) then if (0 : Int) ≤ t16.2.2.1 then if t16.2.2.1 < (List.length t16.1 : Int) then Option.bind (ZV (t16.2.2.2.2.2.2.2.2.2, (yp t16.1 t16.2.2.1).1)) fun r7 => Option.bind (qn ((yp t16.1 t16.2.2.1).2.1)) fun r8 => if (List.length r7 + List.length ([r8] : List za)) * 1 < 140737488355328 then Option.bind (ZV ((r7 ++ ([r8] : List za)), (yp t16.1 t16.2.2.1).2.2)) fun r9 => again (t16.1, t16.2.1, (Go.IntKind.wrap .i64 (t16.2.2.1 + (1 : Int))), t16.2.2.2.1, t16.2.2.2.2.1, t16.2.2.2.2.2.1, t16.2.2.2.2.2.2.1, t16.2.2.2.2.2.2.2.1, t16.2.2.2.2.2.2.2.2.1, r9) else none else none else none else k0 t16.2.2.2
def KN k0 := zh (@jw R k0) zu
abbrev KO : Type := yrH
def jx (k0 : yn8 → Option R) (again : KO → Option R) (t30 : KO) : Option R :=
 bif (decide (t30.2.2.2.2.2.2.2.2.1 < t30.2.2.2.2.2.2.2.1)) then if (0 : Int) ≤ t30.2.2.2.2.2.2.2.2.1 then if t30.2.2.2.2.2.2.2.2.1 < (List.length t30.2.2.2.2.2.2.1 : Int) then Option.bind (K2 (t30.2.2.2.2.2.2.2.2.2.2.2.2.2.2.2, (y6 t30.2.2.2.2.2.2.1 t30.2.2.2.2.2.2.2.2.1).1, (y6 t30.2.2.2.2.2.2.1 t30.2.2.2.2.2.2.2.2.1).2.1, (y6 t30.2.2.2.2.2.2.1 t30.2.2.2.2.2.2.2.2.1).2.2.1, (y6 t30.2.2.2.2.2.2.1 t30.2.2.2.2.2.2.2.2.1).2.2.2.1, (y6 t30.2.2.2.2.2.2.1 t30.2.2.2.2.2.2.2.2.1).2.2.2.2)) fun r12 => again (t30.1, t30.2.1, t30.2.2.1, t30.2.2.2.1, t30.2.2.2.2.1, t30.2.2.2.2.2.1, t30.2.2.2.2.2.2.1, t30.2.2.2.2.2.2.2.1, (Go.IntKind.wrap .i64 (t30.2.2.2.2.2.2.2.2.1 + (1 : Int))), t30.2.2.2.2.2.2.2.2.2.1, t30.2.2.2.2.2.2.2.2.2.2.1, t30.2.2.2.2.2.2.2.2.2.2.2.1, t30.2.2.2.2.2.2.2.2.2.2.2.2.1, t30.2.2.2.2.2.2.2.2.2.2.2.2.2.1, t30.2.2.2.2.2.2.2.2.2.2.2.2.2.2.1, r12) else none else none else k0 (t30.1, t30.2.1, t30.2.2.1, t30.2.2.2.1, t30.2.2.2.2.1, t30.2.2.2.2.2.1, t30.2.2.2.2.2.2.2.2.2)
def KP k0 := zh (@jx R k0) zu
abbrev KQ : Type := yn8
def jy (k0 : yn9 → Option R) (again : KQ → Option R) (t26 : KQ) : Option R :=
 bif (decide (t26.2.2.2.2.2.1 < t26.2.2.2.2.1)) then if (0 : Int) ≤ t26.2.2.2.2.2.1 then if t26.2.2.2.2.2.1 < (List.length t26.2.2.2.1 : Int) then if (List.length t26.2.2.2.2.2.2.2.2.2.2.2.2 + List.length ([(Go.IntKind.wrap .u8 (List.length (yr t26.2.2.2.1 t26.2.2.2.2.2.1) : Int))] : List za)) * 1 < 140737488355328 then KP (fun x13 => again (x13.1, x13.2.1, x13.2.2.1, x13.2.2.2.1, x13.2.2.2.2.1, (Go.IntKind.wrap .i64 (x13.2.2.2.2.2.1 + (1 : Int))), x13.2.2.2.2.2.2.1, x13.2.2.2.2.2.2.2.1, x13.2.2.2.2.2.2.2.2.1, x13.2.2.2.2.2.2.2.2.2.1, x13.2.2.2.2.2.2.2.2.2.2.1, x13.2.2.2.2.2.2.2.2.2.2.2.1, x13.2.2.2.2.2.2.2.2.2.2.2.2)) (t26.1, t26.2.1, t26.2.2.1, t26.2.2.2.1, t26.2.2.2.2.1, t26.2.2.2.2.2.1, (yr t26.2.2.2.1 t26.2.2.2.2.2.1), (List.length (yr t26.2.2.2.1 t26.2.2.2.2.2.1) : Int), (0 : Int), t26.2.2.2.2.2.2.1, t26.2.2.2.2.2.2.2.1, t26.2.2.2.2.2.2.2.2.1, t26.2.2.2.2.2.2.2.2.2.1, t26.2.2.2.2.2.2.2.2.2.2.1, t26.2.2.2.2.2.2.2.2.2.2.2.1, (t26.2.2.2.2.2.2.2.2.2.2.2.2 ++ ([(Go.IntKind.wrap .u8 (List.length (yr t26.2.2.2.1 t26.2.2.2.2.2.1) : Int))] : List za))) else none else none else none else k0 (t26.1, t26.2.1, t26.2.2.1, t26.2.2.2.2.2.2)
def KR k0 := zh (@jy R k0) zu
abbrev KS : Type := yn9
def jz (k0 : List za → Option R) (again : KS → Option R) (t22 : KS) : Option R :=
 bif (decide (t22.2.2.1 < t22.2.1)) then if (0 : Int) ≤ t22.2.2.1 then if t22.2.2.1 < (List.length t22.1 : Int) then if (0 : Int) ≤ t22.2.2.1 then if t22.2.2.1 < (List.length t22.2.2.2.1 : Int) then Option.bind (ZV (t22.2.2.2.2.2.2.2.2.2, (zL t22.2.2.2.1 t22.2.2.1))) fun r11 => if (List.length r11 + List.length ([(Go.IntKind.wrap .u8 (List.length (yg t22.1 t22.2.2.1) : Int))] : List za)) * 1 < 140737488355328 then KR (fun x14 => again (x14.1, x14.2.1, (Go.IntKind.wrap .i64 (x14.2.2.1 + (1 : Int))), x14.2.2.2.1, x14.2.2.2.2.1, x14.2.2.2.2.2.1, x14.2.2.2.2.2.2.1, x14.2.2.2.2.2.2.2.1, x14.2.2.2.2.2.2.2.2.1, x14.2.2.2.2.2.2.2.2.2)) (t22.1, t22.2.1, t22.2.2.1, (yg t22.1 t22.2.2.1), (List.length (yg t22.1 t22.2.2.1) : Int), (0 : Int), t22.2.2.2.1, t22.2.2.2.2.1, t22.2.2.2.2.2.1, t22.2.2.2.2.2.2.1, t22.2.2.2.2.2.2.2.1, t22.2.2.2.2.2.2.2.2.1, (r11 ++ ([(Go.IntKind.wrap .u8 (List.length (yg t22.1 t22.2.2.1) : Int))] : List za))) else none else none else none else none else none else k0 t22.2.2.2.2.2.2.2.2.2
def KT k0 := zh (@jz R k0) zu
def YY (x : y6q) : Option (List za) :=
 Option.bind (Ym x) fun r1 => bif (!r1) then some ([] : List za) else Option.bind (ZV (([] : List za), x.2.2.2.2.2)) fun r2 => if (List.length r2 + List.length ([(Go.IntKind.wrap .u8 (List.length x.2.2.1 : Int))] : List za)) * 1 < 140737488355328 then V9 (fun x3 => if (List.length x3.2.2.2.2.2.2 + List.length ([(Go.IntKind.wrap .u8 (List.length x3.2.2.2.2.1 : Int))] : List za)) * 1 < 140737488355328 then KL (fun x6 => KN (fun x10 => if (List.length x10.2.2.2.2.2.2 + List.length ([(Go.IntKind.wrap .u8 (List.length x10.2.1 : Int))] : List za)) * 1 < 140737488355328 then KT (fun x15 => some x15) (x10.2.1, (List.length x10.2.1 : Int), (0 : Int), x10.1, x10.2.1, x10.2.2.1, x10.2.2.2.1, x10.2.2.2.2.1, x10.2.2.2.2.2.1, (x10.2.2.2.2.2.2 ++ ([(Go.IntKind.wrap .u8 (List.length x10.2.1 : Int))] : List za))) else none) (x6.2.2.2.1, (List.length x6.2.2.2.1 : Int), (0 : Int), x6.1, x6.2.1, x6.2.2.1, x6.2.2.2.1, x6.2.2.2.2.1, x6.2.2.2.2.2.1, x6.2.2.2.2.2.2)) (x3.2.2.2.2.1, (List.length x3.2.2.2.2.1 : Int), (0 : Int), x3.1, x3.2.1, x3.2.2.1, x3.2.2.2.1, x3.2.2.2.2.1, x3.2.2.2.2.2.1, (x3.2.2.2.2.2.2 ++ ([(Go.IntKind.wrap .u8 (List.length x3.2.2.2.2.1 : Int))] : List za))) else none) (x.2.2.1, (List.length x.2.2.1 : Int), (0 : Int), x.1, x.2.1, x.2.2.1, x.2.2.2.1, x.2.2.2.2.1, x.2.2.2.2.2, (r2 ++ ([(Go.IntKind.wrap .u8 (List.length x.2.2.1 : Int))] : List za))) else none
def yf8 : List QF := [q30, yDH, yIZ, yJ0, yJ1]
def ycB (t : yrB) : St := ⟨.dead :: .box 1 0 :: .dead :: .own 10000000 :: dd 25 (zk t.1 :: vI t.2.1 :: vI t.2.2.1 :: dd 120 []), [(1, .box [zc t.2.2.2.1, yw t.2.2.2.2.1, zk t.2.2.2.2.2.1, yI t.2.2.2.2.2.2.1, zM t.2.2.2.2.2.2.2.1, vI t.2.2.2.2.2.2.2.2.1]), (10000000, .root true 5 yu t.2.2.2.2.2.2.2.2.2)]⟩
def yxs : Gk V8 := fun κ => Jf (fun t => κ (some 0) ⟨.dead :: .box 1 0 :: .dead :: .own 10000000 :: dd 148 [], [(1, .box [zc t.1, yw t.2.1, zk t.2.2.1, yI t.2.2.2.1, zM t.2.2.2.2.1, vI t.2.2.2.2.2.1]), (10000000, .root true 5 yu t.2.2.2.2.2.2)]⟩)
def y9f (t : yrD) : St := ⟨.dead :: .box 1 0 :: .dead :: .own 10000000 :: dd 49 (zM t.1 :: vI t.2.1 :: vI t.2.2.1 :: dd 96 []), [(1, .box [zc t.2.2.2.1, yw t.2.2.2.2.1, zk t.2.2.2.2.2.1, yI t.2.2.2.2.2.2.1, zM t.2.2.2.2.2.2.2.1, vI t.2.2.2.2.2.2.2.2.1]), (10000000, .root true 5 yu t.2.2.2.2.2.2.2.2.2)]⟩
def ymj : Gk KK := fun κ => jv (fun t => κ (some 2) ⟨.dead :: .box 1 0 :: .dead :: .own 10000000 :: dd 148 [], [(1, .box [zc t.1, yw t.2.1, zk t.2.2.1, yI t.2.2.2.1, zM t.2.2.2.2.1, vI t.2.2.2.2.2.1]), (10000000, .root true 5 yu t.2.2.2.2.2.2)]⟩)
def y9g (t : yrF) : St := ⟨.dead :: .box 1 0 :: .dead :: .own 10000000 :: dd 72 (yI t.1 :: vI t.2.1 :: vI t.2.2.1 :: dd 73 []), [(1, .box [zc t.2.2.2.1, yw t.2.2.2.2.1, zk t.2.2.2.2.2.1, yI t.2.2.2.2.2.2.1, zM t.2.2.2.2.2.2.2.1, vI t.2.2.2.2.2.2.2.2.1]), (10000000, .root true 5 yu t.2.2.2.2.2.2.2.2.2)]⟩
def ymk : Gk KM := fun κ => jw (fun t => κ (some 4) ⟨.dead :: .box 1 0 :: .dead :: .own 10000000 :: dd 148 [], [(1, .box [zc t.1, yw t.2.1, zk t.2.2.1, yI t.2.2.2.1, zM t.2.2.2.2.1, vI t.2.2.2.2.2.1]), (10000000, .root true 5 yu t.2.2.2.2.2.2)]⟩)
def y9h (t : yrH) : St := ⟨.dead :: .box 1 0 :: .dead :: .own 10000000 :: dd 101 (yw t.1 :: vI t.2.1 :: vI t.2.2.1 :: dd 19 (Yc t.2.2.2.1 :: vI t.2.2.2.2.1 :: vI t.2.2.2.2.2.1 :: dd 9 (qx t.2.2.2.2.2.2.1 :: vI t.2.2.2.2.2.2.2.1 :: vI t.2.2.2.2.2.2.2.2.1 :: dd 10 []))), [(1, .box [zc t.2.2.2.2.2.2.2.2.2.1, yw t.2.2.2.2.2.2.2.2.2.2.1, zk t.2.2.2.2.2.2.2.2.2.2.2.1, yI t.2.2.2.2.2.2.2.2.2.2.2.2.1, zM t.2.2.2.2.2.2.2.2.2.2.2.2.2.1, vI t.2.2.2.2.2.2.2.2.2.2.2.2.2.2.1]), (10000000, .root true 5 yu t.2.2.2.2.2.2.2.2.2.2.2.2.2.2.2)]⟩
def yml : Gk KO := fun κ => jx (fun t => κ (some 10) ⟨.dead :: .box 1 0 :: .dead :: .own 10000000 :: dd 101 (yw t.1 :: vI t.2.1 :: vI t.2.2.1 :: dd 19 (Yc t.2.2.2.1 :: vI t.2.2.2.2.1 :: vI t.2.2.2.2.2.1 :: dd 22 [])), [(1, .box [zc t.2.2.2.2.2.2.1, yw t.2.2.2.2.2.2.2.1, zk t.2.2.2.2.2.2.2.2.1, yI t.2.2.2.2.2.2.2.2.2.1, zM t.2.2.2.2.2.2.2.2.2.2.1, vI t.2.2.2.2.2.2.2.2.2.2.2.1]), (10000000, .root true 5 yu t.2.2.2.2.2.2.2.2.2.2.2.2)]⟩)
def y9i (t : yn8) : St := ⟨.dead :: .box 1 0 :: .dead :: .own 10000000 :: dd 101 (yw t.1 :: vI t.2.1 :: vI t.2.2.1 :: dd 19 (Yc t.2.2.2.1 :: vI t.2.2.2.2.1 :: vI t.2.2.2.2.2.1 :: dd 22 [])), [(1, .box [zc t.2.2.2.2.2.2.1, yw t.2.2.2.2.2.2.2.1, zk t.2.2.2.2.2.2.2.2.1, yI t.2.2.2.2.2.2.2.2.2.1, zM t.2.2.2.2.2.2.2.2.2.2.1, vI t.2.2.2.2.2.2.2.2.2.2.2.1]), (10000000, .root true 5 yu t.2.2.2.2.2.2.2.2.2.2.2.2)]⟩
def ymm : Gk KQ := fun κ => jy (fun t => κ (some 8) ⟨.dead :: .box 1 0 :: .dead :: .own 10000000 :: dd 101 (yw t.1 :: vI t.2.1 :: vI t.2.2.1 :: dd 44 []), [(1, .box [zc t.2.2.2.1, yw t.2.2.2.2.1, zk t.2.2.2.2.2.1, yI t.2.2.2.2.2.2.1, zM t.2.2.2.2.2.2.2.1, vI t.2.2.2.2.2.2.2.2.1]), (10000000, .root true 5 yu t.2.2.2.2.2.2.2.2.2)]⟩)
def y9j (t : yn9) : St := ⟨.dead :: .box 1 0 :: .dead :: .own 10000000 :: dd 101 (yw t.1 :: vI t.2.1 :: vI t.2.2.1 :: dd 44 []), [(1, .box [zc t.2.2.2.1, yw t.2.2.2.2.1, zk t.2.2.2.2.2.1, yI t.2.2.2.2.2.2.1, zM t.2.2.2.2.2.2.2.1, vI t.2.2.2.2.2.2.2.2.1]), (10000000, .root true 5 yu t.2.2.2.2.2.2.2.2.2)]⟩
def ymn : Gk KS := fun κ => jz (fun t => κ (some 6) ⟨dd 3 (.own 10000000 :: dd 148 []), [(10000000, .root true 5 yu t)]⟩)
def yf9 : Lp := lpC 22 (unG yrK y9j) @ymn (lpC 26 (unG yrJ y9i) @ymm (lpC 30 (unG yrI y9h) @yml (lpC 16 (unG yrG y9g) @ymk (lpC 11 (unG yrE y9f) @ymj (lpC 5 (unG yrC ycB) @yxs lpN)))))
theorem yDL : LF yf8 yf9 51 5 Tryz.f51 0 ycB @yxs fun t => t := fun R κ again t => by kernel_rfl
theorem yDM : LK yf8 yf9 51 Tryz.f51 0 := lkN (u := (unG yrC ycB)) (yo fun t => by kernel_rfl) yDL
theorem yxt : LF yf8 yf9 51 11 Tryz.f51 1 y9f @ymj fun t => t := fun R κ again t => by kernel_rfl
theorem yxu : LK yf8 yf9 51 Tryz.f51 1 := lkN (u := (unG yrE y9f)) (yo fun t => by kernel_rfl) yxt
theorem yxv : LF yf8 yf9 51 16 Tryz.f51 2 y9g @ymk fun t => t := fun R κ again t => by kernel_rfl
theorem yxw : LK yf8 yf9 51 Tryz.f51 2 := lkN (u := (unG yrG y9g)) (yo fun t => by kernel_rfl) yxv
theorem yxx : LF yf8 yf9 51 30 Tryz.f51 5 y9h @yml fun t => t := fun R κ again t => by kernel_rfl
theorem yxy : LK yf8 yf9 51 Tryz.f51 5 := lkN (u := (unG yrI y9h)) (yo fun t => by kernel_rfl) yxx
theorem yxz : LF yf8 yf9 51 26 Tryz.f51 4 y9i @ymm fun t => t := fun R κ again t => by kernel_rfl
theorem yxA : LK yf8 yf9 51 Tryz.f51 4 := lkN (u := (unG yrJ y9i)) (yo fun t => by kernel_rfl) yxz
theorem yxB : LF yf8 yf9 51 22 Tryz.f51 3 y9j @ymn fun t => t := fun R κ again t => by kernel_rfl
theorem yxC : LK yf8 yf9 51 Tryz.f51 3 := lkN (u := (unG yrK y9j)) (yo fun t => by kernel_rfl) yxB
theorem yJ2 : EV yf8 yf9 51 Tryz.f51 yGi jI [(.sl 5 yu)] YY := fun x => by kernel_rfl
def q51 : QF := ⟨51, YY, okN (n := 6) Tryz.func51 ⟨yDM, yxu, yxw, yxC, yxA, yxy, trivial⟩ yJ2⟩
def K3 (x : yAh) : Option yAj :=
 if (List.length ([] : List za) + List.length x.2.2.2) * 1 < 140737488355328 then Option.bind (yb (x.1, x.2.1, x.2.2.1, (5 : Int))) fun r1 => bif (r1.1 == (0 : Int)) then Option.bind (yb (r1.2.1, r1.2.2.1, r1.2.2.2, (Go.IntKind.wrap .i64 (((List.length (([] : List za) ++ x.2.2.2) : Nat) : Int) + (1 : Int))))) fun r2 => if (0 : Int) ≤ (0 : Int) then if (0 : Int) ≤ r2.1 then if r2.1 ≤ ((List.length (([] : List za) ++ x.2.2.2) : Nat) : Int) then some ((List.take (Int.toNat r2.1) (([] : List za) ++ x.2.2.2)), r2.2.1, r2.2.2.1, r2.2.2.2) else none else none else none else bif (r1.1 == (1 : Int)) then bif (decide (((List.length (([] : List za) ++ x.2.2.2) : Nat) : Int) > (0 : Int))) then Option.bind (yb (r1.2.1, r1.2.2.1, r1.2.2.2, ((List.length (([] : List za) ++ x.2.2.2) : Nat) : Int))) fun r3 => if (0 : Int) ≤ r3.1 then if r3.1 < ((List.length (([] : List za) ++ x.2.2.2) : Nat) : Int) then Option.bind (yb (r3.2.1, r3.2.2.1, r3.2.2.2, (255 : Int))) fun r4 => if (0 : Int) ≤ r3.1 then if r3.1 < ((List.length (([] : List za) ++ x.2.2.2) : Nat) : Int) then some ((List.set (([] : List za) ++ x.2.2.2) (Int.toNat r3.1) (Go.bits .xor .u8 (y0u (([] : List za) ++ x.2.2.2) r3.1) (Go.IntKind.wrap .u8 (Go.IntKind.wrap .i64 ((1 : Int) + r4.1))))), r4.2.1, r4.2.2.1, r4.2.2.2) else none else none else none else none else some ((([] : List za) ++ x.2.2.2), r1.2.1, r1.2.2.1, r1.2.2.2) else some ((([] : List za) ++ x.2.2.2), r1.2.1, r1.2.2.1, r1.2.2.2) else none
theorem yDN : EV [y5o] lpN 155 Tryz.f155 yuq yAi yAk K3 := fun x => by kernel_rfl
def yJ3 : QF := ⟨155, K3, okN (n := 0) Tryz.func155 trivial yDN⟩
def ZW (x : yiX) : Option (List za) :=
 if (List.length ([] : List za) + List.length x.1) * 1 < 140737488355328 then if (List.length (([] : List za) ++ x.1) + List.length ([(Go.IntKind.wrap .u8 (Int.fdiv x.2 (2 ^ (min (Int.toNat (8 : Int)) (Go.IntKind.bits .i64))))), (Go.IntKind.wrap .u8 x.2)] : List za)) * 1 < 140737488355328 then some ((([] : List za) ++ x.1) ++ ([(Go.IntKind.wrap .u8 (Int.fdiv x.2 (2 ^ (min (Int.toNat (8 : Int)) (Go.IntKind.bits .i64))))), (Go.IntKind.wrap .u8 x.2)] : List za)) else none else none
theorem yDO : EV [] lpN 266 Tryz.f266 yur ylc [(.sl 5 yu)] ZW := fun x => by kernel_rfl
def yDP : QF := ⟨266, ZW, okN (n := 0) Tryz.func266 trivial yDO⟩
def Wg (x : yrx) : Option (List za) :=
 bif (decide (((ByteArray.size x.2 : Nat) : Int) > (60 : Int))) then if (List.length ([] : List za) + List.length x.1) * 1 < 140737488355328 then some (([] : List za) ++ x.1) else none else Option.bind (ZW (x.1, ((ByteArray.size x.2 : Nat) : Int))) fun r1 => if (List.length r1 + List.length (Zq x.2)) * 1 < 140737488355328 then some (r1 ++ (Zq x.2)) else none
theorem yDQ : EV [yDP] lpN 267 Tryz.f267 yus yry [(.sl 5 yu)] Wg := fun x => by kernel_rfl
def yJ4 : QF := ⟨267, Wg, okN (n := 0) Tryz.func267 trivial yDQ⟩
def K4 (x : Bool) : Option Int :=
 bif x then some (1 : Int) else some (0 : Int)
theorem yDR : EV [] lpN 268 Tryz.f268 yut [.bool] [(.int .u8)] K4 := fun x => by kernel_rfl
def yJ5 : QF := ⟨268, K4, okN (n := 0) Tryz.func268 trivial yDR⟩
def K5 (x : yrz) : Option (List za) :=
 if (List.length ([] : List za) + List.length x.1) * 1 < 140737488355328 then Option.bind (jM x.2) fun r1 => bif (!r1) then some (([] : List za) ++ x.1) else if (List.length (([] : List za) ++ x.1) + List.length ([(Go.IntKind.wrap .u8 x.2.1), (Go.IntKind.wrap .u8 x.2.2.1), (Go.IntKind.wrap .u8 x.2.2.2.1), (Go.IntKind.wrap .u8 x.2.2.2.2.1)] : List za)) * 1 < 140737488355328 then Option.bind (ZW (((([] : List za) ++ x.1) ++ ([(Go.IntKind.wrap .u8 x.2.1), (Go.IntKind.wrap .u8 x.2.2.1), (Go.IntKind.wrap .u8 x.2.2.2.1), (Go.IntKind.wrap .u8 x.2.2.2.2.1)] : List za)), x.2.2.2.2.2)) fun r2 => some r2 else none else none
theorem yDS : EV [yyZ, yDP] lpN 327 Tryz.f327 yuu yrA [(.sl 5 yu)] K5 := fun x => by kernel_rfl
def yJ6 : QF := ⟨327, K5, okN (n := 0) Tryz.func327 trivial yDS⟩
abbrev qp : Type := yrL
def we (k0 : List za → Option R) (again : qp → Option R) (t3 : qp) : Option R :=
 bif (decide (t3.2.1 < (List.length t3.1 : Int))) then if (0 : Int) ≤ t3.2.1 then if t3.2.1 < (List.length t3.1 : Int) then Option.bind (K5 (t3.2.2, (y6 t3.1 t3.2.1).1, (y6 t3.1 t3.2.1).2.1, (y6 t3.1 t3.2.1).2.2.1, (y6 t3.1 t3.2.1).2.2.2.1, (y6 t3.1 t3.2.1).2.2.2.2)) fun r1 => again (t3.1, (Go.IntKind.wrap .i64 (t3.2.1 + (1 : Int))), r1) else none else none else k0 t3.2.2
def y1c k0 := zh (@we R k0) zu
def K8 (x : yAl) : Option (List za) :=
 if (List.length x.1 + List.length ([(Go.IntKind.wrap .u8 (List.length x.2 : Int))] : List za)) * 1 < 140737488355328 then y1c (fun x2 => some x2) (x.2, (0 : Int), (x.1 ++ ([(Go.IntKind.wrap .u8 (List.length x.2 : Int))] : List za))) else none
def ypg : List QF := [yJ6]
def y9k (t : yrL) : St := ⟨.own 10000000 :: qx t.1 :: dd 3 (vI t.2.1 :: dd 19 []), [(10000000, .root true 5 yu t.2.2)]⟩
def ymo : Gk qp := fun κ => we (fun t => κ (some 0) ⟨.own 10000000 :: dd 24 [], [(10000000, .root true 5 yu t)]⟩)
def yph : Lp := lpC 3 (unG yrM y9k) @ymo lpN
theorem yxD : LF ypg yph 269 3 Tryz.f269 0 y9k @ymo fun t => t := fun R κ again t => by kernel_rfl
theorem yxE : LK ypg yph 269 Tryz.f269 0 := lkN (u := (unG yrM y9k)) (yo fun t => by kernel_rfl) yxD
theorem yDT : EV ypg yph 269 Tryz.f269 yuv yAm [(.sl 5 yu)] K8 := fun x => by kernel_rfl
def yJ7 : QF := ⟨269, K8, okN (n := 1) Tryz.func269 ⟨yxE, trivial⟩ yDT⟩
abbrev Va : Type := y7Z
def Jg (k0 : yf5 → Option R) (again : Va → Option R) (t6 : Va) : Option R :=
 bif (decide (t6.1 < (List.length t6.2.2.2.1 : Int))) then if (0 : Int) ≤ t6.1 then if t6.1 < (List.length t6.2.2.2.1 : Int) then if (0 : Int) ≤ t6.1 then if t6.1 < (List.length t6.2.2.2.1 : Int) then if (List.length t6.2.2.2.2.2.2.2 + List.length ([(Go.IntKind.wrap .u8 ((yG t6.2.2.2.1 t6.1).1)), (Go.IntKind.wrap .u8 ((yG t6.2.2.2.1 t6.1).2))] : List za)) * 1 < 140737488355328 then again ((Go.IntKind.wrap .i64 (t6.1 + (1 : Int))), t6.2.1, t6.2.2.1, t6.2.2.2.1, t6.2.2.2.2.1, t6.2.2.2.2.2.1, t6.2.2.2.2.2.2.1, (t6.2.2.2.2.2.2.2 ++ ([(Go.IntKind.wrap .u8 ((yG t6.2.2.2.1 t6.1).1)), (Go.IntKind.wrap .u8 ((yG t6.2.2.2.1 t6.1).2))] : List za))) else none else none else none else none else none else k0 t6.2
def Vb k0 := zh (@Jg R k0) zu
abbrev KU : Type := y7Z
def jA (k0 : yf5 → Option R) (again : KU → Option R) (t11 : KU) : Option R :=
 bif (decide (t11.1 < (List.length t11.2.2.2.2.2.1 : Int))) then if (0 : Int) ≤ t11.1 then if t11.1 < (List.length t11.2.2.2.2.2.1 : Int) then Option.bind (Wg (t11.2.2.2.2.2.2.2, (yl t11.2.2.2.2.2.1 t11.1).1)) fun r4 => Option.bind (K4 ((yl t11.2.2.2.2.2.1 t11.1).2.2.2)) fun r5 => if (List.length r4 + List.length ([(Go.IntKind.wrap .u8 ((yl t11.2.2.2.2.2.1 t11.1).2.1)), (Go.IntKind.wrap .u8 ((yl t11.2.2.2.2.2.1 t11.1).2.2.1)), r5] : List za)) * 1 < 140737488355328 then again ((Go.IntKind.wrap .i64 (t11.1 + (1 : Int))), t11.2.1, t11.2.2.1, t11.2.2.2.1, t11.2.2.2.2.1, t11.2.2.2.2.2.1, t11.2.2.2.2.2.2.1, (r4 ++ ([(Go.IntKind.wrap .u8 ((yl t11.2.2.2.2.2.1 t11.1).2.1)), (Go.IntKind.wrap .u8 ((yl t11.2.2.2.2.2.1 t11.1).2.2.1)), r5] : List za))) else none else none else none else k0 t11.2
def KV k0 := zh (@jA R k0) zu
abbrev KW : Type := y7Z
def jB (k0 : yf5 → Option R) (again : KW → Option R) (t16 : KW) : Option R :=
 bif (decide (t16.1 < (List.length t16.2.2.2.2.1 : Int))) then if (0 : Int) ≤ t16.1 then if t16.1 < (List.length t16.2.2.2.2.1 : Int) then Option.bind (ZW (t16.2.2.2.2.2.2.2, (yp t16.2.2.2.2.1 t16.1).1)) fun r7 => if (0 : Int) ≤ t16.1 then if t16.1 < (List.length t16.2.2.2.2.1 : Int) then Option.bind (K4 ((yp t16.2.2.2.2.1 t16.1).2.1)) fun r8 => if (List.length r7 + List.length ([r8] : List za)) * 1 < 140737488355328 then if (0 : Int) ≤ t16.1 then if t16.1 < (List.length t16.2.2.2.2.1 : Int) then Option.bind (ZW ((r7 ++ ([r8] : List za)), (yp t16.2.2.2.2.1 t16.1).2.2)) fun r9 => again ((Go.IntKind.wrap .i64 (t16.1 + (1 : Int))), t16.2.1, t16.2.2.1, t16.2.2.2.1, t16.2.2.2.2.1, t16.2.2.2.2.2.1, t16.2.2.2.2.2.2.1, r9) else none else none else none else none else none else none else none else k0 t16.2
def KX k0 := zh (@jB R k0) zu
abbrev KY : Type := yrN
def jC (k0 : y7Z → Option R) (again : KY → Option R) (t25 : KY) : Option R :=
 if (0 : Int) ≤ t25.1 then if t25.1 < (List.length t25.2.2.2.1 : Int) then bif (decide (t25.2.1 < (List.length (yg t25.2.2.2.1 t25.1) : Int))) then if (0 : Int) ≤ t25.1 then if t25.1 < (List.length t25.2.2.2.1 : Int) then if (0 : Int) ≤ t25.2.1 then if t25.2.1 < (List.length (yg t25.2.2.2.1 t25.1) : Int) then Option.bind (K8 (t25.2.2.2.2.2.2.2.2, (yr (yg t25.2.2.2.1 t25.1) t25.2.1))) fun r12 => again (t25.1, (Go.IntKind.wrap .i64 (t25.2.1 + (1 : Int))), t25.2.2.1, t25.2.2.2.1, t25.2.2.2.2.1, t25.2.2.2.2.2.1, t25.2.2.2.2.2.2.1, t25.2.2.2.2.2.2.2.1, r12) else none else none else none else none else k0 (t25.1, t25.2.2) else none else none
def KZ k0 := zh (@jC R k0) zu
abbrev va : Type := y7Z
def jD (k0 : List za → Option R) (again : va → Option R) (t21 : va) : Option R :=
 bif (decide (t21.1 < (List.length t21.2.2.1 : Int))) then if (0 : Int) ≤ t21.1 then if t21.1 < (List.length t21.2.1 : Int) then Option.bind (ZW (t21.2.2.2.2.2.2.2, (zL t21.2.1 t21.1))) fun r11 => if (0 : Int) ≤ t21.1 then if t21.1 < (List.length t21.2.2.1 : Int) then if (List.length r11 + List.length ([(Go.IntKind.wrap .u8 (List.length (yg t21.2.2.1 t21.1) : Int))] : List za)) * 1 < 140737488355328 then KZ (fun x13 => again ((Go.IntKind.wrap .i64 (x13.1 + (1 : Int))), x13.2.1, x13.2.2.1, x13.2.2.2.1, x13.2.2.2.2.1, x13.2.2.2.2.2.1, x13.2.2.2.2.2.2.1, x13.2.2.2.2.2.2.2)) (t21.1, (0 : Int), t21.2.1, t21.2.2.1, t21.2.2.2.1, t21.2.2.2.2.1, t21.2.2.2.2.2.1, t21.2.2.2.2.2.2.1, (r11 ++ ([(Go.IntKind.wrap .u8 (List.length (yg t21.2.2.1 t21.1) : Int))] : List za))) else none else none else none else none else none else k0 t21.2.2.2.2.2.2.2
def vb k0 := zh (@jD R k0) zu
def Jn (x : y6q) : Option (List za) :=
 Option.bind (yF x) fun r1 => bif (!r1) then some ([] : List za) else Option.bind (ZW (([] : List za), x.2.2.2.2.2)) fun r2 => if (List.length r2 + List.length ([(Go.IntKind.wrap .u8 (List.length x.2.2.1 : Int))] : List za)) * 1 < 140737488355328 then Vb (fun x3 => if (List.length x3.2.2.2.2.2.2 + List.length ([(Go.IntKind.wrap .u8 (List.length x3.2.2.2.2.1 : Int))] : List za)) * 1 < 140737488355328 then KV (fun x6 => KX (fun x10 => if (List.length x10.2.2.2.2.2.2 + List.length ([(Go.IntKind.wrap .u8 (List.length x10.2.1 : Int))] : List za)) * 1 < 140737488355328 then vb (fun x14 => some x14) ((0 : Int), x10.1, x10.2.1, x10.2.2.1, x10.2.2.2.1, x10.2.2.2.2.1, x10.2.2.2.2.2.1, (x10.2.2.2.2.2.2 ++ ([(Go.IntKind.wrap .u8 (List.length x10.2.1 : Int))] : List za))) else none) ((0 : Int), x6.1, x6.2.1, x6.2.2.1, x6.2.2.2.1, x6.2.2.2.2.1, x6.2.2.2.2.2.1, x6.2.2.2.2.2.2)) ((0 : Int), x3.1, x3.2.1, x3.2.2.1, x3.2.2.2.1, x3.2.2.2.2.1, x3.2.2.2.2.2.1, (x3.2.2.2.2.2.2 ++ ([(Go.IntKind.wrap .u8 (List.length x3.2.2.2.2.1 : Int))] : List za))) else none) ((0 : Int), x.1, x.2.1, x.2.2.1, x.2.2.2.1, x.2.2.2.2.1, x.2.2.2.2.2, (r2 ++ ([(Go.IntKind.wrap .u8 (List.length x.2.2.1 : Int))] : List za))) else none
def y5q : List QF := [q95, yDP, yJ4, yJ5, yJ7]
def y9l (t : y7Z) : St := ⟨.dead :: .box 1 0 :: .dead :: .own 10000000 :: vI t.1 :: dd 169 [], [(1, .box [zc t.2.1, yw t.2.2.1, zk t.2.2.2.1, yI t.2.2.2.2.1, zM t.2.2.2.2.2.1, vI t.2.2.2.2.2.2.1]), (10000000, .root true 5 yu t.2.2.2.2.2.2.2)]⟩
def ymp : Gk Va := fun κ => Jg (fun t => κ (some 0) ⟨.dead :: .box 1 0 :: .dead :: .own 10000000 :: dd 170 [], [(1, .box [zc t.1, yw t.2.1, zk t.2.2.1, yI t.2.2.2.1, zM t.2.2.2.2.1, vI t.2.2.2.2.2.1]), (10000000, .root true 5 yu t.2.2.2.2.2.2)]⟩)
def y5r (t : y7Z) : St := ⟨.dead :: .box 1 0 :: .dead :: .own 10000000 :: .dead :: vI t.1 :: dd 168 [], [(1, .box [zc t.2.1, yw t.2.2.1, zk t.2.2.2.1, yI t.2.2.2.2.1, zM t.2.2.2.2.2.1, vI t.2.2.2.2.2.2.1]), (10000000, .root true 5 yu t.2.2.2.2.2.2.2)]⟩
def ygS : Gk KU := fun κ => jA (fun t => κ (some 2) ⟨.dead :: .box 1 0 :: .dead :: .own 10000000 :: dd 170 [], [(1, .box [zc t.1, yw t.2.1, zk t.2.2.1, yI t.2.2.2.1, zM t.2.2.2.2.1, vI t.2.2.2.2.2.1]), (10000000, .root true 5 yu t.2.2.2.2.2.2)]⟩)
def y5s (t : y7Z) : St := ⟨.dead :: .box 1 0 :: .dead :: .own 10000000 :: dd 3 (vI t.1 :: dd 166 []), [(1, .box [zc t.2.1, yw t.2.2.1, zk t.2.2.2.1, yI t.2.2.2.2.1, zM t.2.2.2.2.2.1, vI t.2.2.2.2.2.2.1]), (10000000, .root true 5 yu t.2.2.2.2.2.2.2)]⟩
def ygT : Gk KW := fun κ => jB (fun t => κ (some 4) ⟨.dead :: .box 1 0 :: .dead :: .own 10000000 :: dd 170 [], [(1, .box [zc t.1, yw t.2.1, zk t.2.2.1, yI t.2.2.2.1, zM t.2.2.2.2.1, vI t.2.2.2.2.2.1]), (10000000, .root true 5 yu t.2.2.2.2.2.2)]⟩)
def y5t (t : yrN) : St := ⟨.dead :: .box 1 0 :: .dead :: .own 10000000 :: dd 4 (vI t.1 :: vI t.2.1 :: dd 164 []), [(1, .box [zc t.2.2.1, yw t.2.2.2.1, zk t.2.2.2.2.1, yI t.2.2.2.2.2.1, zM t.2.2.2.2.2.2.1, vI t.2.2.2.2.2.2.2.1]), (10000000, .root true 5 yu t.2.2.2.2.2.2.2.2)]⟩
def ygU : Gk KY := fun κ => jC (fun t => κ (some 8) ⟨.dead :: .box 1 0 :: .dead :: .own 10000000 :: dd 4 (vI t.1 :: dd 165 []), [(1, .box [zc t.2.1, yw t.2.2.1, zk t.2.2.2.1, yI t.2.2.2.2.1, zM t.2.2.2.2.2.1, vI t.2.2.2.2.2.2.1]), (10000000, .root true 5 yu t.2.2.2.2.2.2.2)]⟩)
def y5u (t : y7Z) : St := ⟨.dead :: .box 1 0 :: .dead :: .own 10000000 :: dd 4 (vI t.1 :: dd 165 []), [(1, .box [zc t.2.1, yw t.2.2.1, zk t.2.2.2.1, yI t.2.2.2.2.1, zM t.2.2.2.2.2.1, vI t.2.2.2.2.2.2.1]), (10000000, .root true 5 yu t.2.2.2.2.2.2.2)]⟩
def ygV : Gk va := fun κ => jD (fun t => κ (some 6) ⟨dd 3 (.own 10000000 :: dd 170 []), [(10000000, .root true 5 yu t)]⟩)
def y5v : Lp := lpC 21 (unG yaR y5u) @ygV (lpC 25 (unG yrO y5t) @ygU (lpC 16 (unG yaR y5s) @ygT (lpC 11 (unG yaR y5r) @ygS (lpC 6 (unG yaR y9l) @ymp lpN))))
theorem yxF : LF y5q y5v 156 6 Tryz.f156 0 y9l @ymp fun t => t := fun R κ again t => by kernel_rfl
theorem yxG : LK y5q y5v 156 Tryz.f156 0 := lkN (u := (unG yaR y9l)) (yo fun t => by kernel_rfl) yxF
theorem ypi : LF y5q y5v 156 11 Tryz.f156 1 y5r @ygS fun t => t := fun R κ again t => by kernel_rfl
theorem ypj : LK y5q y5v 156 Tryz.f156 1 := lkN (u := (unG yaR y5r)) (yo fun t => by kernel_rfl) ypi
theorem ypk : LF y5q y5v 156 16 Tryz.f156 2 y5s @ygT fun t => t := fun R κ again t => by kernel_rfl
theorem ypl : LK y5q y5v 156 Tryz.f156 2 := lkN (u := (unG yaR y5s)) (yo fun t => by kernel_rfl) ypk
theorem ypm : LF y5q y5v 156 25 Tryz.f156 4 y5t @ygU fun t => t := fun R κ again t => by kernel_rfl
theorem ypn : LK y5q y5v 156 Tryz.f156 4 := lkN (u := (unG yrO y5t)) (yo fun t => by kernel_rfl) ypm
theorem ypo : LF y5q y5v 156 21 Tryz.f156 3 y5u @ygV fun t => t := fun R κ again t => by kernel_rfl
theorem ypp : LK y5q y5v 156 Tryz.f156 3 := lkN (u := (unG yaR y5u)) (yo fun t => by kernel_rfl) ypo
theorem yDU : EV y5q y5v 156 Tryz.f156 yuw jI [(.sl 5 yu)] Jn := fun x => by kernel_rfl
def yJ8 : QF := ⟨156, Jn, okN (n := 5) Tryz.func156 ⟨yxG, ypj, ypl, ypp, ypn, trivial⟩ yDU⟩
def ZE (x : List za) : Option (List za) :=
 Option.bind (WK x) fun r1 => Option.bind (jS (x, (16 : Int))) fun r2 => Option.bind (Jm (r1.1, r1.2.1, r1.2.2, r2)) fun r3 => Option.bind (Jn (r3.1, r3.2.1, r3.2.2.1, r3.2.2.2.1, r3.2.2.2.2.1, r3.2.2.2.2.2.1)) fun r4 => Option.bind (K3 (r3.2.2.2.2.2.2.1, r3.2.2.2.2.2.2.2.1, r3.2.2.2.2.2.2.2.2, r4)) fun r5 => some r5.1
theorem yJ9 : EV [yCk, yGL, yCm, yJ3, yJ8] lpN 52 Tryz.f52 yGj [(.sl 5 yu)] [(.sl 5 yu)] ZE := fun x => by kernel_rfl
def q52 : QF := ⟨52, ZE, okN (n := 0) Tryz.func52 trivial yJ9⟩
def vc (x : yiX) : Option yrP :=
 Option.bind (bif (decide (x.2 < (0 : Int))) then some true else some (decide (x.2 > (Go.IntKind.wrap .i64 ((List.length x.1 : Int) - (2 : Int)))))) fun u1 => bif u1 then some ((0 : Int), (0 : Int), false) else if (0 : Int) ≤ x.2 then if x.2 < (List.length x.1 : Int) then if (0 : Int) ≤ (Go.IntKind.wrap .i64 (x.2 + (1 : Int))) then if (Go.IntKind.wrap .i64 (x.2 + (1 : Int))) < (List.length x.1 : Int) then some ((Go.bits .or .i64 (Go.IntKind.wrap .i64 ((Go.IntKind.wrap .i64 (y0u x.1 x.2)) * 2 ^ (min (Int.toNat (8 : Int)) (Go.IntKind.bits .i64)))) (Go.IntKind.wrap .i64 (y0u x.1 (Go.IntKind.wrap .i64 (x.2 + (1 : Int)))))), (Go.IntKind.wrap .i64 (x.2 + (2 : Int))), true) else none else none else none else none
theorem yDV : EV [] lpN 328 Tryz.f328 yux ylc yrQ vc := fun x => by kernel_rfl
def yGO : QF := ⟨328, vc, okN (n := 0) Tryz.func328 trivial yDV⟩
def yx (x : y1H) : Option y80 :=
 Option.bind (vc (x.1, x.2.1)) fun r1 => Option.bind (bif x.2.2 then some true else some (!r1.2.2)) fun u2 => bif u2 then some ((0 : Int), x.1, x.2.1, true) else some (r1.1, x.1, r1.2.1, x.2.2)
theorem yDW : EV [yGO] lpN 270 Tryz.f270 yuy Ke yf6 yx := fun x => by kernel_rfl
def yGP : QF := ⟨270, yx, okN (n := 0) Tryz.func270 trivial yDW⟩
def yc (x : y1H) : Option y80 :=
 Option.bind (bif x.2.2 then some true else some (decide (x.2.1 < (0 : Int)))) fun u1 => Option.bind (bif u1 then some true else some (decide (x.2.1 ≥ (List.length x.1 : Int)))) fun u2 => bif u2 then some ((0 : Int), x.1, x.2.1, true) else if (0 : Int) ≤ (Go.IntKind.wrap .i64 ((Go.IntKind.wrap .i64 (x.2.1 + (1 : Int))) - (1 : Int))) then if (Go.IntKind.wrap .i64 ((Go.IntKind.wrap .i64 (x.2.1 + (1 : Int))) - (1 : Int))) < (List.length x.1 : Int) then some ((Go.IntKind.wrap .i64 (y0u x.1 (Go.IntKind.wrap .i64 ((Go.IntKind.wrap .i64 (x.2.1 + (1 : Int))) - (1 : Int))))), x.1, (Go.IntKind.wrap .i64 (x.2.1 + (1 : Int))), x.2.2) else none else none
theorem yDX : EV [] lpN 271 Tryz.f271 yuz Ke yf6 yc := fun x => by kernel_rfl
def yz4 : QF := ⟨271, yc, okN (n := 0) Tryz.func271 trivial yDX⟩
def Jo (x : yiX) : Option yrR :=
 Option.bind (vc x) fun r1 => Option.bind (bif (!r1.2.2) then some true else some (decide (r1.1 > (60 : Int)))) fun u2 => Option.bind (bif u2 then some true else some (decide (r1.1 > (Go.IntKind.wrap .i64 ((List.length x.1 : Int) - r1.2.1))))) fun u3 => bif u3 then some ({ data := #[] }, (0 : Int), false) else if (0 : Int) ≤ r1.2.1 then if r1.2.1 ≤ (Go.IntKind.wrap .i64 (r1.2.1 + r1.1)) then if (Go.IntKind.wrap .i64 (r1.2.1 + r1.1)) ≤ (List.length x.1 : Int) then some ((WF (List.drop (Int.toNat r1.2.1) (List.take (Int.toNat (Go.IntKind.wrap .i64 (r1.2.1 + r1.1))) x.1))), (Go.IntKind.wrap .i64 (r1.2.1 + r1.1)), true) else none else none else none
theorem yDY : EV [yGO] lpN 329 Tryz.f329 yuA ylc yrS Jo := fun x => by kernel_rfl
def yJa : QF := ⟨329, Jo, okN (n := 0) Tryz.func329 trivial yDY⟩
def zD (x : y1H) : Option yAn :=
 Option.bind (Jo (x.1, x.2.1)) fun r1 => Option.bind (bif x.2.2 then some true else some (!r1.2.2)) fun u2 => bif u2 then some ({ data := #[] }, x.1, x.2.1, true) else some (r1.1, x.1, r1.2.1, x.2.2)
theorem yDZ : EV [yJa] lpN 272 Tryz.f272 yuB Ke yAo zD := fun x => by kernel_rfl
def yJb : QF := ⟨272, zD, okN (n := 0) Tryz.func272 trivial yDZ⟩
def zb (x : y1H) : Option yna :=
 Option.bind (yc x) fun r1 => bif (decide (r1.1 > (1 : Int))) then some ((r1.1 == (1 : Int)), r1.2.1, r1.2.2.1, true) else some ((r1.1 == (1 : Int)), r1.2.1, r1.2.2.1, r1.2.2.2)
theorem yE0 : EV [yz4] lpN 273 Tryz.f273 yuC Ke ynb zb := fun x => by kernel_rfl
def yJc : QF := ⟨273, zb, okN (n := 0) Tryz.func273 trivial yE0⟩
def yD (x : y1H) : Option yAp :=
 Option.bind (yc x) fun r1 => Option.bind (yc r1.2) fun r2 => Option.bind (yc r2.2) fun r3 => Option.bind (yc r3.2) fun r4 => Option.bind (yx r4.2) fun r5 => Option.bind (bif r5.2.2.2 then some true else Option.bind (JM (r1.1, r2.1, r3.1, r4.1, r5.1)) fun r7 => some (!r7)) fun u6 => bif u6 then some ((0 : Int), (0 : Int), (0 : Int), (0 : Int), (0 : Int), r5.2.1, r5.2.2.1, true) else some (r1.1, r2.1, r3.1, r4.1, r5)
theorem yE1 : EV [yB7, yGP, yz4] lpN 330 Tryz.f330 yuD Ke yAq yD := fun x => by kernel_rfl
def yJd : QF := ⟨330, yD, okN (n := 0) Tryz.func330 trivial yE1⟩
abbrev wR : Type := ygn ⊕ ygo
def yO (k0 : yAr → Option R) (k1 : yAs → Option R) (again : wR → Option R) : wR → Option R
 | .inl t8 => bif (decide (t8.2.2.2.1 < t8.2.2.1)) then Option.bind (yD (t8.2.2.2.2.1, t8.2.2.2.2.2.1, t8.2.2.2.2.2.2.1)) fun r8 => if (List.length t8.2.2.2.2.2.2.2 + List.length ([(r8.1, r8.2.1, r8.2.2.1, r8.2.2.2.1, r8.2.2.2.2.1)] : List y9)) * 40 < 140737488355328 then again (Sum.inl (t8.1, t8.2.1, t8.2.2.1, (Go.IntKind.wrap .i64 (t8.2.2.2.1 + (1 : Int))), r8.2.2.2.2.2.1, r8.2.2.2.2.2.2.1, r8.2.2.2.2.2.2.2, (t8.2.2.2.2.2.2.2 ++ ([(r8.1, r8.2.1, r8.2.2.1, r8.2.2.2.1, r8.2.2.2.2.1)] : List y9)))) else none else k0 (t8.1, t8.2.1, t8.2.2.2.2)
 | .inr t8 => bif (decide (t8.2.2.2.1 < t8.2.2.1)) then Option.bind (yD (t8.2.2.2.2.1, t8.2.2.2.2.2.1, t8.2.2.2.2.2.2.1)) fun r9 => if (List.length t8.2.2.2.2.2.2.2.1 + List.length ([(r9.1, r9.2.1, r9.2.2.1, r9.2.2.2.1, r9.2.2.2.2.1)] : List y9)) * 40 < 140737488355328 then again (Sum.inr (t8.1, t8.2.1, t8.2.2.1, (Go.IntKind.wrap .i64 (t8.2.2.2.1 + (1 : Int))), r9.2.2.2.2.2.1, r9.2.2.2.2.2.2.1, r9.2.2.2.2.2.2.2, (t8.2.2.2.2.2.2.2.1 ++ ([(r9.1, r9.2.1, r9.2.2.1, r9.2.2.2.1, r9.2.2.2.2.1)] : List y9)), t8.2.2.2.2.2.2.2.2)) else none else k1 (t8.1, t8.2.1, t8.2.2.2.2)
def yA k0 k1 := zh (@yO R k0 k1) zu
abbrev j6 : Type := ygp ⊕ ygq
def z4 (k0 : y1H → Option R) (k1 : yrX → Option R) (again : j6 → Option R) : j6 → Option R
 | .inl t4 => bif (decide (t4.2.1 < t4.1)) then Option.bind (yc t4.2.2) fun r2 => yA (fun x5 => if List.length ([x5.2.2.2.2.2] : List y7) * 24 < 140737488355328 then again (Sum.inr (x5.1, (Go.IntKind.wrap .i64 (x5.2.1 + (1 : Int))), x5.2.2.1, x5.2.2.2.1, x5.2.2.2.2.1, ([x5.2.2.2.2.2] : List y7))) else none) (fun x6 => if (List.length x6.2.2.2.2.2.2 + List.length ([x6.2.2.2.2.2.1] : List y7)) * 24 < 140737488355328 then again (Sum.inr (x6.1, (Go.IntKind.wrap .i64 (x6.2.1 + (1 : Int))), x6.2.2.1, x6.2.2.2.1, x6.2.2.2.2.1, (x6.2.2.2.2.2.2 ++ ([x6.2.2.2.2.2.1] : List y7)))) else none) (Sum.inl (t4.1, t4.2.1, r2.1, (0 : Int), r2.2.1, r2.2.2.1, r2.2.2.2, ([] : List y9))) else k0 t4.2.2
 | .inr t4 => bif (decide (t4.2.1 < t4.1)) then Option.bind (yc (t4.2.2.1, t4.2.2.2.1, t4.2.2.2.2.1)) fun r7 => yA (fun x10 => if List.length ([x10.2.2.2.2.2] : List y7) * 24 < 140737488355328 then again (Sum.inr (x10.1, (Go.IntKind.wrap .i64 (x10.2.1 + (1 : Int))), x10.2.2.1, x10.2.2.2.1, x10.2.2.2.2.1, ([x10.2.2.2.2.2] : List y7))) else none) (fun x11 => if (List.length x11.2.2.2.2.2.2 + List.length ([x11.2.2.2.2.2.1] : List y7)) * 24 < 140737488355328 then again (Sum.inr (x11.1, (Go.IntKind.wrap .i64 (x11.2.1 + (1 : Int))), x11.2.2.1, x11.2.2.2.1, x11.2.2.2.2.1, (x11.2.2.2.2.2.2 ++ ([x11.2.2.2.2.2.1] : List y7)))) else none) (Sum.inr (t4.1, t4.2.1, r7.1, (0 : Int), r7.2.1, r7.2.2.1, r7.2.2.2, ([] : List y9), t4.2.2.2.2.2)) else k1 t4.2.2
def YL k0 k1 := zh (@z4 R k0 k1) zu
def zq (x : y1H) : Option yrY :=
 Option.bind (yc x) fun r1 => YL (fun x12 => some (([] : List y7), x12.1, x12.2.1, x12.2.2)) (fun x13 => some (x13.2.2.2, x13.1, x13.2.1, x13.2.2.1)) (Sum.inl (r1.1, (0 : Int), r1.2.1, r1.2.2.1, r1.2.2.2))
def y9m : List QF := [yz4, yJd]
def y4u (t : ygn) : St := ⟨.box 900 0 :: .dead :: .box 2 0 :: .box 3 0 :: .dead :: .own 10000000 :: dd 5 (vI t.1 :: vI t.2.1 :: dd 4 (vI t.2.2.1 :: vI t.2.2.2.1 :: dd 16 [])), [(900, .box [wP t.2.2.2.2.1, vI t.2.2.2.2.2.1, vB t.2.2.2.2.2.2.1]), (2, .box [.nils]), (3, .box [.nils]), (10000000, .root true 64 yi t.2.2.2.2.2.2.2)]⟩
theorem yjC : ∀ s t, unG yrT y4u s = some t → y4u t = s := yo fun t => by kernel_rfl
def y4v (t : ygo) : St := ⟨.box 900 0 :: .dead :: .box 2 0 :: .box 3 0 :: .dead :: .own 10000000 :: dd 5 (vI t.1 :: vI t.2.1 :: dd 4 (vI t.2.2.1 :: vI t.2.2.2.1 :: dd 16 [])), [(900, .box [wP t.2.2.2.2.1, vI t.2.2.2.2.2.1, vB t.2.2.2.2.2.2.1]), (2, .box [.nils]), (3, .box [.own 10000001]), (10000000, .root true 64 yi t.2.2.2.2.2.2.2.1), (10000001, .root true 58 yn t.2.2.2.2.2.2.2.2)]⟩
theorem yjD : ∀ s t, unG yrU y4v s = some t → y4v t = s := yo fun t => by kernel_rfl
def y4w : (ygn ⊕ ygo) → St := Sum.elim y4u y4v
def y9n (s : St) : Option (ygn ⊕ ygo) := ((unG yrT y4u s).map Sum.inl).or (((unG yrU y4v) s).map Sum.inr)
theorem yjE : ∀ s t, y9n s = some t → y4w t = s := y5h yjC yjD
def ydS : Gk wR := fun κ => yO (fun t => κ (some 2) ⟨.box 900 0 :: .dead :: .box 2 0 :: .box 3 0 :: .dead :: .own 10000000 :: dd 5 (vI t.1 :: vI t.2.1 :: dd 22 []), [(900, .box [wP t.2.2.1, vI t.2.2.2.1, vB t.2.2.2.2.1]), (2, .box [.nils]), (3, .box [.nils]), (10000000, .root true 64 yi t.2.2.2.2.2)]⟩) (fun t => κ (some 2) ⟨.box 900 0 :: .dead :: .box 2 0 :: .box 3 0 :: .dead :: .own 10000000 :: dd 5 (vI t.1 :: vI t.2.1 :: dd 22 []), [(900, .box [wP t.2.2.1, vI t.2.2.2.1, vB t.2.2.2.2.1]), (2, .box [.nils]), (3, .box [.own 10000001]), (10000000, .root true 64 yi t.2.2.2.2.2.1), (10000001, .root true 58 yn t.2.2.2.2.2.2)]⟩)
def y4x (t : ygp) : St := ⟨.box 900 0 :: .dead :: .box 2 0 :: .box 3 0 :: dd 7 (vI t.1 :: vI t.2.1 :: dd 22 []), [(900, .box [wP t.2.2.1, vI t.2.2.2.1, vB t.2.2.2.2]), (2, .box [.nils]), (3, .box [.nils])]⟩
theorem yjF : ∀ s t, unG yrV y4x s = some t → y4x t = s := yo fun t => by kernel_rfl
def y4y (t : ygq) : St := ⟨.box 900 0 :: .dead :: .box 2 0 :: .box 3 0 :: dd 7 (vI t.1 :: vI t.2.1 :: dd 22 []), [(900, .box [wP t.2.2.1, vI t.2.2.2.1, vB t.2.2.2.2.1]), (2, .box [.nils]), (3, .box [.own 10000000]), (10000000, .root true 58 yn t.2.2.2.2.2)]⟩
theorem yjG : ∀ s t, unG yrW y4y s = some t → y4y t = s := yo fun t => by kernel_rfl
def y4z : (ygp ⊕ ygq) → St := Sum.elim y4x y4y
def y9o (s : St) : Option (ygp ⊕ ygq) := ((unG yrV y4x s).map Sum.inl).or (((unG yrW y4y) s).map Sum.inr)
theorem yjH : ∀ s t, y9o s = some t → y4z t = s := y5h yjF yjG
def ydT : Gk j6 := fun κ => z4 (fun t => κ (some 0) ⟨.box 900 0 :: .dead :: .box 2 0 :: .box 3 0 :: dd 31 [], [(900, .box [wP t.1, vI t.2.1, vB t.2.2]), (2, .box [.nils]), (3, .box [.nils])]⟩) (fun t => κ (some 0) ⟨.box 900 0 :: .dead :: .box 2 0 :: .box 3 0 :: dd 31 [], [(900, .box [wP t.1, vI t.2.1, vB t.2.2.1]), (2, .box [.nils]), (3, .box [.own 10000000]), (10000000, .root true 58 yn t.2.2.2)]⟩)
def y9p : Lp := lpC 4 y9o @ydT (lpC 8 y9n @ydS lpN)
theorem yjI : LF y9m y9p 274 8 Tryz.f274 1 y4w @ydS fun v : ygn => .inl v := fun R κ again v => by kernel_rfl
theorem yjJ : LF y9m y9p 274 8 Tryz.f274 1 y4w @ydS fun v : ygo => .inr v := fun R κ again v => by kernel_rfl
theorem yxH : LF y9m y9p 274 8 Tryz.f274 1 y4w @ydS fun t => t := (LC.sum yjI yjJ)
theorem yxI : LK y9m y9p 274 Tryz.f274 1 := lkN (u := y9n) yjE yxH
theorem yjK : LF y9m y9p 274 4 Tryz.f274 0 y4z @ydT fun v : ygp => .inl v := fun R κ again v => by kernel_rfl
theorem yjL : LF y9m y9p 274 4 Tryz.f274 0 y4z @ydT fun v : ygq => .inr v := fun R κ again v => by kernel_rfl
theorem yxJ : LF y9m y9p 274 4 Tryz.f274 0 y4z @ydT fun t => t := (LC.sum yjK yjL)
theorem yxK : LK y9m y9p 274 Tryz.f274 0 := lkN (u := y9o) yjH yxJ
theorem yE2 : EV y9m y9p 274 Tryz.f274 yuE Ke yrZ zq := fun x => by kernel_rfl
def yJe : QF := ⟨274, zq, okN (n := 2) Tryz.func274 ⟨yxK, yxI, trivial⟩ yE2⟩
abbrev wS : Type := y81
def zO (k0 : yj3 → Option R) (again : wS → Option R) (t5 : wS) : Option R :=
 bif (decide (t5.2.1 < t5.1)) then Option.bind (yc (t5.2.2.1, t5.2.2.2.1, t5.2.2.2.2.1)) fun r3 => Option.bind (yc r3.2) fun r4 => if (List.length t5.2.2.2.2.2.2.2.2.1 + List.length ([(r3.1, r4.1)] : List ya)) * 16 < 140737488355328 then again (t5.1, (Go.IntKind.wrap .i64 (t5.2.1 + (1 : Int))), r4.2.1, r4.2.2.1, r4.2.2.2, t5.2.2.2.2.2.1, t5.2.2.2.2.2.2.1, t5.2.2.2.2.2.2.2.1, (t5.2.2.2.2.2.2.2.2.1 ++ ([(r3.1, r4.1)] : List ya)), t5.2.2.2.2.2.2.2.2.2.1, t5.2.2.2.2.2.2.2.2.2.2) else none else k0 t5.2.2
def Ya k0 := zh (@zO R k0) zu
abbrev wg : Type := y81
def zF (k0 : yj3 → Option R) (again : wg → Option R) (t13 : wg) : Option R :=
 bif (decide (t13.2.1 < t13.1)) then Option.bind (zD (t13.2.2.1, t13.2.2.2.1, t13.2.2.2.2.1)) fun r7 => Option.bind (yc r7.2) fun r8 => Option.bind (yc r8.2) fun r9 => Option.bind (zb r9.2) fun r10 => if (List.length t13.2.2.2.2.2.2.2.2.2.2 + List.length ([(r7.1, r8.1, r9.1, r10.1)] : List yf)) * 40 < 140737488355328 then again (t13.1, (Go.IntKind.wrap .i64 (t13.2.1 + (1 : Int))), r10.2.1, r10.2.2.1, r10.2.2.2, t13.2.2.2.2.2.1, t13.2.2.2.2.2.2.1, t13.2.2.2.2.2.2.2.1, t13.2.2.2.2.2.2.2.2.1, t13.2.2.2.2.2.2.2.2.2.1, (t13.2.2.2.2.2.2.2.2.2.2 ++ ([(r7.1, r8.1, r9.1, r10.1)] : List yf))) else none else k0 t13.2.2
def zW k0 := zh (@zF R k0) zu
abbrev wh : Type := ys0
def zG (k0 : yj3 → Option R) (again : wh → Option R) (t22 : wh) : Option R :=
 bif (decide (t22.1 < (24 : Int))) then Option.bind (yx (t22.2.1, t22.2.2.1, t22.2.2.2.1)) fun r12 => Option.bind (zb r12.2) fun r13 => Option.bind (yx r13.2) fun r14 => if (List.length t22.2.2.2.2.2.2.2.2.1 + List.length ([(r12.1, r13.1, r14.1)] : List y8)) * 24 < 140737488355328 then again ((Go.IntKind.wrap .i64 (t22.1 + (1 : Int))), r14.2.1, r14.2.2.1, r14.2.2.2, t22.2.2.2.2.1, t22.2.2.2.2.2.1, t22.2.2.2.2.2.2.1, t22.2.2.2.2.2.2.2.1, (t22.2.2.2.2.2.2.2.2.1 ++ ([(r12.1, r13.1, r14.1)] : List y8)), t22.2.2.2.2.2.2.2.2.2) else none else k0 t22.2
def zX k0 := zh (@zG R k0) zu
abbrev ZF : Type := y81 ⊕ ygr
def yQ (k0 : yj3 → Option R) (k1 : yAt → Option R) (again : ZF → Option R) : ZF → Option R
 | .inl t31 => bif (decide (t31.2.1 < t31.1)) then Option.bind (yx (t31.2.2.1, t31.2.2.2.1, t31.2.2.2.2.1)) fun r17 => Option.bind (zq r17.2) fun r18 => if (List.length t31.2.2.2.2.2.2.2.1 + List.length ([r17.1] : List ye)) * 8 < 140737488355328 then if List.length ([r18.1] : List y0) * 24 < 140737488355328 then again (Sum.inr (t31.1, (Go.IntKind.wrap .i64 (t31.2.1 + (1 : Int))), r18.2.1, r18.2.2.1, r18.2.2.2, t31.2.2.2.2.2.1, t31.2.2.2.2.2.2.1, (t31.2.2.2.2.2.2.2.1 ++ ([r17.1] : List ye)), ([r18.1] : List y0), t31.2.2.2.2.2.2.2.2.1, t31.2.2.2.2.2.2.2.2.2.1, t31.2.2.2.2.2.2.2.2.2.2)) else none else none else k0 t31.2.2
 | .inr t31 => bif (decide (t31.2.1 < t31.1)) then Option.bind (yx (t31.2.2.1, t31.2.2.2.1, t31.2.2.2.2.1)) fun r19 => Option.bind (zq r19.2) fun r20 => if (List.length t31.2.2.2.2.2.2.2.1 + List.length ([r19.1] : List ye)) * 8 < 140737488355328 then if (List.length t31.2.2.2.2.2.2.2.2.1 + List.length ([r20.1] : List y0)) * 24 < 140737488355328 then again (Sum.inr (t31.1, (Go.IntKind.wrap .i64 (t31.2.1 + (1 : Int))), r20.2.1, r20.2.2.1, r20.2.2.2, t31.2.2.2.2.2.1, t31.2.2.2.2.2.2.1, (t31.2.2.2.2.2.2.2.1 ++ ([r19.1] : List ye)), (t31.2.2.2.2.2.2.2.2.1 ++ ([r20.1] : List y0)), t31.2.2.2.2.2.2.2.2.2.1, t31.2.2.2.2.2.2.2.2.2.2.1, t31.2.2.2.2.2.2.2.2.2.2.2)) else none else none else k1 t31.2.2
def zY k0 k1 := zh (@yQ R k0 k1) zu
def Yz (x : y1H) : Option yAu :=
 Option.bind (yx x) fun r1 => Option.bind (yc r1.2) fun r2 => Ya (fun x5 => Option.bind (yc (x5.1, x5.2.1, x5.2.2.1)) fun r6 => zW (fun x11 => zX (fun x15 => Option.bind (yc (x15.1, x15.2.1, x15.2.2.1)) fun r16 => zY (fun x21 => some (x21.2.2.2.2.2.1, ([] : List y0), x21.2.2.2.2.2.2.1, x21.2.2.2.2.2.2.2.1, x21.2.2.2.2.2.2.2.2, x21.2.2.2.2.1, x21.1, x21.2.1, x21.2.2.1)) (fun x22 => some (x22.2.2.2.2.2.1, x22.2.2.2.2.2.2.1, x22.2.2.2.2.2.2.2.1, x22.2.2.2.2.2.2.2.2.1, x22.2.2.2.2.2.2.2.2.2, x22.2.2.2.2.1, x22.1, x22.2.1, x22.2.2.1)) (Sum.inl (r16.1, (0 : Int), r16.2.1, r16.2.2.1, r16.2.2.2, x15.2.2.2.1, x15.2.2.2.2.1, x15.2.2.2.2.2.1, x15.2.2.2.2.2.2.1, x15.2.2.2.2.2.2.2.1, x15.2.2.2.2.2.2.2.2))) ((0 : Int), x11.1, x11.2.1, x11.2.2.1, x11.2.2.2.1, x11.2.2.2.2.1, x11.2.2.2.2.2.1, x11.2.2.2.2.2.2.1, x11.2.2.2.2.2.2.2.1, x11.2.2.2.2.2.2.2.2)) (r6.1, (0 : Int), r6.2.1, r6.2.2.1, r6.2.2.2, x5.2.2.2.1, x5.2.2.2.2.1, x5.2.2.2.2.2.1, x5.2.2.2.2.2.2.1, x5.2.2.2.2.2.2.2.1, x5.2.2.2.2.2.2.2.2)) (r2.1, (0 : Int), r2.2.1, r2.2.2.1, r2.2.2.2, (0 : Int), r1.1, ([] : List ye), ([] : List ya), ([] : List y8), ([] : List yf))
def y5w : List QF := [yGP, yz4, yJb, yJc, yJe]
def y9q (t : y81) : St := ⟨.box 900 0 :: .dead :: .box 2 0 :: .box 3 0 :: dd 14 (vI t.1 :: vI t.2.1 :: dd 86 []), [(900, .box [wP t.2.2.1, vI t.2.2.2.1, vB t.2.2.2.2.1]), (2, .box [.nils, .nils, .nils, .nils, .nils, vI t.2.2.2.2.2.1]), (3, .box [.own 10000000, .nils, .own 10000001, .own 10000002, .own 10000003, vI t.2.2.2.2.2.2.1]), (10000000, .root true 3 yh t.2.2.2.2.2.2.2.1), (10000001, .root true 146 ym t.2.2.2.2.2.2.2.2.1), (10000002, .root true 113 yd t.2.2.2.2.2.2.2.2.2.1), (10000003, .root true 46 yt t.2.2.2.2.2.2.2.2.2.2)]⟩
def ymq : Gk wS := fun κ => zO (fun t => κ (some 0) ⟨.box 900 0 :: .dead :: .box 2 0 :: .box 3 0 :: dd 102 [], [(900, .box [wP t.1, vI t.2.1, vB t.2.2.1]), (2, .box [.nils, .nils, .nils, .nils, .nils, vI t.2.2.2.1]), (3, .box [.own 10000000, .nils, .own 10000001, .own 10000002, .own 10000003, vI t.2.2.2.2.1]), (10000000, .root true 3 yh t.2.2.2.2.2.1), (10000001, .root true 146 ym t.2.2.2.2.2.2.1), (10000002, .root true 113 yd t.2.2.2.2.2.2.2.1), (10000003, .root true 46 yt t.2.2.2.2.2.2.2.2)]⟩)
def y5x (t : y81) : St := ⟨.box 900 0 :: .dead :: .box 2 0 :: .box 3 0 :: dd 33 (vI t.1 :: vI t.2.1 :: dd 67 []), [(900, .box [wP t.2.2.1, vI t.2.2.2.1, vB t.2.2.2.2.1]), (2, .box [.nils, .nils, .nils, .nils, .nils, vI t.2.2.2.2.2.1]), (3, .box [.own 10000000, .nils, .own 10000001, .own 10000002, .own 10000003, vI t.2.2.2.2.2.2.1]), (10000000, .root true 3 yh t.2.2.2.2.2.2.2.1), (10000001, .root true 146 ym t.2.2.2.2.2.2.2.2.1), (10000002, .root true 113 yd t.2.2.2.2.2.2.2.2.2.1), (10000003, .root true 46 yt t.2.2.2.2.2.2.2.2.2.2)]⟩
def ygW : Gk wg := fun κ => zF (fun t => κ (some 2) ⟨.box 900 0 :: .dead :: .box 2 0 :: .box 3 0 :: dd 102 [], [(900, .box [wP t.1, vI t.2.1, vB t.2.2.1]), (2, .box [.nils, .nils, .nils, .nils, .nils, vI t.2.2.2.1]), (3, .box [.own 10000000, .nils, .own 10000001, .own 10000002, .own 10000003, vI t.2.2.2.2.1]), (10000000, .root true 3 yh t.2.2.2.2.2.1), (10000001, .root true 146 ym t.2.2.2.2.2.2.1), (10000002, .root true 113 yd t.2.2.2.2.2.2.2.1), (10000003, .root true 46 yt t.2.2.2.2.2.2.2.2)]⟩)
def y5y (t : ys0) : St := ⟨.box 900 0 :: .dead :: .box 2 0 :: .box 3 0 :: dd 56 (vI t.1 :: dd 45 []), [(900, .box [wP t.2.1, vI t.2.2.1, vB t.2.2.2.1]), (2, .box [.nils, .nils, .nils, .nils, .nils, vI t.2.2.2.2.1]), (3, .box [.own 10000000, .nils, .own 10000001, .own 10000002, .own 10000003, vI t.2.2.2.2.2.1]), (10000000, .root true 3 yh t.2.2.2.2.2.2.1), (10000001, .root true 146 ym t.2.2.2.2.2.2.2.1), (10000002, .root true 113 yd t.2.2.2.2.2.2.2.2.1), (10000003, .root true 46 yt t.2.2.2.2.2.2.2.2.2)]⟩
def ygX : Gk wh := fun κ => zG (fun t => κ (some 4) ⟨.box 900 0 :: .dead :: .box 2 0 :: .box 3 0 :: dd 102 [], [(900, .box [wP t.1, vI t.2.1, vB t.2.2.1]), (2, .box [.nils, .nils, .nils, .nils, .nils, vI t.2.2.2.1]), (3, .box [.own 10000000, .nils, .own 10000001, .own 10000002, .own 10000003, vI t.2.2.2.2.1]), (10000000, .root true 3 yh t.2.2.2.2.2.1), (10000001, .root true 146 ym t.2.2.2.2.2.2.1), (10000002, .root true 113 yd t.2.2.2.2.2.2.2.1), (10000003, .root true 46 yt t.2.2.2.2.2.2.2.2)]⟩)
def y2C (t : y81) : St := ⟨.box 900 0 :: .dead :: .box 2 0 :: .box 3 0 :: dd 77 (vI t.1 :: vI t.2.1 :: dd 23 []), [(900, .box [wP t.2.2.1, vI t.2.2.2.1, vB t.2.2.2.2.1]), (2, .box [.nils, .nils, .nils, .nils, .nils, vI t.2.2.2.2.2.1]), (3, .box [.own 10000000, .nils, .own 10000001, .own 10000002, .own 10000003, vI t.2.2.2.2.2.2.1]), (10000000, .root true 3 yh t.2.2.2.2.2.2.2.1), (10000001, .root true 146 ym t.2.2.2.2.2.2.2.2.1), (10000002, .root true 113 yd t.2.2.2.2.2.2.2.2.2.1), (10000003, .root true 46 yt t.2.2.2.2.2.2.2.2.2.2)]⟩
theorem ygY : ∀ s t, unG yf7 y2C s = some t → y2C t = s := yo fun t => by kernel_rfl
def y2D (t : ygr) : St := ⟨.box 900 0 :: .dead :: .box 2 0 :: .box 3 0 :: dd 77 (vI t.1 :: vI t.2.1 :: dd 23 []), [(900, .box [wP t.2.2.1, vI t.2.2.2.1, vB t.2.2.2.2.1]), (2, .box [.nils, .nils, .nils, .nils, .nils, vI t.2.2.2.2.2.1]), (3, .box [.own 10000000, .own 10000001, .own 10000002, .own 10000003, .own 10000004, vI t.2.2.2.2.2.2.1]), (10000000, .root true 3 yh t.2.2.2.2.2.2.2.1), (10000001, .root true 140 yj t.2.2.2.2.2.2.2.2.1), (10000002, .root true 146 ym t.2.2.2.2.2.2.2.2.2.1), (10000003, .root true 113 yd t.2.2.2.2.2.2.2.2.2.2.1), (10000004, .root true 46 yt t.2.2.2.2.2.2.2.2.2.2.2)]⟩
theorem ygZ : ∀ s t, unG ys2 y2D s = some t → y2D t = s := yo fun t => by kernel_rfl
def y2E : (y81 ⊕ ygr) → St := Sum.elim y2C y2D
def y5z (s : St) : Option (y81 ⊕ ygr) := ((unG yf7 y2C s).map Sum.inl).or (((unG ys2 y2D) s).map Sum.inr)
theorem yh0 : ∀ s t, y5z s = some t → y2E t = s := y5h ygY ygZ
def y9r : Gk ZF := fun κ => yQ (fun t => κ (some 6) ⟨.box 900 0 :: .dead :: .box 2 0 :: .box 3 0 :: dd 102 [], [(900, .box [wP t.1, vI t.2.1, vB t.2.2.1]), (2, .box [.nils, .nils, .nils, .nils, .nils, vI t.2.2.2.1]), (3, .box [.own 10000000, .nils, .own 10000001, .own 10000002, .own 10000003, vI t.2.2.2.2.1]), (10000000, .root true 3 yh t.2.2.2.2.2.1), (10000001, .root true 146 ym t.2.2.2.2.2.2.1), (10000002, .root true 113 yd t.2.2.2.2.2.2.2.1), (10000003, .root true 46 yt t.2.2.2.2.2.2.2.2)]⟩) (fun t => κ (some 6) ⟨.box 900 0 :: .dead :: .box 2 0 :: .box 3 0 :: dd 102 [], [(900, .box [wP t.1, vI t.2.1, vB t.2.2.1]), (2, .box [.nils, .nils, .nils, .nils, .nils, vI t.2.2.2.1]), (3, .box [.own 10000000, .own 10000001, .own 10000002, .own 10000003, .own 10000004, vI t.2.2.2.2.1]), (10000000, .root true 3 yh t.2.2.2.2.2.1), (10000001, .root true 140 yj t.2.2.2.2.2.2.1), (10000002, .root true 146 ym t.2.2.2.2.2.2.2.1), (10000003, .root true 113 yd t.2.2.2.2.2.2.2.2.1), (10000004, .root true 46 yt t.2.2.2.2.2.2.2.2.2)]⟩)
def y5A : Lp := lpC 31 y5z @y9r (lpC 22 (unG ys1 y5y) @ygX (lpC 13 (unG yf7 y5x) @ygW (lpC 5 (unG yf7 y9q) @ymq lpN)))
theorem yxL : LF y5w y5A 157 5 Tryz.f157 0 y9q @ymq fun t => t := fun R κ again t => by kernel_rfl
theorem yxM : LK y5w y5A 157 Tryz.f157 0 := lkN (u := (unG yf7 y9q)) (yo fun t => by kernel_rfl) yxL
theorem ypq : LF y5w y5A 157 13 Tryz.f157 1 y5x @ygW fun t => t := fun R κ again t => by kernel_rfl
theorem ypr : LK y5w y5A 157 Tryz.f157 1 := lkN (u := (unG yf7 y5x)) (yo fun t => by kernel_rfl) ypq
theorem yps : LF y5w y5A 157 22 Tryz.f157 2 y5y @ygX fun t => t := fun R κ again t => by kernel_rfl
theorem ypt : LK y5w y5A 157 Tryz.f157 2 := lkN (u := (unG ys1 y5y)) (yo fun t => by kernel_rfl) yps
theorem yh1 : LF y5w y5A 157 31 Tryz.f157 3 y2E @y9r fun v : y81 => .inl v := fun R κ again v => by kernel_rfl
theorem yh2 : LF y5w y5A 157 31 Tryz.f157 3 y2E @y9r fun v : ygr => .inr v := fun R κ again v => by kernel_rfl
theorem ypu : LF y5w y5A 157 31 Tryz.f157 3 y2E @y9r fun t => t := (LC.sum yh1 yh2)
theorem ypv : LK y5w y5A 157 Tryz.f157 3 := lkN (u := y5z) yh0 ypu
theorem yE3 : EV y5w y5A 157 Tryz.f157 yuF Ke yAv Yz := fun x => by kernel_rfl
def yJf : QF := ⟨157, Yz, okN (n := 4) Tryz.func157 ⟨yxM, ypr, ypt, ypv, trivial⟩ yE3⟩
def ZG (x : y1H) : Option yna :=
 Option.bind (bif (!x.2.2) then some (x.2.1 == (List.length x.1 : Int)) else some false) fun u1 => some (u1, x)
theorem yE4 : EV [] lpN 158 Tryz.f158 yuG Ke ynb ZG := fun x => by kernel_rfl
def yJg : QF := ⟨158, ZG, okN (n := 0) Tryz.func158 trivial yE4⟩
def Vs (x : yAw) : Option Bool :=
 some ((ByteArray.toList (WF x.1)) == (ByteArray.toList (WF x.2)))
theorem yE5 : EV [] lpN 159 Tryz.f159 yuH yAx [.bool] Vs := fun x => by kernel_rfl
def yJh : QF := ⟨159, Vs, okN (n := 0) Tryz.func159 trivial yE5⟩
def ZX (x : List za) : Option yf3 :=
 Option.bind (Yz (x, (0 : Int), false)) fun r1 => Option.bind (ZG r1.2.2.2.2.2.2) fun r2 => Option.bind (bif (!r2.1) then some true else Option.bind (Ym (r1.1, r1.2.1, r1.2.2.1, r1.2.2.2.1, r1.2.2.2.2.1, r1.2.2.2.2.2.1)) fun r4 => some (!r4)) fun u3 => Option.bind (bif u3 then some true else Option.bind (YY (r1.1, r1.2.1, r1.2.2.1, r1.2.2.2.1, r1.2.2.2.2.1, r1.2.2.2.2.2.1)) fun r6 => Option.bind (Vs (r6, x)) fun r7 => some (!r7)) fun u5 => bif u5 then some (([] : List ye), ([] : List y0), ([] : List ya), ([] : List y8), ([] : List yf), (0 : Int), false) else some (r1.1, r1.2.1, r1.2.2.1, r1.2.2.2.1, r1.2.2.2.2.1, r1.2.2.2.2.2.1, true)
theorem yJi : EV [q30, q51, yJf, yJg, yJh] lpN 53 Tryz.f53 yGk [(.sl 5 yu)] yf4 ZX := fun x => by kernel_rfl
def q53 : QF := ⟨53, ZX, okN (n := 0) Tryz.func53 trivial yJi⟩
def yJ (x : y1H) : Option y80 :=
 Option.bind (bif x.2.2 then some true else some (decide (x.2.1 ≥ (List.length x.1 : Int)))) fun u1 => bif u1 then some ((0 : Int), x.1, x.2.1, true) else if (0 : Int) ≤ (Go.IntKind.wrap .i64 ((Go.IntKind.wrap .i64 (x.2.1 + (1 : Int))) - (1 : Int))) then if (Go.IntKind.wrap .i64 ((Go.IntKind.wrap .i64 (x.2.1 + (1 : Int))) - (1 : Int))) < (List.length x.1 : Int) then some ((Go.IntKind.wrap .i64 (y0u x.1 (Go.IntKind.wrap .i64 ((Go.IntKind.wrap .i64 (x.2.1 + (1 : Int))) - (1 : Int))))), x.1, (Go.IntKind.wrap .i64 (x.2.1 + (1 : Int))), x.2.2) else none else none
theorem yE6 : EV [] lpN 161 Tryz.f161 yuI Ke yf6 yJ := fun x => by kernel_rfl
def yqf : QF := ⟨161, yJ, okN (n := 0) Tryz.func161 trivial yE6⟩
def z9 (x : y1H) : Option y80 :=
 Option.bind (yJ x) fun r1 => Option.bind (yJ r1.2) fun r2 => some ((Go.bits .or .i64 (Go.IntKind.wrap .i64 (r1.1 * 2 ^ (min (Int.toNat (8 : Int)) (Go.IntKind.bits .i64)))) r2.1), r2.2.1, r2.2.2.1, r2.2.2.2)
theorem yE7 : EV [yqf] lpN 160 Tryz.f160 yuJ Ke yf6 z9 := fun x => by kernel_rfl
def yJj : QF := ⟨160, z9, okN (n := 0) Tryz.func160 trivial yE7⟩
def YZ (x : y1H) : Option yna :=
 Option.bind (yJ x) fun r1 => Option.bind (bif r1.2.2.2 then some true else some (decide (r1.1 > (1 : Int)))) fun u2 => some ((r1.1 == (1 : Int)), r1.2.1, r1.2.2.1, u2)
theorem yE8 : EV [yqf] lpN 163 Tryz.f163 yuK Ke ynb YZ := fun x => by kernel_rfl
def yGQ : QF := ⟨163, YZ, okN (n := 0) Tryz.func163 trivial yE8⟩
def vd (x : yiX) : Option yrP :=
 Option.bind (yB (x.2, (0 : Int), (Go.IntKind.wrap .i64 ((List.length x.1 : Int) - (2 : Int))))) fun r1 => bif (!r1) then some ((0 : Int), (0 : Int), false) else if (0 : Int) ≤ x.2 then if x.2 < (List.length x.1 : Int) then if (0 : Int) ≤ (Go.IntKind.wrap .i64 (x.2 + (1 : Int))) then if (Go.IntKind.wrap .i64 (x.2 + (1 : Int))) < (List.length x.1 : Int) then some ((Go.bits .or .i64 (Go.IntKind.wrap .i64 ((Go.IntKind.wrap .i64 (y0u x.1 x.2)) * 2 ^ (min (Int.toNat (8 : Int)) (Go.IntKind.bits .i64)))) (Go.IntKind.wrap .i64 (y0u x.1 (Go.IntKind.wrap .i64 (x.2 + (1 : Int)))))), (Go.IntKind.wrap .i64 (x.2 + (2 : Int))), true) else none else none else none else none
theorem yE9 : EV [q96] lpN 295 Tryz.f295 yuL ylc yrQ vd := fun x => by kernel_rfl
def yGR : QF := ⟨295, vd, okN (n := 0) Tryz.func295 trivial yE9⟩
def Jp (x : yiX) : Option yrR :=
 Option.bind (vd x) fun r1 => Option.bind (bif (!r1.2.2) then some true else some (decide (r1.1 > (60 : Int)))) fun u2 => Option.bind (bif u2 then some true else some (decide (r1.1 > (Go.IntKind.wrap .i64 ((List.length x.1 : Int) - r1.2.1))))) fun u3 => bif u3 then some ({ data := #[] }, (0 : Int), false) else if (0 : Int) ≤ r1.2.1 then if r1.2.1 ≤ (Go.IntKind.wrap .i64 (r1.2.1 + r1.1)) then if (Go.IntKind.wrap .i64 (r1.2.1 + r1.1)) ≤ (List.length x.1 : Int) then some ((WF (List.drop (Int.toNat r1.2.1) (List.take (Int.toNat (Go.IntKind.wrap .i64 (r1.2.1 + r1.1))) x.1))), (Go.IntKind.wrap .i64 (r1.2.1 + r1.1)), true) else none else none else none
theorem yEa : EV [yGR] lpN 275 Tryz.f275 yuM ylc yrS Jp := fun x => by kernel_rfl
def yJk : QF := ⟨275, Jp, okN (n := 0) Tryz.func275 trivial yEa⟩
def wI (x : y1H) : Option yAy :=
 Option.bind (Jp (x.1, x.2.1)) fun r1 => Option.bind (bif x.2.2 then some true else some (!r1.2.2)) fun u2 => bif u2 then some ((⟨#[]⟩ : ByteArray), (0 : Int), (0 : Int), false, x.1, x.2.1, true) else Option.bind (yJ (x.1, r1.2.1, x.2.2)) fun r3 => Option.bind (yJ r3.2) fun r4 => Option.bind (YZ r4.2) fun r5 => some (r1.1, r3.1, r4.1, r5)
theorem yEb : EV [yqf, yGQ, yJk] lpN 162 Tryz.f162 yuN Ke yAz wI := fun x => by kernel_rfl
def yJl : QF := ⟨162, wI, okN (n := 0) Tryz.func162 trivial yEb⟩
def wJ (x : yiX) : Option yAA :=
 Option.bind (yB (x.2, (0 : Int), (Go.IntKind.wrap .i64 ((List.length x.1 : Int) - (6 : Int))))) fun r1 => bif (!r1) then some ((0 : Int), (0 : Int), (0 : Int), (0 : Int), (0 : Int), (0 : Int), false) else Option.bind (vd (x.1, (Go.IntKind.wrap .i64 (x.2 + (4 : Int))))) fun r2 => if (0 : Int) ≤ x.2 then if x.2 < (List.length x.1 : Int) then if (0 : Int) ≤ (Go.IntKind.wrap .i64 (x.2 + (1 : Int))) then if (Go.IntKind.wrap .i64 (x.2 + (1 : Int))) < (List.length x.1 : Int) then if (0 : Int) ≤ (Go.IntKind.wrap .i64 (x.2 + (2 : Int))) then if (Go.IntKind.wrap .i64 (x.2 + (2 : Int))) < (List.length x.1 : Int) then if (0 : Int) ≤ (Go.IntKind.wrap .i64 (x.2 + (3 : Int))) then if (Go.IntKind.wrap .i64 (x.2 + (3 : Int))) < (List.length x.1 : Int) then Option.bind (jM ((Go.IntKind.wrap .i64 (y0u x.1 x.2)), (Go.IntKind.wrap .i64 (y0u x.1 (Go.IntKind.wrap .i64 (x.2 + (1 : Int))))), (Go.IntKind.wrap .i64 (y0u x.1 (Go.IntKind.wrap .i64 (x.2 + (2 : Int))))), (Go.IntKind.wrap .i64 (y0u x.1 (Go.IntKind.wrap .i64 (x.2 + (3 : Int))))), r2.1)) fun r3 => bif (!r3) then some ((0 : Int), (0 : Int), (0 : Int), (0 : Int), (0 : Int), (0 : Int), false) else some ((Go.IntKind.wrap .i64 (y0u x.1 x.2)), (Go.IntKind.wrap .i64 (y0u x.1 (Go.IntKind.wrap .i64 (x.2 + (1 : Int))))), (Go.IntKind.wrap .i64 (y0u x.1 (Go.IntKind.wrap .i64 (x.2 + (2 : Int))))), (Go.IntKind.wrap .i64 (y0u x.1 (Go.IntKind.wrap .i64 (x.2 + (3 : Int))))), r2.1, r2.2.1, true) else none else none else none else none else none else none else none else none
theorem yEc : EV [q96, yyZ, yGR] lpN 331 Tryz.f331 yuO ylc yAB wJ := fun x => by kernel_rfl
def yJm : QF := ⟨331, wJ, okN (n := 0) Tryz.func331 trivial yEc⟩
abbrev Vc : Type := ys3
def Zn (k0 : ys5 → Option R) (k1 : ys5 → Option R) (again : Vc → Option R) (t3 : Vc) : Option R :=
 Option.bind (bif (decide (t3.1 > (0 : Int))) then some (!t3.2.2.2.1) else some false) fun u2 => bif u2 then Option.bind (wJ (t3.2.1, t3.2.2.1)) fun r3 => bif (!r3.2.2.2.2.2.2) then k0 (t3.2.1, t3.2.2.1, true, t3.2.2.2.2) else if (List.length t3.2.2.2.2 + List.length ([(r3.1, r3.2.1, r3.2.2.1, r3.2.2.2.1, r3.2.2.2.2.1)] : List y9)) * 40 < 140737488355328 then again ((Go.IntKind.wrap .i64 (t3.1 - (1 : Int))), t3.2.1, r3.2.2.2.2.2.1, t3.2.2.2.1, (t3.2.2.2.2 ++ ([(r3.1, r3.2.1, r3.2.2.1, r3.2.2.2.1, r3.2.2.2.2.1)] : List y9))) else none else k1 t3.2
def Vd k0 k1 := zh (@Zn R k0 k1) zu
def Jq (x : y1H) : Option yAC :=
 Option.bind (yJ x) fun r1 => Vd (fun x4 => some (x4.2.2.2, x4.1, x4.2.1, x4.2.2.1)) (fun x5 => some (x5.2.2.2, x5.1, x5.2.1, x5.2.2.1)) (r1.1, r1.2.1, r1.2.2.1, r1.2.2.2, ([] : List y9))
def ypw : List QF := [yqf, yJm]
def y9s (t : ys3) : St := ⟨.box 900 0 :: dd 2 (.own 10000000 :: vI t.1 :: dd 45 []), [(900, .box [wP t.2.1, vI t.2.2.1, vB t.2.2.2.1]), (10000000, .root true 64 yi t.2.2.2.2)]⟩
def ymr : Gk Vc := fun κ => Zn (fun t => κ none ⟨.box 900 0 :: .dead :: .own 10000000 :: .own 10000000 :: dd 46 [], [(900, .box [wP t.1, vI t.2.1, vB t.2.2.1]), (10000000, .root true 64 yi t.2.2.2)]⟩) (fun t => κ (some 0) ⟨.box 900 0 :: dd 2 (.own 10000000 :: dd 46 []), [(900, .box [wP t.1, vI t.2.1, vB t.2.2.1]), (10000000, .root true 64 yi t.2.2.2)]⟩)
def ypx : Lp := lpC 3 (unG ys4 y9s) @ymr lpN
theorem yxN : LF ypw ypx 276 3 Tryz.f276 0 y9s @ymr fun t => t := fun R κ again t => by kernel_rfl
theorem yxO : LK ypw ypx 276 Tryz.f276 0 := lkN (u := (unG ys4 y9s)) (yo fun t => by kernel_rfl) yxN
theorem yEd : EV ypw ypx 276 Tryz.f276 yuP Ke yAD Jq := fun x => by kernel_rfl
def yJn : QF := ⟨276, Jq, okN (n := 1) Tryz.func276 ⟨yxO, trivial⟩ yEd⟩
abbrev Wv : Type := y80 ⊕ ygs
def zI (k0 : y1H → Option R) (k1 : yrX → Option R) (again : Wv → Option R) : Wv → Option R
 | .inl t3 => Option.bind (bif (decide (t3.1 > (0 : Int))) then some (!t3.2.2.2) else some false) fun u2 => bif u2 then Option.bind (Jq t3.2) fun r3 => if List.length ([r3.1] : List y7) * 24 < 140737488355328 then again (Sum.inr ((Go.IntKind.wrap .i64 (t3.1 - (1 : Int))), r3.2.1, r3.2.2.1, r3.2.2.2, ([r3.1] : List y7))) else none else k0 t3.2
 | .inr t3 => Option.bind (bif (decide (t3.1 > (0 : Int))) then some (!t3.2.2.2.1) else some false) fun u4 => bif u4 then Option.bind (Jq (t3.2.1, t3.2.2.1, t3.2.2.2.1)) fun r5 => if (List.length t3.2.2.2.2 + List.length ([r5.1] : List y7)) * 24 < 140737488355328 then again (Sum.inr ((Go.IntKind.wrap .i64 (t3.1 - (1 : Int))), r5.2.1, r5.2.2.1, r5.2.2.2, (t3.2.2.2.2 ++ ([r5.1] : List y7)))) else none else k1 t3.2
def Ww k0 k1 := zh (@zI R k0 k1) zu
def Y4 (x : y1H) : Option yrY :=
 Option.bind (yJ x) fun r1 => Ww (fun x6 => some (([] : List y7), x6.1, x6.2.1, x6.2.2)) (fun x7 => some (x7.2.2.2, x7.1, x7.2.1, x7.2.2.1)) (Sum.inl r1)
def yh3 : List QF := [yqf, yJn]
def y4A (t : y80) : St := ⟨.box 900 0 :: .dead :: .box 2 0 :: .box 3 0 :: vI t.1 :: dd 24 [], [(900, .box [wP t.2.1, vI t.2.2.1, vB t.2.2.2]), (2, .box [.nils]), (3, .box [.nils])]⟩
theorem yjM : ∀ s t, unG yf6 y4A s = some t → y4A t = s := yo fun t => by kernel_rfl
def y4B (t : ygs) : St := ⟨.box 900 0 :: .dead :: .box 2 0 :: .box 3 0 :: vI t.1 :: dd 24 [], [(900, .box [wP t.2.1, vI t.2.2.1, vB t.2.2.2.1]), (2, .box [.nils]), (3, .box [.own 10000000]), (10000000, .root true 58 yn t.2.2.2.2)]⟩
theorem yjN : ∀ s t, unG ys6 y4B s = some t → y4B t = s := yo fun t => by kernel_rfl
def y4C : (y80 ⊕ ygs) → St := Sum.elim y4A y4B
def y9t (s : St) : Option (y80 ⊕ ygs) := ((unG yf6 y4A s).map Sum.inl).or (((unG ys6 y4B) s).map Sum.inr)
theorem yjO : ∀ s t, y9t s = some t → y4C t = s := y5h yjM yjN
def ydU : Gk Wv := fun κ => zI (fun t => κ (some 0) ⟨.box 900 0 :: .dead :: .box 2 0 :: .box 3 0 :: dd 25 [], [(900, .box [wP t.1, vI t.2.1, vB t.2.2]), (2, .box [.nils]), (3, .box [.nils])]⟩) (fun t => κ (some 0) ⟨.box 900 0 :: .dead :: .box 2 0 :: .box 3 0 :: dd 25 [], [(900, .box [wP t.1, vI t.2.1, vB t.2.2.1]), (2, .box [.nils]), (3, .box [.own 10000000]), (10000000, .root true 58 yn t.2.2.2)]⟩)
def yh4 : Lp := lpC 3 y9t @ydU lpN
theorem yjP : LF yh3 yh4 164 3 Tryz.f164 0 y4C @ydU fun v : y80 => .inl v := fun R κ again v => by kernel_rfl
theorem yjQ : LF yh3 yh4 164 3 Tryz.f164 0 y4C @ydU fun v : ygs => .inr v := fun R κ again v => by kernel_rfl
theorem yxP : LF yh3 yh4 164 3 Tryz.f164 0 y4C @ydU fun t => t := (LC.sum yjP yjQ)
theorem yxQ : LK yh3 yh4 164 Tryz.f164 0 := lkN (u := y9t) yjO yxP
theorem yEe : EV yh3 yh4 164 Tryz.f164 yuQ Ke yrZ Y4 := fun x => by kernel_rfl
def yJo : QF := ⟨164, Y4, okN (n := 1) Tryz.func164 ⟨yxQ, trivial⟩ yEe⟩
abbrev Ve : Type := y5m
def YD (k0 : yj4 → Option R) (again : Ve → Option R) (t4 : Ve) : Option R :=
 Option.bind (bif (decide (t4.2.1 > (0 : Int))) then some (!t4.2.2.2.2.2.1) else some false) fun u3 => bif u3 then Option.bind (yJ (t4.2.2.2.1, t4.2.2.2.2.1, t4.2.2.2.2.2.1)) fun r4 => Option.bind (yJ r4.2) fun r5 => if (List.length t4.2.2.2.2.2.2.2.2.1 + List.length ([(r4.1, r5.1)] : List ya)) * 16 < 140737488355328 then again (t4.1, (Go.IntKind.wrap .i64 (t4.2.1 - (1 : Int))), t4.2.2.1, r5.2.1, r5.2.2.1, r5.2.2.2, t4.2.2.2.2.2.2.1, t4.2.2.2.2.2.2.2.1, (t4.2.2.2.2.2.2.2.2.1 ++ ([(r4.1, r5.1)] : List ya)), t4.2.2.2.2.2.2.2.2.2.1, t4.2.2.2.2.2.2.2.2.2.2) else none else k0 (t4.1, t4.2.2)
def Zo k0 := zh (@YD R k0) zu
abbrev ve : Type := y5m
def Yg (k0 : yj4 → Option R) (again : ve → Option R) (t10 : ve) : Option R :=
 Option.bind (bif (decide (t10.2.1 > (0 : Int))) then some (!t10.2.2.2.2.2.1) else some false) fun u8 => bif u8 then Option.bind (wI (t10.2.2.2.1, t10.2.2.2.2.1, t10.2.2.2.2.2.1)) fun r9 => if (List.length t10.2.2.2.2.2.2.2.2.2.2 + List.length ([(r9.1, r9.2.1, r9.2.2.1, r9.2.2.2.1)] : List yf)) * 40 < 140737488355328 then again (t10.1, (Go.IntKind.wrap .i64 (t10.2.1 - (1 : Int))), t10.2.2.1, r9.2.2.2.2.1, r9.2.2.2.2.2.1, r9.2.2.2.2.2.2, t10.2.2.2.2.2.2.1, t10.2.2.2.2.2.2.2.1, t10.2.2.2.2.2.2.2.2.1, t10.2.2.2.2.2.2.2.2.2.1, (t10.2.2.2.2.2.2.2.2.2.2 ++ ([(r9.1, r9.2.1, r9.2.2.1, r9.2.2.2.1)] : List yf))) else none else k0 (t10.1, t10.2.2)
def Z1 k0 := zh (@Yg R k0) zu
abbrev vf : Type := y5m
def Yh (k0 : yj4 → Option R) (again : vf → Option R) (t15 : vf) : Option R :=
 Option.bind (bif (decide (t15.2.1 < (24 : Int))) then some (!t15.2.2.2.2.2.1) else some false) fun u11 => bif u11 then Option.bind (z9 (t15.2.2.2.1, t15.2.2.2.2.1, t15.2.2.2.2.2.1)) fun r12 => Option.bind (YZ r12.2) fun r13 => Option.bind (z9 r13.2) fun r14 => if (List.length t15.2.2.2.2.2.2.2.2.2.1 + List.length ([(r12.1, r13.1, r14.1)] : List y8)) * 24 < 140737488355328 then again (t15.1, (Go.IntKind.wrap .i64 (t15.2.1 + (1 : Int))), t15.2.2.1, r14.2.1, r14.2.2.1, r14.2.2.2, t15.2.2.2.2.2.2.1, t15.2.2.2.2.2.2.2.1, t15.2.2.2.2.2.2.2.2.1, (t15.2.2.2.2.2.2.2.2.2.1 ++ ([(r12.1, r13.1, r14.1)] : List y8)), t15.2.2.2.2.2.2.2.2.2.2) else none else k0 (t15.1, t15.2.2)
def Z2 k0 := zh (@Yh R k0) zu
abbrev wK : Type := y5m ⊕ ygt
def zB (k0 : yj4 → Option R) (k1 : yAE → Option R) (again : wK → Option R) : wK → Option R
 | .inl t22 => Option.bind (bif (decide (t22.2.1 > (0 : Int))) then some (!t22.2.2.2.2.2.1) else some false) fun u17 => bif u17 then Option.bind (z9 (t22.2.2.2.1, t22.2.2.2.2.1, t22.2.2.2.2.2.1)) fun r18 => Option.bind (Y4 r18.2) fun r19 => if (List.length t22.2.2.2.2.2.2.2.1 + List.length ([r18.1] : List ye)) * 8 < 140737488355328 then if List.length ([r19.1] : List y0) * 24 < 140737488355328 then again (Sum.inr (t22.1, (Go.IntKind.wrap .i64 (t22.2.1 - (1 : Int))), t22.2.2.1, r19.2.1, r19.2.2.1, r19.2.2.2, t22.2.2.2.2.2.2.1, (t22.2.2.2.2.2.2.2.1 ++ ([r18.1] : List ye)), ([r19.1] : List y0), t22.2.2.2.2.2.2.2.2.1, t22.2.2.2.2.2.2.2.2.2.1, t22.2.2.2.2.2.2.2.2.2.2)) else none else none else k0 (t22.1, t22.2.2)
 | .inr t22 => Option.bind (bif (decide (t22.2.1 > (0 : Int))) then some (!t22.2.2.2.2.2.1) else some false) fun u20 => bif u20 then Option.bind (z9 (t22.2.2.2.1, t22.2.2.2.2.1, t22.2.2.2.2.2.1)) fun r21 => Option.bind (Y4 r21.2) fun r22 => if (List.length t22.2.2.2.2.2.2.2.1 + List.length ([r21.1] : List ye)) * 8 < 140737488355328 then if (List.length t22.2.2.2.2.2.2.2.2.1 + List.length ([r22.1] : List y0)) * 24 < 140737488355328 then again (Sum.inr (t22.1, (Go.IntKind.wrap .i64 (t22.2.1 - (1 : Int))), t22.2.2.1, r22.2.1, r22.2.2.1, r22.2.2.2, t22.2.2.2.2.2.2.1, (t22.2.2.2.2.2.2.2.1 ++ ([r21.1] : List ye)), (t22.2.2.2.2.2.2.2.2.1 ++ ([r22.1] : List y0)), t22.2.2.2.2.2.2.2.2.2.1, t22.2.2.2.2.2.2.2.2.2.2.1, t22.2.2.2.2.2.2.2.2.2.2.2)) else none else none else k1 (t22.1, t22.2.2)
def Z3 k0 k1 := zh (@zB R k0 k1) zu
def Wh (x : List za) : Option yf3 :=
 Option.bind (z9 (x, (0 : Int), false)) fun r1 => Option.bind (yJ r1.2) fun r2 => Zo (fun x6 => Option.bind (yJ (x6.2.2.1, x6.2.2.2.1, x6.2.2.2.2.1)) fun r7 => Z1 (fun x10 => Z2 (fun x15 => Option.bind (yJ (x15.2.2.1, x15.2.2.2.1, x15.2.2.2.2.1)) fun r16 => Z3 (fun x23 => Option.bind (bif x23.2.2.2.2.1 then some true else some (x23.2.2.2.1 != (List.length x23.1 : Int))) fun u24 => Option.bind (bif u24 then some true else Option.bind (yF (x23.2.2.2.2.2.2.1, ([] : List y0), x23.2.2.2.2.2.2.2.1, x23.2.2.2.2.2.2.2.2.1, x23.2.2.2.2.2.2.2.2.2, x23.2.2.2.2.2.1)) fun r26 => some (!r26)) fun u25 => bif u25 then some (([] : List ye), ([] : List y0), ([] : List ya), ([] : List y8), ([] : List yf), (0 : Int), false) else some (x23.2.2.2.2.2.2.1, ([] : List y0), x23.2.2.2.2.2.2.2.1, x23.2.2.2.2.2.2.2.2.1, x23.2.2.2.2.2.2.2.2.2, x23.2.2.2.2.2.1, true)) (fun x27 => Option.bind (bif x27.2.2.2.2.1 then some true else some (x27.2.2.2.1 != (List.length x27.1 : Int))) fun u28 => Option.bind (bif u28 then some true else Option.bind (yF (x27.2.2.2.2.2.2.1, x27.2.2.2.2.2.2.2.1, x27.2.2.2.2.2.2.2.2.1, x27.2.2.2.2.2.2.2.2.2.1, x27.2.2.2.2.2.2.2.2.2.2, x27.2.2.2.2.2.1)) fun r30 => some (!r30)) fun u29 => bif u29 then some (([] : List ye), ([] : List y0), ([] : List ya), ([] : List y8), ([] : List yf), (0 : Int), false) else some (x27.2.2.2.2.2.2.1, x27.2.2.2.2.2.2.2.1, x27.2.2.2.2.2.2.2.2.1, x27.2.2.2.2.2.2.2.2.2.1, x27.2.2.2.2.2.2.2.2.2.2, x27.2.2.2.2.2.1, true)) (Sum.inl (x15.1, r16.1, x15.2.1, r16.2.1, r16.2.2.1, r16.2.2.2, x15.2.2.2.2.2))) (x10.1, (0 : Int), x10.2.1, x10.2.2.1, x10.2.2.2.1, x10.2.2.2.2.1, x10.2.2.2.2.2.1, x10.2.2.2.2.2.2.1, x10.2.2.2.2.2.2.2.1, x10.2.2.2.2.2.2.2.2.1, x10.2.2.2.2.2.2.2.2.2)) (x6.1, r7.1, x6.2.1, r7.2.1, r7.2.2.1, r7.2.2.2, x6.2.2.2.2.2)) (x, r2.1, (0 : Int), r2.2.1, r2.2.2.1, r2.2.2.2, r1.1, ([] : List ye), ([] : List ya), ([] : List y8), ([] : List yf))
def yh5 : List QF := [q95, yJj, yqf, yJl, yGQ, yJo]
def ycC (t : y5m) : St := ⟨wP t.1 :: .dead :: .box 2 0 :: .dead :: .box 17 0 :: .box 5 0 :: vI t.2.1 :: dd 139 [], [(2, .box [.nils, .nils, .nils, .nils, .nils, vI t.2.2.1]), (17, .box [wP t.2.2.2.1, vI t.2.2.2.2.1, vB t.2.2.2.2.2.1]), (5, .box [.own 10000000, .nils, .own 10000001, .own 10000002, .own 10000003, vI t.2.2.2.2.2.2.1]), (10000000, .root true 3 yh t.2.2.2.2.2.2.2.1), (10000001, .root true 146 ym t.2.2.2.2.2.2.2.2.1), (10000002, .root true 113 yd t.2.2.2.2.2.2.2.2.2.1), (10000003, .root true 46 yt t.2.2.2.2.2.2.2.2.2.2)]⟩
def yxR : Gk Ve := fun κ => YD (fun t => κ (some 0) ⟨wP t.1 :: .dead :: .box 2 0 :: .dead :: .box 17 0 :: .box 5 0 :: dd 140 [], [(2, .box [.nils, .nils, .nils, .nils, .nils, vI t.2.1]), (17, .box [wP t.2.2.1, vI t.2.2.2.1, vB t.2.2.2.2.1]), (5, .box [.own 10000000, .nils, .own 10000001, .own 10000002, .own 10000003, vI t.2.2.2.2.2.1]), (10000000, .root true 3 yh t.2.2.2.2.2.2.1), (10000001, .root true 146 ym t.2.2.2.2.2.2.2.1), (10000002, .root true 113 yd t.2.2.2.2.2.2.2.2.1), (10000003, .root true 46 yt t.2.2.2.2.2.2.2.2.2)]⟩)
def y9u (t : y5m) : St := ⟨wP t.1 :: .dead :: .box 2 0 :: .dead :: .box 17 0 :: .box 5 0 :: dd 2 (vI t.2.1 :: dd 137 []), [(2, .box [.nils, .nils, .nils, .nils, .nils, vI t.2.2.1]), (17, .box [wP t.2.2.2.1, vI t.2.2.2.2.1, vB t.2.2.2.2.2.1]), (5, .box [.own 10000000, .nils, .own 10000001, .own 10000002, .own 10000003, vI t.2.2.2.2.2.2.1]), (10000000, .root true 3 yh t.2.2.2.2.2.2.2.1), (10000001, .root true 146 ym t.2.2.2.2.2.2.2.2.1), (10000002, .root true 113 yd t.2.2.2.2.2.2.2.2.2.1), (10000003, .root true 46 yt t.2.2.2.2.2.2.2.2.2.2)]⟩
def yms : Gk ve := fun κ => Yg (fun t => κ (some 2) ⟨wP t.1 :: .dead :: .box 2 0 :: .dead :: .box 17 0 :: .box 5 0 :: dd 140 [], [(2, .box [.nils, .nils, .nils, .nils, .nils, vI t.2.1]), (17, .box [wP t.2.2.1, vI t.2.2.2.1, vB t.2.2.2.2.1]), (5, .box [.own 10000000, .nils, .own 10000001, .own 10000002, .own 10000003, vI t.2.2.2.2.2.1]), (10000000, .root true 3 yh t.2.2.2.2.2.2.1), (10000001, .root true 146 ym t.2.2.2.2.2.2.2.1), (10000002, .root true 113 yd t.2.2.2.2.2.2.2.2.1), (10000003, .root true 46 yt t.2.2.2.2.2.2.2.2.2)]⟩)
def y9v (t : y5m) : St := ⟨wP t.1 :: .dead :: .box 2 0 :: .dead :: .box 17 0 :: .box 5 0 :: dd 4 (vI t.2.1 :: dd 135 []), [(2, .box [.nils, .nils, .nils, .nils, .nils, vI t.2.2.1]), (17, .box [wP t.2.2.2.1, vI t.2.2.2.2.1, vB t.2.2.2.2.2.1]), (5, .box [.own 10000000, .nils, .own 10000001, .own 10000002, .own 10000003, vI t.2.2.2.2.2.2.1]), (10000000, .root true 3 yh t.2.2.2.2.2.2.2.1), (10000001, .root true 146 ym t.2.2.2.2.2.2.2.2.1), (10000002, .root true 113 yd t.2.2.2.2.2.2.2.2.2.1), (10000003, .root true 46 yt t.2.2.2.2.2.2.2.2.2.2)]⟩
def ymt : Gk vf := fun κ => Yh (fun t => κ (some 4) ⟨wP t.1 :: .dead :: .box 2 0 :: .dead :: .box 17 0 :: .box 5 0 :: dd 140 [], [(2, .box [.nils, .nils, .nils, .nils, .nils, vI t.2.1]), (17, .box [wP t.2.2.1, vI t.2.2.2.1, vB t.2.2.2.2.1]), (5, .box [.own 10000000, .nils, .own 10000001, .own 10000002, .own 10000003, vI t.2.2.2.2.2.1]), (10000000, .root true 3 yh t.2.2.2.2.2.2.1), (10000001, .root true 146 ym t.2.2.2.2.2.2.2.1), (10000002, .root true 113 yd t.2.2.2.2.2.2.2.2.1), (10000003, .root true 46 yt t.2.2.2.2.2.2.2.2.2)]⟩)
def y4D (t : y5m) : St := ⟨wP t.1 :: .dead :: .box 2 0 :: .dead :: .box 17 0 :: .box 5 0 :: dd 6 (vI t.2.1 :: dd 133 []), [(2, .box [.nils, .nils, .nils, .nils, .nils, vI t.2.2.1]), (17, .box [wP t.2.2.2.1, vI t.2.2.2.2.1, vB t.2.2.2.2.2.1]), (5, .box [.own 10000000, .nils, .own 10000001, .own 10000002, .own 10000003, vI t.2.2.2.2.2.2.1]), (10000000, .root true 3 yh t.2.2.2.2.2.2.2.1), (10000001, .root true 146 ym t.2.2.2.2.2.2.2.2.1), (10000002, .root true 113 yd t.2.2.2.2.2.2.2.2.2.1), (10000003, .root true 46 yt t.2.2.2.2.2.2.2.2.2.2)]⟩
theorem yjR : ∀ s t, unG yaS y4D s = some t → y4D t = s := yo fun t => by kernel_rfl
def y4E (t : ygt) : St := ⟨wP t.1 :: .dead :: .box 2 0 :: .dead :: .box 17 0 :: .box 5 0 :: dd 6 (vI t.2.1 :: dd 133 []), [(2, .box [.nils, .nils, .nils, .nils, .nils, vI t.2.2.1]), (17, .box [wP t.2.2.2.1, vI t.2.2.2.2.1, vB t.2.2.2.2.2.1]), (5, .box [.own 10000000, .own 10000001, .own 10000002, .own 10000003, .own 10000004, vI t.2.2.2.2.2.2.1]), (10000000, .root true 3 yh t.2.2.2.2.2.2.2.1), (10000001, .root true 140 yj t.2.2.2.2.2.2.2.2.1), (10000002, .root true 146 ym t.2.2.2.2.2.2.2.2.2.1), (10000003, .root true 113 yd t.2.2.2.2.2.2.2.2.2.2.1), (10000004, .root true 46 yt t.2.2.2.2.2.2.2.2.2.2.2)]⟩
theorem yjS : ∀ s t, unG ys7 y4E s = some t → y4E t = s := yo fun t => by kernel_rfl
def y4F : (y5m ⊕ ygt) → St := Sum.elim y4D y4E
def y9w (s : St) : Option (y5m ⊕ ygt) := ((unG yaS y4D s).map Sum.inl).or (((unG ys7 y4E) s).map Sum.inr)
theorem yjT : ∀ s t, y9w s = some t → y4F t = s := y5h yjR yjS
def ydV : Gk wK := fun κ => zB (fun t => κ (some 6) ⟨wP t.1 :: .dead :: .box 2 0 :: .dead :: .box 17 0 :: .box 5 0 :: dd 140 [], [(2, .box [.nils, .nils, .nils, .nils, .nils, vI t.2.1]), (17, .box [wP t.2.2.1, vI t.2.2.2.1, vB t.2.2.2.2.1]), (5, .box [.own 10000000, .nils, .own 10000001, .own 10000002, .own 10000003, vI t.2.2.2.2.2.1]), (10000000, .root true 3 yh t.2.2.2.2.2.2.1), (10000001, .root true 146 ym t.2.2.2.2.2.2.2.1), (10000002, .root true 113 yd t.2.2.2.2.2.2.2.2.1), (10000003, .root true 46 yt t.2.2.2.2.2.2.2.2.2)]⟩) (fun t => κ (some 6) ⟨wP t.1 :: .dead :: .box 2 0 :: .dead :: .box 17 0 :: .box 5 0 :: dd 140 [], [(2, .box [.nils, .nils, .nils, .nils, .nils, vI t.2.1]), (17, .box [wP t.2.2.1, vI t.2.2.2.1, vB t.2.2.2.2.1]), (5, .box [.own 10000000, .own 10000001, .own 10000002, .own 10000003, .own 10000004, vI t.2.2.2.2.2.1]), (10000000, .root true 3 yh t.2.2.2.2.2.2.1), (10000001, .root true 140 yj t.2.2.2.2.2.2.2.1), (10000002, .root true 146 ym t.2.2.2.2.2.2.2.2.1), (10000003, .root true 113 yd t.2.2.2.2.2.2.2.2.2.1), (10000004, .root true 46 yt t.2.2.2.2.2.2.2.2.2.2)]⟩)
def yh6 : Lp := lpC 22 y9w @ydV (lpC 15 (unG yaS y9v) @ymt (lpC 10 (unG yaS y9u) @yms (lpC 4 (unG yaS ycC) @yxR lpN)))
theorem yEf : LF yh5 yh6 54 4 Tryz.f54 0 ycC @yxR fun t => t := fun R κ again t => by kernel_rfl
theorem yEg : LK yh5 yh6 54 Tryz.f54 0 := lkN (u := (unG yaS ycC)) (yo fun t => by kernel_rfl) yEf
theorem yxS : LF yh5 yh6 54 10 Tryz.f54 1 y9u @yms fun t => t := fun R κ again t => by kernel_rfl
theorem yxT : LK yh5 yh6 54 Tryz.f54 1 := lkN (u := (unG yaS y9u)) (yo fun t => by kernel_rfl) yxS
theorem yxU : LF yh5 yh6 54 15 Tryz.f54 2 y9v @ymt fun t => t := fun R κ again t => by kernel_rfl
theorem yxV : LK yh5 yh6 54 Tryz.f54 2 := lkN (u := (unG yaS y9v)) (yo fun t => by kernel_rfl) yxU
theorem yjU : LF yh5 yh6 54 22 Tryz.f54 3 y4F @ydV fun v : y5m => .inl v := fun R κ again v => by kernel_rfl
theorem yjV : LF yh5 yh6 54 22 Tryz.f54 3 y4F @ydV fun v : ygt => .inr v := fun R κ again v => by kernel_rfl
theorem yxW : LF yh5 yh6 54 22 Tryz.f54 3 y4F @ydV fun t => t := (LC.sum yjU yjV)
theorem yxX : LK yh5 yh6 54 Tryz.f54 3 := lkN (u := y9w) yjT yxW
theorem yJp : EV yh5 yh6 54 Tryz.f54 yGl [(.sl 5 yu)] yf4 Wh := fun x => by kernel_rfl
def q54 : QF := ⟨54, Wh, okN (n := 4) Tryz.func54 ⟨yEg, yxT, yxV, yxX, trivial⟩ yJp⟩
def Ze (x : List za) : Option yzl :=
 Option.bind (WK x) fun r1 => Option.bind (jS (x, (12 : Int))) fun r2 => Option.bind (jV (r1.1, r1.2.1, r1.2.2, r2)) fun r3 => Option.bind (yq (r3.1, r3.2.1, r3.2.2.1, r3.2.2.2.1, r3.2.2.2.2.1, r3.2.2.2.2.2.1)) fun r4 => Option.bind (yb (r3.2.2.2.2.2.2.1, r3.2.2.2.2.2.2.2.1, r3.2.2.2.2.2.2.2.2, (6 : Int))) fun r5 => bif (r5.1 == (0 : Int)) then Option.bind (jV (r5.2.1, r5.2.2.1, r5.2.2.2, (6 : Int))) fun r6 => some (r3.1, r3.2.1, r3.2.2.1, r3.2.2.2.1, r3.2.2.2.2.1, r3.2.2.2.2.2.1, r6.1, r6.2.1, r6.2.2.1, r6.2.2.2.1, r6.2.2.2.2.1, r6.2.2.2.2.2.1) else bif (r5.1 == (1 : Int)) then some (r3.1, r3.2.1, r3.2.2.1, r3.2.2.2.1, r3.2.2.2.2.1, r3.2.2.2.2.2.1, r4.1, r4.2.1, r4.2.2.1, r4.2.2.2.1, r4.2.2.2.2.1, (Go.IntKind.wrap .i64 (r4.2.2.2.2.2 + (1 : Int)))) else bif (r5.1 == (2 : Int)) then bif (decide ((List.length r4.2.2.2.1 : Int) > (0 : Int))) then if (0 : Int) ≤ (0 : Int) then if (0 : Int) < (List.length r4.2.2.2.1 : Int) then if (0 : Int) ≤ (0 : Int) then if (0 : Int) < (List.length r4.2.2.2.1 : Int) then some (r3.1, r3.2.1, r3.2.2.1, r3.2.2.2.1, r3.2.2.2.2.1, r3.2.2.2.2.2.1, r4.1, r4.2.1, r4.2.2.1, (List.set r4.2.2.2.1 (Int.toNat (0 : Int)) ((Go.IntKind.wrap .i64 ((yp r4.2.2.2.1 (0 : Int)).1 + (1 : Int))), (yp r4.2.2.2.1 (0 : Int)).2)), r4.2.2.2.2.1, r4.2.2.2.2.2) else none else none else none else none else some (r3.1, r3.2.1, r3.2.2.1, r3.2.2.2.1, r3.2.2.2.2.1, r3.2.2.2.2.2.1, r4) else bif (r5.1 == (3 : Int)) then bif (decide ((List.length r4.2.2.2.2.1 : Int) > (0 : Int))) then if (0 : Int) ≤ (0 : Int) then if (0 : Int) < (List.length r4.2.2.2.2.1 : Int) then if (0 : Int) ≤ (0 : Int) then if (0 : Int) < (List.length r4.2.2.2.2.1 : Int) then some (r3.1, r3.2.1, r3.2.2.1, r3.2.2.2.1, r3.2.2.2.2.1, r3.2.2.2.2.2.1, r4.1, r4.2.1, r4.2.2.1, r4.2.2.2.1, (List.set r4.2.2.2.2.1 (Int.toNat (0 : Int)) ((yl r4.2.2.2.2.1 (0 : Int)).1, (yl r4.2.2.2.2.1 (0 : Int)).2.1, (Go.IntKind.wrap .i64 ((yl r4.2.2.2.2.1 (0 : Int)).2.2.1 + (1 : Int))), (yl r4.2.2.2.2.1 (0 : Int)).2.2.2)), r4.2.2.2.2.2) else none else none else none else none else some (r3.1, r3.2.1, r3.2.2.1, r3.2.2.2.1, r3.2.2.2.2.1, r3.2.2.2.2.2.1, r4) else some (r3.1, r3.2.1, r3.2.2.1, r3.2.2.2.1, r3.2.2.2.2.1, r3.2.2.2.2.2.1, r4)
theorem yJq : EV [q94, yCk, yCm, y5o, yGN] lpN 55 Tryz.f55 yGm [(.sl 5 yu)] yzm Ze := fun x => by kernel_rfl
def q55 : QF := ⟨55, Ze, okN (n := 0) Tryz.func55 trivial yJq⟩
abbrev wT : Type := ys8
def YM (k0 : Bool → Option R) (k1 : Unit → Option R) (again : wT → Option R) (t4 : wT) : Option R :=
 bif (decide (t4.2.2.2 < t4.2.2.1)) then if (0 : Int) ≤ t4.2.2.2 then if t4.2.2.2 < (List.length t4.1 : Int) then if (0 : Int) ≤ t4.2.2.2 then if t4.2.2.2 < (List.length t4.2.1 : Int) then bif ((zL t4.1 t4.2.2.2) != (zL t4.2.1 t4.2.2.2)) then k0 false else again (t4.1, t4.2.1, t4.2.2.1, (Go.IntKind.wrap .i64 (t4.2.2.2 + (1 : Int)))) else none else none else none else none else k1 ()
def Vi k0 k1 := zh (@YM R k0 k1) zu
def ZH (x : Qz1) : Option Bool :=
 bif ((List.length x.1 : Int) != (List.length x.2 : Int)) then some false else Vi (fun x1 => some x1) (fun x2 => some true) (x.1, x.2, (List.length x.1 : Int), (0 : Int))
def ypy : List QF := []
def y9x (t : ys8) : St := ⟨zc t.1 :: zc t.2.1 :: dd 10 (vI t.2.2.1 :: vI t.2.2.2 :: dd 12 []), []⟩
def ymu : Gk wT := fun κ => YM (fun t => κ none ⟨dd 4 (vB t :: dd 21 []), []⟩) (fun t => κ (some 0) ⟨dd 26 [], []⟩)
def ypz : Lp := lpC 4 (unG ys9 y9x) @ymu lpN
theorem yxY : LF ypy ypz 166 4 Tryz.f166 0 y9x @ymu fun t => t := fun R κ again t => by kernel_rfl
theorem yxZ : LK ypy ypz 166 Tryz.f166 0 := lkN (u := (unG ys9 y9x)) (yo fun t => by kernel_rfl) yxY
theorem yEh : EV ypy ypz 166 Tryz.f166 yuR qz1 [.bool] ZH := fun x => by kernel_rfl
def yJr : QF := ⟨166, ZH, okN (n := 1) Tryz.func166 ⟨yxZ, trivial⟩ yEh⟩
abbrev wU : Type := yyA
def YN (k0 : Bool → Option R) (k1 : Unit → Option R) (again : wU → Option R) (t4 : wU) : Option R :=
 bif (decide (t4.2.2.2 < t4.2.2.1)) then if (0 : Int) ≤ t4.2.2.2 then if t4.2.2.2 < (List.length t4.1 : Int) then if (0 : Int) ≤ t4.2.2.2 then if t4.2.2.2 < (List.length t4.2.1 : Int) then bif (!(((y6 t4.1 t4.2.2.2).1 == (y6 t4.2.1 t4.2.2.2).1) && (((y6 t4.1 t4.2.2.2).2.1 == (y6 t4.2.1 t4.2.2.2).2.1) && (((y6 t4.1 t4.2.2.2).2.2.1 == (y6 t4.2.1 t4.2.2.2).2.2.1) && (((y6 t4.1 t4.2.2.2).2.2.2.1 == (y6 t4.2.1 t4.2.2.2).2.2.2.1) && (((y6 t4.1 t4.2.2.2).2.2.2.2 == (y6 t4.2.1 t4.2.2.2).2.2.2.2) && true)))))) then k0 false else again (t4.1, t4.2.1, t4.2.2.1, (Go.IntKind.wrap .i64 (t4.2.2.2 + (1 : Int)))) else none else none else none else none else k1 ()
def Vj k0 k1 := zh (@YN R k0 k1) zu
def ZI (x : Qz3) : Option Bool :=
 bif ((List.length x.1 : Int) != (List.length x.2 : Int)) then some false else Vj (fun x1 => some x1) (fun x2 => some true) (x.1, x.2, (List.length x.1 : Int), (0 : Int))
def ypA : List QF := []
def y9y (t : yyA) : St := ⟨qx t.1 :: qx t.2.1 :: dd 10 (vI t.2.2.1 :: vI t.2.2.2 :: dd 12 []), []⟩
def ymv : Gk wU := fun κ => YN (fun t => κ none ⟨dd 4 (vB t :: dd 21 []), []⟩) (fun t => κ (some 0) ⟨dd 26 [], []⟩)
def ypB : Lp := lpC 4 (unG yyB y9y) @ymv lpN
theorem yy0 : LF ypA ypB 282 4 Tryz.f282 0 y9y @ymv fun t => t := fun R κ again t => by kernel_rfl
theorem yy1 : LK ypA ypB 282 Tryz.f282 0 := lkN (u := (unG yyB y9y)) (yo fun t => by kernel_rfl) yy0
theorem yEi : EV ypA ypB 282 Tryz.f282 yuS qz3 [.bool] ZI := fun x => by kernel_rfl
def yJs : QF := ⟨282, ZI, okN (n := 1) Tryz.func282 ⟨yy1, trivial⟩ yEi⟩
def wL (x : Qz3) : Option Bool :=
 Option.bind (ZI x) fun r1 => some r1
theorem yEj : EV [yJs] lpN 281 Tryz.f281 yuT qz3 [.bool] wL := fun x => by kernel_rfl
def yJt : QF := ⟨281, wL, okN (n := 0) Tryz.func281 trivial yEj⟩
abbrev zE : Type := ysa
def yN (k0 : Bool → Option R) (k1 : Unit → Option R) (again : zE → Option R) (t4 : zE) : Option R :=
 bif (decide (t4.2.2.2 < t4.2.2.1)) then if (0 : Int) ≤ t4.2.2.2 then if t4.2.2.2 < (List.length t4.2.1 : Int) then if (0 : Int) ≤ t4.2.2.2 then if t4.2.2.2 < (List.length t4.1 : Int) then Option.bind (wL ((yr t4.2.1 t4.2.2.2), (yr t4.1 t4.2.2.2))) fun r1 => bif (!r1) then k0 false else again (t4.1, t4.2.1, t4.2.2.1, (Go.IntKind.wrap .i64 (t4.2.2.2 + (1 : Int)))) else none else none else none else none else k1 ()
def Yk k0 k1 := zh (@yN R k0 k1) zu
def yW (x : Qz5) : Option Bool :=
 bif ((List.length x.1 : Int) != (List.length x.2 : Int)) then some false else Yk (fun x2 => some x2) (fun x3 => some true) (x.2, x.1, (List.length x.1 : Int), (0 : Int))
def y9z : List QF := [yJt]
def y26 (t : ysa) : St := ⟨.dead :: Yc t.1 :: .fn 281 :: dd 12 (Yc t.2.1 :: vI t.2.2.1 :: vI t.2.2.2 :: dd 14 []), []⟩
def yaV : Gk zE := fun κ => yN (fun t => κ none ⟨dd 6 (vB t :: dd 25 []), []⟩) (fun t => κ (some 0) ⟨dd 32 [], []⟩)
def y9A : Lp := lpC 4 (unG ysb y26) @yaV lpN
theorem yh7 : LF y9z y9A 100003 4 Tryz.f280 0 y26 @yaV fun t => t := fun R κ again t => by kernel_rfl
theorem yh8 : LK y9z y9A 100003 Tryz.f280 0 := lkN (u := (unG ysb y26)) (yo fun t => by kernel_rfl) yh7
theorem yjW : EV y9z y9A 100003 Tryz.f280 ydK qz5 [.bool] yW := fun x => by kernel_rfl
def ypC : QF := ⟨100003, yW, okN (n := 1) Tryz.func280 ⟨yh8, trivial⟩ yjW⟩
def wi (x : Qz5) : Option Bool :=
 Option.bind (yW x) fun r1 => some r1
theorem yEk : EV [ypC] lpN 168 Tryz.f168 yuU qz5 [.bool] wi := fun x => by kernel_rfl
def yJu : QF := ⟨168, wi, okN (n := 0) Tryz.func168 trivial yEk⟩
abbrev wV : Type := yyF
def YO (k0 : Bool → Option R) (k1 : Unit → Option R) (again : wV → Option R) (t4 : wV) : Option R :=
 bif (decide (t4.2.2.2 < t4.2.2.1)) then if (0 : Int) ≤ t4.2.2.2 then if t4.2.2.2 < (List.length t4.1 : Int) then if (0 : Int) ≤ t4.2.2.2 then if t4.2.2.2 < (List.length t4.2.1 : Int) then bif (!(((yG t4.1 t4.2.2.2).1 == (yG t4.2.1 t4.2.2.2).1) && (((yG t4.1 t4.2.2.2).2 == (yG t4.2.1 t4.2.2.2).2) && true))) then k0 false else again (t4.1, t4.2.1, t4.2.2.1, (Go.IntKind.wrap .i64 (t4.2.2.2 + (1 : Int)))) else none else none else none else none else k1 ()
def Vk k0 k1 := zh (@YO R k0 k1) zu
def ZJ (x : Qz9) : Option Bool :=
 bif ((List.length x.1 : Int) != (List.length x.2 : Int)) then some false else Vk (fun x1 => some x1) (fun x2 => some true) (x.1, x.2, (List.length x.1 : Int), (0 : Int))
def ypD : List QF := []
def y9B (t : yyF) : St := ⟨zk t.1 :: zk t.2.1 :: dd 10 (vI t.2.2.1 :: vI t.2.2.2 :: dd 12 []), []⟩
def ymw : Gk wV := fun κ => YO (fun t => κ none ⟨dd 4 (vB t :: dd 21 []), []⟩) (fun t => κ (some 0) ⟨dd 26 [], []⟩)
def ypE : Lp := lpC 4 (unG yyG y9B) @ymw lpN
theorem yy2 : LF ypD ypE 169 4 Tryz.f169 0 y9B @ymw fun t => t := fun R κ again t => by kernel_rfl
theorem yy3 : LK ypD ypE 169 Tryz.f169 0 := lkN (u := (unG yyG y9B)) (yo fun t => by kernel_rfl) yy2
theorem yEl : EV ypD ypE 169 Tryz.f169 yuV qz9 [.bool] ZJ := fun x => by kernel_rfl
def yJv : QF := ⟨169, ZJ, okN (n := 1) Tryz.func169 ⟨yy3, trivial⟩ yEl⟩
abbrev wj : Type := yyI
def Yt (k0 : Bool → Option R) (k1 : Unit → Option R) (again : wj → Option R) (t4 : wj) : Option R :=
 bif (decide (t4.2.2.2 < t4.2.2.1)) then if (0 : Int) ≤ t4.2.2.2 then if t4.2.2.2 < (List.length t4.1 : Int) then if (0 : Int) ≤ t4.2.2.2 then if t4.2.2.2 < (List.length t4.2.1 : Int) then bif (!(((yp t4.1 t4.2.2.2).1 == (yp t4.2.1 t4.2.2.2).1) && (((yp t4.1 t4.2.2.2).2.1 == (yp t4.2.1 t4.2.2.2).2.1) && (((yp t4.1 t4.2.2.2).2.2 == (yp t4.2.1 t4.2.2.2).2.2) && true)))) then k0 false else again (t4.1, t4.2.1, t4.2.2.1, (Go.IntKind.wrap .i64 (t4.2.2.2 + (1 : Int)))) else none else none else none else none else k1 ()
def vR k0 k1 := zh (@Yt R k0 k1) zu
def Yi (x : yEN) : Option Bool :=
 bif ((List.length x.1 : Int) != (List.length x.2 : Int)) then some false else vR (fun x1 => some x1) (fun x2 => some true) (x.1, x.2, (List.length x.1 : Int), (0 : Int))
def ypF : List QF := []
def y9C (t : yyI) : St := ⟨yI t.1 :: yI t.2.1 :: dd 10 (vI t.2.2.1 :: vI t.2.2.2 :: dd 12 []), []⟩
def ymx : Gk wj := fun κ => Yt (fun t => κ none ⟨dd 4 (vB t :: dd 21 []), []⟩) (fun t => κ (some 0) ⟨dd 26 [], []⟩)
def ypG : Lp := lpC 4 (unG yyJ y9C) @ymx lpN
theorem yy4 : LF ypF ypG 170 4 Tryz.f170 0 y9C @ymx fun t => t := fun R κ again t => by kernel_rfl
theorem yy5 : LK ypF ypG 170 Tryz.f170 0 := lkN (u := (unG yyJ y9C)) (yo fun t => by kernel_rfl) yy4
theorem yEm : EV ypF ypG 170 Tryz.f170 yuW yEO [.bool] Yi := fun x => by kernel_rfl
def yJw : QF := ⟨170, Yi, okN (n := 1) Tryz.func170 ⟨yy5, trivial⟩ yEm⟩
abbrev wW : Type := ysc
def YP (k0 : Bool → Option R) (k1 : Unit → Option R) (again : wW → Option R) (t4 : wW) : Option R :=
 bif (decide (t4.2.2.2 < t4.2.2.1)) then if (0 : Int) ≤ t4.2.2.2 then if t4.2.2.2 < (List.length t4.1 : Int) then if (0 : Int) ≤ t4.2.2.2 then if t4.2.2.2 < (List.length t4.2.1 : Int) then bif (!((ByteArray.toList ((yl t4.1 t4.2.2.2).1) == ByteArray.toList ((yl t4.2.1 t4.2.2.2).1)) && (((yl t4.1 t4.2.2.2).2.1 == (yl t4.2.1 t4.2.2.2).2.1) && (((yl t4.1 t4.2.2.2).2.2.1 == (yl t4.2.1 t4.2.2.2).2.2.1) && (((yl t4.1 t4.2.2.2).2.2.2 == (yl t4.2.1 t4.2.2.2).2.2.2) && true))))) then k0 false else again (t4.1, t4.2.1, t4.2.2.1, (Go.IntKind.wrap .i64 (t4.2.2.2 + (1 : Int)))) else none else none else none else none else k1 ()
def Vl k0 k1 := zh (@YP R k0 k1) zu
def YA (x : yAF) : Option Bool :=
 bif ((List.length x.1 : Int) != (List.length x.2 : Int)) then some false else Vl (fun x1 => some x1) (fun x2 => some true) (x.1, x.2, (List.length x.1 : Int), (0 : Int))
def ypH : List QF := []
def y9D (t : ysc) : St := ⟨zM t.1 :: zM t.2.1 :: dd 10 (vI t.2.2.1 :: vI t.2.2.2 :: dd 12 []), []⟩
def ymy : Gk wW := fun κ => YP (fun t => κ none ⟨dd 4 (vB t :: dd 21 []), []⟩) (fun t => κ (some 0) ⟨dd 26 [], []⟩)
def ypI : Lp := lpC 4 (unG ysd y9D) @ymy lpN
theorem yy6 : LF ypH ypI 171 4 Tryz.f171 0 y9D @ymy fun t => t := fun R κ again t => by kernel_rfl
theorem yy7 : LK ypH ypI 171 Tryz.f171 0 := lkN (u := (unG ysd y9D)) (yo fun t => by kernel_rfl) yy6
theorem yEn : EV ypH ypI 171 Tryz.f171 yuX yAG [.bool] YA := fun x => by kernel_rfl
def yJx : QF := ⟨171, YA, okN (n := 1) Tryz.func171 ⟨yy7, trivial⟩ yEn⟩
abbrev zH : Type := yse
def yR (k0 : Bool → Option R) (k1 : Unit → Option R) (again : zH → Option R) (t4 : zH) : Option R :=
 bif (decide (t4.2.2.2 < t4.2.2.1)) then if (0 : Int) ≤ t4.2.2.2 then if t4.2.2.2 < (List.length t4.2.1 : Int) then if (0 : Int) ≤ t4.2.2.2 then if t4.2.2.2 < (List.length t4.1 : Int) then Option.bind (wi ((yg t4.2.1 t4.2.2.2), (yg t4.1 t4.2.2.2))) fun r1 => bif (!r1) then k0 false else again (t4.1, t4.2.1, t4.2.2.1, (Go.IntKind.wrap .i64 (t4.2.2.2 + (1 : Int)))) else none else none else none else none else k1 ()
def Yu k0 k1 := zh (@yR R k0 k1) zu
def z5 (x : yAH) : Option Bool :=
 bif ((List.length x.1 : Int) != (List.length x.2 : Int)) then some false else Yu (fun x2 => some x2) (fun x3 => some true) (x.2, x.1, (List.length x.1 : Int), (0 : Int))
def y9E : List QF := [yJu]
def y27 (t : yse) : St := ⟨.dead :: yw t.1 :: .fn 168 :: dd 12 (yw t.2.1 :: vI t.2.2.1 :: vI t.2.2.2 :: dd 14 []), []⟩
def yaW : Gk zH := fun κ => yR (fun t => κ none ⟨dd 6 (vB t :: dd 25 []), []⟩) (fun t => κ (some 0) ⟨dd 32 [], []⟩)
def y9F : Lp := lpC 4 (unG ysf y27) @yaW lpN
theorem yh9 : LF y9E y9F 100004 4 Tryz.f167 0 y27 @yaW fun t => t := fun R κ again t => by kernel_rfl
theorem yha : LK y9E y9F 100004 Tryz.f167 0 := lkN (u := (unG ysf y27)) (yo fun t => by kernel_rfl) yh9
theorem yjX : EV y9E y9F 100004 Tryz.f167 ydL yAI [.bool] z5 := fun x => by kernel_rfl
def ypJ : QF := ⟨100004, z5, okN (n := 1) Tryz.func167 ⟨yha, trivial⟩ yjX⟩
def wk (x : yzl) : Option Bool :=
 Option.bind (ZH (x.1, x.2.2.2.2.2.2.1)) fun r1 => bif r1 then Option.bind (z5 (x.2.1, x.2.2.2.2.2.2.2.1)) fun r2 => Option.bind (bif r2 then Option.bind (ZJ (x.2.2.1, x.2.2.2.2.2.2.2.2.1)) fun r4 => some r4 else some false) fun u3 => Option.bind (bif u3 then Option.bind (Yi (x.2.2.2.1, x.2.2.2.2.2.2.2.2.2.1)) fun r6 => some r6 else some false) fun u5 => Option.bind (bif u5 then Option.bind (YA (x.2.2.2.2.1, x.2.2.2.2.2.2.2.2.2.2.1)) fun r8 => some r8 else some false) fun u7 => Option.bind (bif u7 then some (x.2.2.2.2.2.1 == x.2.2.2.2.2.2.2.2.2.2.2) else some false) fun u9 => some u9 else Option.bind (some false) fun u10 => Option.bind (bif u10 then Option.bind (Yi (x.2.2.2.1, x.2.2.2.2.2.2.2.2.2.1)) fun r12 => some r12 else some false) fun u11 => Option.bind (bif u11 then Option.bind (YA (x.2.2.2.2.1, x.2.2.2.2.2.2.2.2.2.2.1)) fun r14 => some r14 else some false) fun u13 => Option.bind (bif u13 then some (x.2.2.2.2.2.1 == x.2.2.2.2.2.2.2.2.2.2.2) else some false) fun u15 => some u15
theorem yJy : EV [yJr, yJv, yJw, yJx, ypJ] lpN 56 Tryz.f56 yGn yzm [.bool] wk := fun x => by kernel_rfl
def q56 : QF := ⟨56, wk, okN (n := 0) Tryz.func56 trivial yJy⟩
def Zf (x : List za) : Option Bool :=
 Option.bind (y1x x) fun r1 => bif r1 then some true else Option.bind (ZD x) fun r2 => Option.bind (YY r2) fun r3 => Option.bind (ZE x) fun r4 => Option.bind (ZX r4) fun r5 => Option.bind (Wh r4) fun r6 => Option.bind (Ze x) fun r7 => Option.bind (bif (!(r5.2.2.2.2.2.2 == r6.2.2.2.2.2.2)) then some true else Option.bind (bif r5.2.2.2.2.2.2 then Option.bind (Ym (r5.1, r5.2.1, r5.2.2.1, r5.2.2.2.1, r5.2.2.2.2.1, r5.2.2.2.2.2.1)) fun r10 => Option.bind (bif (!r10) then some true else Option.bind (YY (r5.1, r5.2.1, r5.2.2.1, r5.2.2.2.1, r5.2.2.2.2.1, r5.2.2.2.2.2.1)) fun r12 => some (!((ByteArray.toList (WF r12)) == (ByteArray.toList (WF r4))))) fun u11 => some u11 else some false) fun u9 => some u9) fun u8 => Option.bind (bif u8 then some true else Option.bind (wk r7) fun r14 => Option.bind (Z5 r7) fun r15 => some (!(r14 == r15))) fun u13 => bif u13 then some false else Option.bind (Ym r2) fun r16 => bif (!r16) then some ((List.length r3 : Int) == (0 : Int)) else Option.bind (ZX r3) fun r17 => Option.bind (bif r17.2.2.2.2.2.2 then Option.bind (Z5 (r17.1, r17.2.1, r17.2.2.1, r17.2.2.2.1, r17.2.2.2.2.1, r17.2.2.2.2.2.1, r2)) fun r19 => some r19 else some false) fun u18 => Option.bind (bif u18 then some (decide ((List.length r3 : Int) ≤ (1680 : Int))) else some false) fun u20 => some u20
theorem ev6 : EV [q9, q17, q30, q50, q51, q52, q53, q54, q55, q56] lpN 6 Tryz.f6 sg6 [(.sl 5 yu)] [.bool] Zf := fun x => by kernel_rfl
def q6 : QF := ⟨6, Zf, okN (n := 0) Tryz.func6 trivial ev6⟩
end
end Go.Proofs.YthgdjjdigalckaaGreat.XI
