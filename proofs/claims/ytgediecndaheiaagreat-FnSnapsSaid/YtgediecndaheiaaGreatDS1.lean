/- What functions compute, and that they do; part 1 of S; by a program (dec.py). No condition. -/
import Derived.Test.YtgediecndaheiaaGreatDS0
set_option linter.all false
namespace Go.Proofs.YtgediecndaheiaaGreat.XS
open Go.Proofs.YtgediecndaheiaaGreat.R
set_option maxRecDepth 100000
noncomputable section
variable {R : Type}
abbrev K0 : Type := ynd
def ja (k0 : Bool → Option R) (k1 : Unit → Option R) (again : K0 → Option R) (t4 : K0) : Option R :=
 bif (decide (t4.2.2 < (List.length t4.1 : Int))) then if (0 : Int) ≤ t4.2.2 then if t4.2.2 < (List.length t4.1 : Int) then if (0 : Int) ≤ t4.2.2 then if t4.2.2 < (List.length t4.2.1 : Int) then bif (!(((y6 t4.1 t4.2.2).1 == (y6 t4.2.1 t4.2.2).1) && (((y6 t4.1 t4.2.2).2.1 == (y6 t4.2.1 t4.2.2).2.1) && (((y6 t4.1 t4.2.2).2.2.1 == (y6 t4.2.1 t4.2.2).2.2.1) && (((y6 t4.1 t4.2.2).2.2.2.1 == (y6 t4.2.1 t4.2.2).2.2.2.1) && (((y6 t4.1 t4.2.2).2.2.2.2 == (y6 t4.2.1 t4.2.2).2.2.2.2) && true)))))) then k0 false else again (t4.1, t4.2.1, (Go.IntKind.wrap .i64 (t4.2.2 + (1 : Int)))) else none else none else none else none else k1 ()
def qj k0 k1 := zV (@ja R k0 k1) Yg
def JG (x : ysF) : Option Bool :=
 bif ((List.length x.1 : Int) != (List.length x.2 : Int)) then some false else qj (fun x1 => some x1) (fun x2 => some true) (x.1, x.2, (0 : Int))
def ywt : List QF := []
def yaB (t : ynd) : St := ⟨qI t.1 :: qI t.2.1 :: dd 3 (vI t.2.2 :: dd 20 []), []⟩
def yr6 : Gk K0 := fun κ => ja (fun t => κ none ⟨dd 4 (vB t :: dd 21 []), []⟩) (fun t => κ (some 0) ⟨dd 26 [], []⟩)
def ywu : Lp := lpC 4 (unG yne yaB) @yr6 lpN
theorem ywv : LF ywt ywu 91 4 Tryz.f91 0 yaB @yr6 fun t => t := fun R κ again t => by kernel_rfl
theorem yww : LK ywt ywu 91 Tryz.f91 0 := lkN (u := (unG yne yaB)) (yu fun t => by kernel_rfl) ywv
theorem yCc : EV ywt ywu 91 Tryz.f91 yzw ysG [.bool] JG := fun x => by kernel_rfl
def q91 : QF := ⟨91, JG, okN (n := 1) Tryz.func91 ⟨yww, trivial⟩ yCc⟩
abbrev K1 : Type := yjt
def jb (k0 : Bool → Option R) (k1 : Unit → Option R) (again : K1 → Option R) (t4 : K1) : Option R :=
 bif (decide (t4.1 < (List.length t4.2.1 : Int))) then if (0 : Int) ≤ t4.1 then if t4.1 < (List.length t4.2.1 : Int) then if (0 : Int) ≤ t4.1 then if t4.1 < (List.length t4.2.2 : Int) then Option.bind (JG ((ym t4.2.1 t4.1), (ym t4.2.2 t4.1))) fun r1 => bif (!r1) then k0 false else again ((Go.IntKind.wrap .i64 (t4.1 + (1 : Int))), t4.2.1, t4.2.2) else none else none else none else none else k1 ()
def qk k0 k1 := zV (@jb R k0 k1) Yg
def JH (x : ytb) : Option Bool :=
 bif ((List.length x.1 : Int) != (List.length x.2 : Int)) then some false else qk (fun x2 => some x2) (fun x3 => some true) ((0 : Int), x.1, x.2)
def ywx : List QF := [q91]
def yaC (t : yjt) : St := ⟨dd 2 (.box 2 0 :: .box 3 0 :: .dead :: vI t.1 :: dd 26 []), [(2, .box [YA t.2.1]), (3, .box [YA t.2.2])]⟩
def yr7 : Gk K1 := fun κ => jb (fun t => κ none ⟨dd 4 (vB t :: dd 27 []), []⟩) (fun t => κ (some 0) ⟨dd 32 [], []⟩)
def ywy : Lp := lpC 4 (unG ys7 yaC) @yr7 lpN
theorem ywz : LF ywx ywy 58 4 Tryz.f58 0 yaC @yr7 fun t => t := fun R κ again t => by kernel_rfl
theorem ywA : LK ywx ywy 58 Tryz.f58 0 := lkN (u := (unG ys7 yaC)) (yu fun t => by kernel_rfl) ywz
theorem yCd : EV ywx ywy 58 Tryz.f58 yzx ytc [.bool] JH := fun x => by kernel_rfl
def q58 : QF := ⟨58, JH, okN (n := 1) Tryz.func58 ⟨ywA, trivial⟩ yCd⟩
abbrev K2 : Type := yju
def jc (k0 : Bool → Option R) (k1 : Unit → Option R) (again : K2 → Option R) (t4 : K2) : Option R :=
 bif (decide (t4.1 < (List.length t4.2.2.1 : Int))) then if (0 : Int) ≤ t4.1 then if t4.1 < (List.length t4.2.2.1 : Int) then if (0 : Int) ≤ t4.1 then if t4.1 < (List.length t4.2.2.2.2 : Int) then Option.bind (JH ((ye t4.2.2.1 t4.1), (ye t4.2.2.2.2 t4.1))) fun r3 => bif (!r3) then k0 false else again ((Go.IntKind.wrap .i64 (t4.1 + (1 : Int))), t4.2.1, t4.2.2.1, t4.2.2.2.1, t4.2.2.2.2) else none else none else none else none else k1 ()
def qm k0 k1 := zV (@jc R k0 k1) Yg
def JI (x : ytd) : Option Bool :=
 Option.bind (YC (x.1, x.2.2.1)) fun r1 => Option.bind (bif (!r1) then some true else some ((List.length x.2.1 : Int) != (List.length x.2.2.2 : Int))) fun u2 => bif u2 then some false else qm (fun x4 => some x4) (fun x5 => some true) ((0 : Int), x.1, x.2.1, x.2.2.1, x.2.2.2)
def ywB : List QF := [q13, q58]
def yaD (t : yju) : St := ⟨dd 2 (.box 2 0 :: .box 3 0 :: .dead :: vI t.1 :: dd 34 []), [(2, .box [zj t.2.1, yJ t.2.2.1]), (3, .box [zj t.2.2.2.1, yJ t.2.2.2.2])]⟩
def yr8 : Gk K2 := fun κ => jc (fun t => κ none ⟨dd 4 (vB t :: dd 35 []), []⟩) (fun t => κ (some 0) ⟨dd 40 [], []⟩)
def ywC : Lp := lpC 4 (unG ys8 yaD) @yr8 lpN
theorem ywD : LF ywB ywC 27 4 Tryz.f27 0 yaD @yr8 fun t => t := fun R κ again t => by kernel_rfl
theorem ywE : LK ywB ywC 27 Tryz.f27 0 := lkN (u := (unG ys8 yaD)) (yu fun t => by kernel_rfl) ywD
theorem yCe : EV ywB ywC 27 Tryz.f27 yzy yte [.bool] JI := fun x => by kernel_rfl
def q27 : QF := ⟨27, JI, okN (n := 1) Tryz.func27 ⟨ywE, trivial⟩ yCe⟩
abbrev K3 : Type := ynf
def jd (k0 : Bool → Option R) (k1 : Unit → Option R) (again : K3 → Option R) (t4 : K3) : Option R :=
 bif (decide (t4.2.2 < (List.length t4.1 : Int))) then if (0 : Int) ≤ t4.2.2 then if t4.2.2 < (List.length t4.1 : Int) then if (0 : Int) ≤ t4.2.2 then if t4.2.2 < (List.length t4.2.1 : Int) then bif (!(((yM t4.1 t4.2.2).1 == (yM t4.2.1 t4.2.2).1) && (((yM t4.1 t4.2.2).2 == (yM t4.2.1 t4.2.2).2) && true))) then k0 false else again (t4.1, t4.2.1, (Go.IntKind.wrap .i64 (t4.2.2 + (1 : Int)))) else none else none else none else none else k1 ()
def qn k0 k1 := zV (@jd R k0 k1) Yg
def JJ (x : ytf) : Option Bool :=
 bif ((List.length x.1 : Int) != (List.length x.2 : Int)) then some false else qn (fun x1 => some x1) (fun x2 => some true) (x.1, x.2, (0 : Int))
def ywF : List QF := []
def yaE (t : ynf) : St := ⟨zz t.1 :: zz t.2.1 :: dd 3 (vI t.2.2 :: dd 20 []), []⟩
def yr9 : Gk K3 := fun κ => jd (fun t => κ none ⟨dd 4 (vB t :: dd 21 []), []⟩) (fun t => κ (some 0) ⟨dd 26 [], []⟩)
def ywG : Lp := lpC 4 (unG yng yaE) @yr9 lpN
theorem ywH : LF ywF ywG 28 4 Tryz.f28 0 yaE @yr9 fun t => t := fun R κ again t => by kernel_rfl
theorem ywI : LK ywF ywG 28 Tryz.f28 0 := lkN (u := (unG yng yaE)) (yu fun t => by kernel_rfl) ywH
theorem yCf : EV ywF ywG 28 Tryz.f28 yzz ytg [.bool] JJ := fun x => by kernel_rfl
def q28 : QF := ⟨28, JJ, okN (n := 1) Tryz.func28 ⟨ywI, trivial⟩ yCf⟩
abbrev k6 : Type := ynh
def Zy (k0 : Bool → Option R) (k1 : Unit → Option R) (again : k6 → Option R) (t4 : k6) : Option R :=
 bif (decide (t4.2.2 < (List.length t4.1 : Int))) then if (0 : Int) ≤ t4.2.2 then if t4.2.2 < (List.length t4.1 : Int) then if (0 : Int) ≤ t4.2.2 then if t4.2.2 < (List.length t4.2.1 : Int) then bif (!(((yo t4.1 t4.2.2).1 == (yo t4.2.1 t4.2.2).1) && (((yo t4.1 t4.2.2).2.1 == (yo t4.2.1 t4.2.2).2.1) && (((yo t4.1 t4.2.2).2.2 == (yo t4.2.1 t4.2.2).2.2) && true)))) then k0 false else again (t4.1, t4.2.1, (Go.IntKind.wrap .i64 (t4.2.2 + (1 : Int)))) else none else none else none else none else k1 ()
def Vw k0 k1 := zV (@Zy R k0 k1) Yg
def jU (x : yth) : Option Bool :=
 bif ((List.length x.1 : Int) != (List.length x.2 : Int)) then some false else Vw (fun x1 => some x1) (fun x2 => some true) (x.1, x.2, (0 : Int))
def ywJ : List QF := []
def yaF (t : ynh) : St := ⟨z7 t.1 :: z7 t.2.1 :: dd 3 (vI t.2.2 :: dd 20 []), []⟩
def yra : Gk k6 := fun κ => Zy (fun t => κ none ⟨dd 4 (vB t :: dd 21 []), []⟩) (fun t => κ (some 0) ⟨dd 26 [], []⟩)
def ywK : Lp := lpC 4 (unG yni yaF) @yra lpN
theorem ywL : LF ywJ ywK 29 4 Tryz.f29 0 yaF @yra fun t => t := fun R κ again t => by kernel_rfl
theorem ywM : LK ywJ ywK 29 Tryz.f29 0 := lkN (u := (unG yni yaF)) (yu fun t => by kernel_rfl) ywL
theorem yCg : EV ywJ ywK 29 Tryz.f29 yzA yti [.bool] jU := fun x => by kernel_rfl
def q29 : QF := ⟨29, jU, okN (n := 1) Tryz.func29 ⟨ywM, trivial⟩ yCg⟩
abbrev K4 : Type := ynj
def je (k0 : Bool → Option R) (k1 : Unit → Option R) (again : K4 → Option R) (t4 : K4) : Option R :=
 bif (decide (t4.1 < (List.length t4.2.2.2.2.2.1 : Int))) then if (0 : Int) ≤ t4.1 then if t4.1 < (List.length t4.2.2.2.2.2.1 : Int) then if (0 : Int) ≤ t4.1 then if t4.1 < (List.length t4.2.2.2.2.2.2.2.2.2.2.2.1 : Int) then bif (!((ByteArray.toList ((ya t4.2.2.2.2.2.1 t4.1).1) == ByteArray.toList ((ya t4.2.2.2.2.2.2.2.2.2.2.2.1 t4.1).1)) && (((ya t4.2.2.2.2.2.1 t4.1).2.1 == (ya t4.2.2.2.2.2.2.2.2.2.2.2.1 t4.1).2.1) && (((ya t4.2.2.2.2.2.1 t4.1).2.2.1 == (ya t4.2.2.2.2.2.2.2.2.2.2.2.1 t4.1).2.2.1) && (((ya t4.2.2.2.2.2.1 t4.1).2.2.2 == (ya t4.2.2.2.2.2.2.2.2.2.2.2.1 t4.1).2.2.2) && true))))) then k0 false else again ((Go.IntKind.wrap .i64 (t4.1 + (1 : Int))), t4.2.1, t4.2.2.1, t4.2.2.2.1, t4.2.2.2.2.1, t4.2.2.2.2.2.1, t4.2.2.2.2.2.2.1, t4.2.2.2.2.2.2.2.1, t4.2.2.2.2.2.2.2.2.1, t4.2.2.2.2.2.2.2.2.2.1, t4.2.2.2.2.2.2.2.2.2.2.1, t4.2.2.2.2.2.2.2.2.2.2.2.1, t4.2.2.2.2.2.2.2.2.2.2.2.2) else none else none else none else none else k1 ()
def K5 k0 k1 := zV (@je R k0 k1) Yg
def jg (x : ytj) : Option Bool :=
 Option.bind (JI (x.1, x.2.1, x.2.2.2.2.2.2.1, x.2.2.2.2.2.2.2.1)) fun r1 => Option.bind (bif (!r1) then some true else Option.bind (JJ (x.2.2.1, x.2.2.2.2.2.2.2.2.1)) fun r3 => some (!r3)) fun u2 => Option.bind (bif u2 then some true else Option.bind (jU (x.2.2.2.1, x.2.2.2.2.2.2.2.2.2.1)) fun r5 => some (!r5)) fun u4 => Option.bind (bif u4 then some true else some ((List.length x.2.2.2.2.1 : Int) != (List.length x.2.2.2.2.2.2.2.2.2.2.1 : Int))) fun u6 => Option.bind (bif u6 then some true else some (x.2.2.2.2.2.1 != x.2.2.2.2.2.2.2.2.2.2.2)) fun u7 => bif u7 then some false else K5 (fun x8 => some x8) (fun x9 => some true) ((0 : Int), x.1, x.2.1, x.2.2.1, x.2.2.2.1, x.2.2.2.2.1, x.2.2.2.2.2.1, x.2.2.2.2.2.2.1, x.2.2.2.2.2.2.2.1, x.2.2.2.2.2.2.2.2.1, x.2.2.2.2.2.2.2.2.2.1, x.2.2.2.2.2.2.2.2.2.2.1, x.2.2.2.2.2.2.2.2.2.2.2)
def f8Q : List QF := [q27, q28, q29]
def yeR (t : ynj) : St := ⟨dd 2 (.box 2 0 :: .box 3 0 :: .dead :: vI t.1 :: dd 56 []), [(2, .box [zj t.2.1, yJ t.2.2.1, zz t.2.2.2.1, z7 t.2.2.2.2.1, Yh t.2.2.2.2.2.1, vI t.2.2.2.2.2.2.1]), (3, .box [zj t.2.2.2.2.2.2.2.1, yJ t.2.2.2.2.2.2.2.2.1, zz t.2.2.2.2.2.2.2.2.2.1, z7 t.2.2.2.2.2.2.2.2.2.2.1, Yh t.2.2.2.2.2.2.2.2.2.2.2.1, vI t.2.2.2.2.2.2.2.2.2.2.2.2])]⟩
def yAh : Gk K4 := fun κ => je (fun t => κ none ⟨dd 4 (vB t :: dd 57 []), []⟩) (fun t => κ (some 0) ⟨dd 62 [], []⟩)
def f8P : Lp := lpC 4 (unG ynk yeR) @yAh lpN
theorem yCh : LF f8Q f8P 8 4 Tryz.f8 0 yeR @yAh fun t => t := fun R κ again t => by kernel_rfl
theorem yCi : LK f8Q f8P 8 Tryz.f8 0 := lkN (u := (unG ynk yeR)) (yu fun t => by kernel_rfl) yCh
theorem ev8 : EV f8Q f8P 8 Tryz.f8 sg8 ytk [.bool] jg := fun x => by kernel_rfl
def q8 : QF := ⟨8, jg, okN (n := 1) Tryz.func8 ⟨yCi, trivial⟩ ev8⟩
abbrev V3 : Type := ynl
def JK (k0 : List y7 → Option R) (again : V3 → Option R) (t3 : V3) : Option R :=
 bif (decide (t3.2.2.1 < t3.2.1)) then if (0 : Int) ≤ t3.2.2.1 then if t3.2.2.1 < (List.length t3.2.2.2.2 : Int) then bif ((y6 t3.2.2.2.2 t3.2.2.1).1 == t3.1) then if (List.length t3.2.2.2.1 + List.length ([((y6 t3.2.2.2.2 t3.2.2.1).1, (y6 t3.2.2.2.2 t3.2.2.1).2.1, (y6 t3.2.2.2.2 t3.2.2.1).2.2.1, (y6 t3.2.2.2.2 t3.2.2.1).2.2.2.1, (y6 t3.2.2.2.2 t3.2.2.1).2.2.2.2)] : List y7)) * 40 < 140737488355328 then again (t3.1, t3.2.1, (Go.IntKind.wrap .i64 (t3.2.2.1 + (1 : Int))), (t3.2.2.2.1 ++ ([((y6 t3.2.2.2.2 t3.2.2.1).1, (y6 t3.2.2.2.2 t3.2.2.1).2.1, (y6 t3.2.2.2.2 t3.2.2.1).2.2.1, (y6 t3.2.2.2.2 t3.2.2.1).2.2.2.1, (y6 t3.2.2.2.2 t3.2.2.1).2.2.2.2)] : List y7)), t3.2.2.2.2) else none else again (t3.1, t3.2.1, (Go.IntKind.wrap .i64 (t3.2.2.1 + (1 : Int))), t3.2.2.2.1, t3.2.2.2.2) else none else none else k0 t3.2.2.2.1
def QW k0 := zV (@JK R k0) Yg
def k7 (x : ym9) : Option (List y7) :=
 Option.bind (zD (x.1, x.2.1)) fun r1 => QW (fun x2 => some x2) (x.2.2, (List.length r1 : Int), (0 : Int), ([] : List y7), r1)
def ylb : List QF := [q15]
def y7t (t : ynl) : St := ⟨.dead :: vI t.1 :: dd 3 (.own 10000000 :: dd 4 (.own 10000001 :: vI t.2.1 :: vI t.2.2.1 :: dd 13 [])), [(10000000, .root true 81 yh t.2.2.2.1), (10000001, .root true 81 yh t.2.2.2.2)]⟩
def yiP : Gk V3 := fun κ => JK (fun t => κ (some 0) ⟨dd 5 (.own 10000000 :: dd 20 []), [(10000000, .root true 81 yh t)]⟩)
def ylc : Lp := lpC 3 (unG ynm y7t) @yiP lpN
theorem yrb : LF ylb ylc 131 3 Tryz.f131 0 y7t @yiP fun t => t := fun R κ again t => by kernel_rfl
theorem yrc : LK ylb ylc 131 Tryz.f131 0 := lkN (u := (unG ynm y7t)) (yu fun t => by kernel_rfl) yrb
theorem ywN : EV ylb ylc 131 Tryz.f131 yp0 yma [(.sl 81 yh)] k7 := fun x => by kernel_rfl
def yCj : QF := ⟨131, k7, okN (n := 1) Tryz.func131 ⟨yrc, trivial⟩ ywN⟩
abbrev wi : Type := ynn
def YS (k0 : Int → Option R) (k1 : Unit → Option R) (again : wi → Option R) (t2 : wi) : Option R :=
 bif (decide (t2.2.2.2 < t2.2.2.1)) then if (0 : Int) ≤ t2.2.2.2 then if t2.2.2.2 < (List.length t2.1 : Int) then bif (t2.2.1 == (zw t2.1 t2.2.2.2)) then k0 t2.2.2.2 else again (t2.1, t2.2.1, t2.2.2.1, (Go.IntKind.wrap .i64 (t2.2.2.2 + (1 : Int)))) else none else none else k1 ()
def KY k0 k1 := zV (@YS R k0 k1) Yg
def Zz (x : ysO) : Option Int :=
 KY (fun x1 => some x1) (fun x2 => some (-1 : Int)) (x.1, x.2, (List.length x.1 : Int), (0 : Int))
def yld : List QF := []
def y7u (t : ynn) : St := ⟨zj t.1 :: vI t.2.1 :: dd 5 (vI t.2.2.1 :: vI t.2.2.2 :: dd 10 []), []⟩
def yiQ : Gk wi := fun κ => YS (fun t => κ none ⟨dd 4 (vI t :: dd 14 []), []⟩) (fun t => κ (some 0) ⟨dd 19 [], []⟩)
def yle : Lp := lpC 2 (unG yno y7u) @yiQ lpN
theorem yrd : LF yld yle 155 2 Tryz.f155 0 y7u @yiQ fun t => t := fun R κ again t => by kernel_rfl
theorem yre : LK yld yle 155 Tryz.f155 0 := lkN (u := (unG yno y7u)) (yu fun t => by kernel_rfl) yrd
theorem ywO : EV yld yle 155 Tryz.f155 yp1 ysP [(.int .i64)] Zz := fun x => by kernel_rfl
def yCk : QF := ⟨155, Zz, okN (n := 1) Tryz.func155 ⟨yre, trivial⟩ ywO⟩
def YD (x : ysO) : Option Bool :=
 Option.bind (Zz x) fun r1 => some (decide (r1 ≥ (0 : Int)))
theorem ywP : EV [yCk] lpN 132 Tryz.f132 yp2 ysP [.bool] YD := fun x => by kernel_rfl
def yCl : QF := ⟨132, YD, okN (n := 0) Tryz.func132 trivial ywP⟩
abbrev V4 : Type := ynp
def JL (k0 : yyq → Option R) (again : V4 → Option R) (t3 : V4) : Option R :=
 bif (decide (t3.2.2.2.1 < t3.2.2.1)) then if (0 : Int) ≤ t3.2.2.2.1 then if t3.2.2.2.1 < (List.length t3.2.2.2.2.2.2.2.2.2.2.2.2.2.2 : Int) then Option.bind (YD (t3.1, (y6 t3.2.2.2.2.2.2.2.2.2.2.2.2.2.2 t3.2.2.2.1).2.1)) fun r2 => Option.bind (bif r2 then Option.bind (bif (!t3.2.1) then some true else some (decide ((y6 t3.2.2.2.2.2.2.2.2.2.2.2.2.2.2 t3.2.2.2.1).2.1 > t3.2.2.2.2.2.2.2.2.2.2.1))) fun u4 => some u4 else some false) fun u3 => bif u3 then again (t3.1, true, t3.2.2.1, (Go.IntKind.wrap .i64 (t3.2.2.2.1 + (1 : Int))), t3.2.2.2.2.1, t3.2.2.2.2.2.1, t3.2.2.2.2.2.2.1, t3.2.2.2.2.2.2.2.1, t3.2.2.2.2.2.2.2.2.1, (y6 t3.2.2.2.2.2.2.2.2.2.2.2.2.2.2 t3.2.2.2.1).1, (y6 t3.2.2.2.2.2.2.2.2.2.2.2.2.2.2 t3.2.2.2.1).2.1, (y6 t3.2.2.2.2.2.2.2.2.2.2.2.2.2.2 t3.2.2.2.1).2.2.1, (y6 t3.2.2.2.2.2.2.2.2.2.2.2.2.2.2 t3.2.2.2.1).2.2.2.1, (y6 t3.2.2.2.2.2.2.2.2.2.2.2.2.2.2 t3.2.2.2.1).2.2.2.2, t3.2.2.2.2.2.2.2.2.2.2.2.2.2.2) else again (t3.1, t3.2.1, t3.2.2.1, (Go.IntKind.wrap .i64 (t3.2.2.2.1 + (1 : Int))), t3.2.2.2.2.1, t3.2.2.2.2.2.1, t3.2.2.2.2.2.2.1, t3.2.2.2.2.2.2.2.1, t3.2.2.2.2.2.2.2.2.1, t3.2.2.2.2.2.2.2.2.2.1, t3.2.2.2.2.2.2.2.2.2.2.1, t3.2.2.2.2.2.2.2.2.2.2.2.1, t3.2.2.2.2.2.2.2.2.2.2.2.2.1, t3.2.2.2.2.2.2.2.2.2.2.2.2.2.1, t3.2.2.2.2.2.2.2.2.2.2.2.2.2.2) else none else none else k0 (t3.2.1, t3.2.2.2.2.1, t3.2.2.2.2.2.1, t3.2.2.2.2.2.2.1, t3.2.2.2.2.2.2.2.1, t3.2.2.2.2.2.2.2.2.1, t3.2.2.2.2.2.2.2.2.2.1, t3.2.2.2.2.2.2.2.2.2.2.1, t3.2.2.2.2.2.2.2.2.2.2.2.1, t3.2.2.2.2.2.2.2.2.2.2.2.2.1, t3.2.2.2.2.2.2.2.2.2.2.2.2.2.1)
def QX k0 := zV (@JL R k0) Yg
def k8 (x : yyr) : Option yem :=
 Option.bind (k7 (x.1, x.2.1, x.2.2.1)) fun r1 => QX (fun x5 => some (x5.2.2.2.2.2.2.1, x5.2.2.2.2.2.2.2.1, x5.2.2.2.2.2.2.2.2.1, x5.2.2.2.2.2.2.2.2.2.1, x5.2.2.2.2.2.2.2.2.2.2, x5.1)) (x.2.2.2, false, (List.length r1 : Int), (0 : Int), (0 : Int), (0 : Int), (0 : Int), (0 : Int), (0 : Int), (0 : Int), (0 : Int), (0 : Int), (0 : Int), (0 : Int), r1)
def ywQ : List QF := [yCj, yCl]
def yaG (t : ynp) : St := ⟨dd 2 (zj t.1 :: dd 3 (.box 6 0 :: .dead :: .box 8 0 :: vB t.2.1 :: dd 5 (.own 10000000 :: vI t.2.2.1 :: vI t.2.2.2.1 :: dd 22 []))), [(6, .box [vI t.2.2.2.2.1, vI t.2.2.2.2.2.1, vI t.2.2.2.2.2.2.1, vI t.2.2.2.2.2.2.2.1, vI t.2.2.2.2.2.2.2.2.1]), (8, .box [vI t.2.2.2.2.2.2.2.2.2.1, vI t.2.2.2.2.2.2.2.2.2.2.1, vI t.2.2.2.2.2.2.2.2.2.2.2.1, vI t.2.2.2.2.2.2.2.2.2.2.2.2.1, vI t.2.2.2.2.2.2.2.2.2.2.2.2.2.1]), (10000000, .root true 81 yh t.2.2.2.2.2.2.2.2.2.2.2.2.2.2)]⟩
def yrf : Gk V4 := fun κ => JL (fun t => κ (some 0) ⟨dd 6 (.box 6 0 :: .dead :: .box 8 0 :: vB t.1 :: dd 30 []), [(6, .box [vI t.2.1, vI t.2.2.1, vI t.2.2.2.1, vI t.2.2.2.2.1, vI t.2.2.2.2.2.1]), (8, .box [vI t.2.2.2.2.2.2.1, vI t.2.2.2.2.2.2.2.1, vI t.2.2.2.2.2.2.2.2.1, vI t.2.2.2.2.2.2.2.2.2.1, vI t.2.2.2.2.2.2.2.2.2.2])]⟩)
def ywR : Lp := lpC 3 (unG ynq yaG) @yrf lpN
theorem ywS : LF ywQ ywR 92 3 Tryz.f92 0 yaG @yrf fun t => t := fun R κ again t => by kernel_rfl
theorem ywT : LK ywQ ywR 92 Tryz.f92 0 := lkN (u := (unG ynq yaG)) (yu fun t => by kernel_rfl) ywS
theorem yCm : EV ywQ ywR 92 Tryz.f92 yzB yys yen k8 := fun x => by kernel_rfl
def q92 : QF := ⟨92, k8, okN (n := 1) Tryz.func92 ⟨ywT, trivial⟩ yCm⟩
abbrev k9 : Type := ynr
def ka (k0 : List yd → Option R) (again : k9 → Option R) (t3 : k9) : Option R :=
 bif (decide (t3.2.2.2.1 < t3.2.2.1)) then Option.bind (YB (t3.1, t3.2.1)) fun r1 => bif (decide (r1 < (0 : Int))) then k0 t3.2.2.2.2 else if (List.length t3.2.2.2.2 + List.length ([t3.2.1] : List yd)) * 8 < 140737488355328 then if (0 : Int) ≤ r1 then if r1 < (List.length t3.1 : Int) then again (t3.1, (yM t3.1 r1).2, t3.2.2.1, (Go.IntKind.wrap .i64 (t3.2.2.2.1 + (1 : Int))), (t3.2.2.2.2 ++ ([t3.2.1] : List yd))) else none else none else none else k0 t3.2.2.2.2
def QY k0 := zV (@ka R k0) Yg
def kb (x : yfB) : Option (List yd) :=
 QY (fun x2 => some x2) (x.1, x.2, (Go.IntKind.wrap .i64 ((List.length x.1 : Int) + (1 : Int))), (0 : Int), ([] : List yd))
def ywU : List QF := [q57]
def yaH (t : ynr) : St := ⟨zz t.1 :: vI t.2.1 :: dd 3 (.own 10000000 :: dd 4 (vI t.2.2.1 :: vI t.2.2.2.1 :: dd 17 [])), [(10000000, .root true 3 yf t.2.2.2.2)]⟩
def yrg : Gk k9 := fun κ => ka (fun t => κ (some 0) ⟨dd 5 (.own 10000000 :: dd 23 []), [(10000000, .root true 3 yf t)]⟩)
def ywV : Lp := lpC 3 (unG yns yaH) @yrg lpN
theorem ywW : LF ywU ywV 93 3 Tryz.f93 0 yaH @yrg fun t => t := fun R κ again t => by kernel_rfl
theorem ywX : LK ywU ywV 93 Tryz.f93 0 := lkN (u := (unG yns yaH)) (yu fun t => by kernel_rfl) ywW
theorem yCn : EV ywU ywV 93 Tryz.f93 yzC yfC [(.sl 3 yf)] kb := fun x => by kernel_rfl
def q93 : QF := ⟨93, kb, okN (n := 1) Tryz.func93 ⟨ywX, trivial⟩ yCn⟩
def V5 (x : ysQ) : Option yem :=
 Option.bind (kb (x.2.2.1, x.2.2.2.2)) fun r1 => Option.bind (k8 (x.1, x.2.1, x.2.2.2.1, r1)) fun r2 => some r2
theorem yCo : EV [q92, q93] lpN 59 Tryz.f59 yzD ysR yen V5 := fun x => by kernel_rfl
def q59 : QF := ⟨59, V5, okN (n := 0) Tryz.func59 trivial yCo⟩
def Z0 (x : yyt) : Option Int :=
 Option.bind (yD (x.2.2.2.2.2.2.1, (0 : Int), (Go.IntKind.wrap .i64 ((List.length x.2.2.2.2.1 : Int) - (1 : Int))))) fun r1 => Option.bind (bif (!r1) then some true else if (0 : Int) ≤ x.2.2.2.2.2.2.1 then if x.2.2.2.2.2.2.1 < (List.length x.2.2.2.2.1 : Int) then Option.bind (yD (x.2.2.2.2.2.2.2, (0 : Int), (Go.IntKind.wrap .i64 ((ya x.2.2.2.2.1 x.2.2.2.2.2.2.1).2.2.1 - (1 : Int))))) fun r3 => some (!r3) else none else none) fun u2 => bif u2 then some (0 : Int) else if (0 : Int) ≤ x.2.2.2.2.2.2.1 then if x.2.2.2.2.2.2.1 < (List.length x.2.2.2.2.1 : Int) then Option.bind (V5 (x.1, x.2.1, x.2.2.1, x.2.2.2.2.2.2.2, (ya x.2.2.2.2.1 x.2.2.2.2.2.2.1).2.1)) fun r4 => Option.bind (bif (!r4.2.2.2.2.2) then some true else some (r4.2.2.1 != (1 : Int))) fun u5 => bif u5 then some (0 : Int) else Option.bind (w9 (x.2.2.2.1, r4.2.2.2.1, r4.2.2.2.2.1)) fun r6 => some r6.1 else none else none
theorem yCp : EV [q41, q59, q60] lpN 30 Tryz.f30 yzE yyu [(.int .i64)] Z0 := fun x => by kernel_rfl
def q30 : QF := ⟨30, Z0, okN (n := 0) Tryz.func30 trivial yCp⟩
abbrev kc : Type := yeu ⊕ yev
def JM (k0 : ytl → Option R) (k1 : ytm → Option R) (again : kc → Option R) : kc → Option R
 | .inl t7 => Option.bind (bif (decide (t7.2.1 < t7.2.2.2.2.2.2.2.2.2.2.2.2.2.1)) then some (decide (t7.2.1 < (12 : Int))) else some false) fun u1 => bif u1 then Option.bind (Z0 (t7.2.2.2.2.2.1, t7.2.2.2.2.2.2.1, t7.2.2.2.2.2.2.2.1, t7.2.2.2.2.2.2.2.2.1, t7.2.2.2.2.2.2.2.2.2.1, t7.2.2.2.2.2.2.2.2.2.2.1, t7.1, t7.2.1)) fun r2 => if List.length ([r2] : List yd) * 8 < 140737488355328 then again (Sum.inr (t7.1, (Go.IntKind.wrap .i64 (t7.2.1 + (1 : Int))), t7.2.2.1, t7.2.2.2.1, t7.2.2.2.2.1, t7.2.2.2.2.2.1, t7.2.2.2.2.2.2.1, t7.2.2.2.2.2.2.2.1, t7.2.2.2.2.2.2.2.2.1, t7.2.2.2.2.2.2.2.2.2.1, t7.2.2.2.2.2.2.2.2.2.2.1, t7.2.2.2.2.2.2.2.2.2.2.2.1, t7.2.2.2.2.2.2.2.2.2.2.2.2.1, t7.2.2.2.2.2.2.2.2.2.2.2.2.2.1, t7.2.2.2.2.2.2.2.2.2.2.2.2.2.2.1, t7.2.2.2.2.2.2.2.2.2.2.2.2.2.2.2.1, t7.2.2.2.2.2.2.2.2.2.2.2.2.2.2.2.2.1, t7.2.2.2.2.2.2.2.2.2.2.2.2.2.2.2.2.2, ([r2] : List yd))) else none else k0 (t7.2.2.1, t7.2.2.2.1, t7.2.2.2.2.1, t7.2.2.2.2.2.1, t7.2.2.2.2.2.2.1, t7.2.2.2.2.2.2.2.1, t7.2.2.2.2.2.2.2.2.1, t7.2.2.2.2.2.2.2.2.2.1, t7.2.2.2.2.2.2.2.2.2.2.1, t7.2.2.2.2.2.2.2.2.2.2.2.2.2.2.2)
 | .inr t7 => Option.bind (bif (decide (t7.2.1 < t7.2.2.2.2.2.2.2.2.2.2.2.2.2.1)) then some (decide (t7.2.1 < (12 : Int))) else some false) fun u3 => bif u3 then Option.bind (Z0 (t7.2.2.2.2.2.1, t7.2.2.2.2.2.2.1, t7.2.2.2.2.2.2.2.1, t7.2.2.2.2.2.2.2.2.1, t7.2.2.2.2.2.2.2.2.2.1, t7.2.2.2.2.2.2.2.2.2.2.1, t7.1, t7.2.1)) fun r4 => if (List.length t7.2.2.2.2.2.2.2.2.2.2.2.2.2.2.2.2.2.2 + List.length ([r4] : List yd)) * 8 < 140737488355328 then again (Sum.inr (t7.1, (Go.IntKind.wrap .i64 (t7.2.1 + (1 : Int))), t7.2.2.1, t7.2.2.2.1, t7.2.2.2.2.1, t7.2.2.2.2.2.1, t7.2.2.2.2.2.2.1, t7.2.2.2.2.2.2.2.1, t7.2.2.2.2.2.2.2.2.1, t7.2.2.2.2.2.2.2.2.2.1, t7.2.2.2.2.2.2.2.2.2.2.1, t7.2.2.2.2.2.2.2.2.2.2.2.1, t7.2.2.2.2.2.2.2.2.2.2.2.2.1, t7.2.2.2.2.2.2.2.2.2.2.2.2.2.1, t7.2.2.2.2.2.2.2.2.2.2.2.2.2.2.1, t7.2.2.2.2.2.2.2.2.2.2.2.2.2.2.2.1, t7.2.2.2.2.2.2.2.2.2.2.2.2.2.2.2.2.1, t7.2.2.2.2.2.2.2.2.2.2.2.2.2.2.2.2.2.1, (t7.2.2.2.2.2.2.2.2.2.2.2.2.2.2.2.2.2.2 ++ ([r4] : List yd)))) else none else k1 (t7.2.2.1, t7.2.2.2.1, t7.2.2.2.2.1, t7.2.2.2.2.2.1, t7.2.2.2.2.2.2.1, t7.2.2.2.2.2.2.2.1, t7.2.2.2.2.2.2.2.2.1, t7.2.2.2.2.2.2.2.2.2.1, t7.2.2.2.2.2.2.2.2.2.2.1, t7.2.2.2.2.2.2.2.2.2.2.2.2.2.2.2)
def V6 k0 k1 := zV (@JM R k0 k1) Yg
abbrev ke : Type := ynv
def kf (k0 : List v9 → Option R) (again : ke → Option R) (t3 : ke) : Option R :=
 bif (decide (t3.2.2.1 < t3.2.1)) then if (0 : Int) ≤ t3.2.2.1 then if t3.2.2.1 < (List.length t3.1 : Int) then V6 (fun x5 => if (List.length x5.2.2.2.2.2.2.2.2.2.2.2 + List.length ([(x5.2.2.2.2.2.2.2.2.2.1, x5.2.2.2.2.2.2.2.2.2.2.1, ([] : List yd))] : List v9)) * 48 < 140737488355328 then again (x5.1, x5.2.1, (Go.IntKind.wrap .i64 (x5.2.2.1 + (1 : Int))), x5.2.2.2.1, x5.2.2.2.2.1, x5.2.2.2.2.2.1, x5.2.2.2.2.2.2.1, x5.2.2.2.2.2.2.2.1, x5.2.2.2.2.2.2.2.2.1, (x5.2.2.2.2.2.2.2.2.2.2.2 ++ ([(x5.2.2.2.2.2.2.2.2.2.1, x5.2.2.2.2.2.2.2.2.2.2.1, ([] : List yd))] : List v9))) else none) (fun x6 => if (List.length x6.2.2.2.2.2.2.2.2.2.2.2.1 + List.length ([(x6.2.2.2.2.2.2.2.2.2.1, x6.2.2.2.2.2.2.2.2.2.2.1, x6.2.2.2.2.2.2.2.2.2.2.2.2)] : List v9)) * 48 < 140737488355328 then again (x6.1, x6.2.1, (Go.IntKind.wrap .i64 (x6.2.2.1 + (1 : Int))), x6.2.2.2.1, x6.2.2.2.2.1, x6.2.2.2.2.2.1, x6.2.2.2.2.2.2.1, x6.2.2.2.2.2.2.2.1, x6.2.2.2.2.2.2.2.2.1, (x6.2.2.2.2.2.2.2.2.2.2.2.1 ++ ([(x6.2.2.2.2.2.2.2.2.2.1, x6.2.2.2.2.2.2.2.2.2.2.1, x6.2.2.2.2.2.2.2.2.2.2.2.2)] : List v9))) else none) (Sum.inl (t3.2.2.1, (0 : Int), t3.1, t3.2.1, t3.2.2.1, t3.2.2.2.1, t3.2.2.2.2.1, t3.2.2.2.2.2.1, t3.2.2.2.2.2.2.1, t3.2.2.2.2.2.2.2.1, t3.2.2.2.2.2.2.2.2.1, (ya t3.1 t3.2.2.1).1, (ya t3.1 t3.2.2.1).2.1, (ya t3.1 t3.2.2.1).2.2.1, (ya t3.1 t3.2.2.1).2.2.2, (ya t3.1 t3.2.2.1).1, (ya t3.1 t3.2.2.1).2.2.2, t3.2.2.2.2.2.2.2.2.2)) else none else none else k0 t3.2.2.2.2.2.2.2.2.2
def QZ k0 := zV (@kf R k0) Yg
def jD (x : Qz9) : Option (List v9) :=
 QZ (fun x7 => some x7) (x.2.2.2.2.1, (List.length x.2.2.2.2.1 : Int), (0 : Int), x.1, x.2.1, x.2.2.1, x.2.2.2.1, x.2.2.2.2.1, x.2.2.2.2.2, ([] : List v9))
def f9Q : List QF := [q30]
def ybR (t : yeu) : St := ⟨.dead :: .box 1 0 :: .dead :: .own 10000000 :: vI t.1 :: .box 5 0 :: .box 6 0 :: vI t.2.1 :: dd 2 (Yh t.2.2.1 :: vI t.2.2.2.1 :: vI t.2.2.2.2.1 :: dd 34 []), [(1, .box [zj t.2.2.2.2.2.1, yJ t.2.2.2.2.2.2.1, zz t.2.2.2.2.2.2.2.1, z7 t.2.2.2.2.2.2.2.2.1, Yh t.2.2.2.2.2.2.2.2.2.1, vI t.2.2.2.2.2.2.2.2.2.2.1]), (5, .box [vS t.2.2.2.2.2.2.2.2.2.2.2.1, vI t.2.2.2.2.2.2.2.2.2.2.2.2.1, vI t.2.2.2.2.2.2.2.2.2.2.2.2.2.1, vB t.2.2.2.2.2.2.2.2.2.2.2.2.2.2.1]), (6, .box [vS t.2.2.2.2.2.2.2.2.2.2.2.2.2.2.2.1, vB t.2.2.2.2.2.2.2.2.2.2.2.2.2.2.2.2.1, .nils]), (10000000, .root true 51 Wp t.2.2.2.2.2.2.2.2.2.2.2.2.2.2.2.2.2)]⟩
theorem yrh : ∀ s t, unG ynt ybR s = some t → ybR t = s := yu fun t => by kernel_rfl
def ybS (t : yev) : St := ⟨.dead :: .box 1 0 :: .dead :: .own 10000000 :: vI t.1 :: .box 5 0 :: .box 6 0 :: vI t.2.1 :: dd 2 (Yh t.2.2.1 :: vI t.2.2.2.1 :: vI t.2.2.2.2.1 :: dd 34 []), [(1, .box [zj t.2.2.2.2.2.1, yJ t.2.2.2.2.2.2.1, zz t.2.2.2.2.2.2.2.1, z7 t.2.2.2.2.2.2.2.2.1, Yh t.2.2.2.2.2.2.2.2.2.1, vI t.2.2.2.2.2.2.2.2.2.2.1]), (5, .box [vS t.2.2.2.2.2.2.2.2.2.2.2.1, vI t.2.2.2.2.2.2.2.2.2.2.2.2.1, vI t.2.2.2.2.2.2.2.2.2.2.2.2.2.1, vB t.2.2.2.2.2.2.2.2.2.2.2.2.2.2.1]), (6, .box [vS t.2.2.2.2.2.2.2.2.2.2.2.2.2.2.2.1, vB t.2.2.2.2.2.2.2.2.2.2.2.2.2.2.2.2.1, .own 10000001]), (10000000, .root true 51 Wp t.2.2.2.2.2.2.2.2.2.2.2.2.2.2.2.2.2.1), (10000001, .root true 3 yf t.2.2.2.2.2.2.2.2.2.2.2.2.2.2.2.2.2.2)]⟩
theorem yri : ∀ s t, unG ynu ybS s = some t → ybS t = s := yu fun t => by kernel_rfl
def ybT : (yeu ⊕ yev) → St := Sum.elim ybR ybS
def yeS (s : St) : Option (yeu ⊕ yev) := ((unG ynt ybR s).map Sum.inl).or (((unG ynu ybS) s).map Sum.inr)
theorem yrj : ∀ s t, yeS s = some t → ybT t = s := y8C yrh yri
def ysk : Gk kc := fun κ => JM (fun t => κ (some 2) ⟨.dead :: .box 1 0 :: .dead :: .own 10000000 :: dd 2 (.box 6 0 :: dd 3 (Yh t.1 :: vI t.2.1 :: vI t.2.2.1 :: dd 34 [])), [(1, .box [zj t.2.2.2.1, yJ t.2.2.2.2.1, zz t.2.2.2.2.2.1, z7 t.2.2.2.2.2.2.1, Yh t.2.2.2.2.2.2.2.1, vI t.2.2.2.2.2.2.2.2.1]), (6, .box [vS t.2.2.2.2.2.2.2.2.2.1, vB t.2.2.2.2.2.2.2.2.2.2.1, .nils]), (10000000, .root true 51 Wp t.2.2.2.2.2.2.2.2.2.2.2)]⟩) (fun t => κ (some 2) ⟨.dead :: .box 1 0 :: .dead :: .own 10000000 :: dd 2 (.box 6 0 :: dd 3 (Yh t.1 :: vI t.2.1 :: vI t.2.2.1 :: dd 34 [])), [(1, .box [zj t.2.2.2.1, yJ t.2.2.2.2.1, zz t.2.2.2.2.2.1, z7 t.2.2.2.2.2.2.1, Yh t.2.2.2.2.2.2.2.1, vI t.2.2.2.2.2.2.2.2.1]), (6, .box [vS t.2.2.2.2.2.2.2.2.2.1, vB t.2.2.2.2.2.2.2.2.2.2.1, .own 10000001]), (10000000, .root true 51 Wp t.2.2.2.2.2.2.2.2.2.2.2.1), (10000001, .root true 3 yf t.2.2.2.2.2.2.2.2.2.2.2.2)]⟩)
def yeT (t : ynv) : St := ⟨.dead :: .box 1 0 :: .dead :: .own 10000000 :: dd 6 (Yh t.1 :: vI t.2.1 :: vI t.2.2.1 :: dd 34 []), [(1, .box [zj t.2.2.2.1, yJ t.2.2.2.2.1, zz t.2.2.2.2.2.1, z7 t.2.2.2.2.2.2.1, Yh t.2.2.2.2.2.2.2.1, vI t.2.2.2.2.2.2.2.2.1]), (10000000, .root true 51 Wp t.2.2.2.2.2.2.2.2.2)]⟩
def yAi : Gk ke := fun κ => kf (fun t => κ (some 0) ⟨dd 3 (.own 10000000 :: dd 43 []), [(10000000, .root true 51 Wp t)]⟩)
def f9P : Lp := lpC 3 (unG ynw yeT) @yAi (lpC 7 yeS @ysk lpN)
theorem yrk : LF f9Q f9P 9 7 Tryz.f9 1 ybT @ysk fun v : yeu => .inl v := fun R κ again v => by kernel_rfl
theorem yrl : LF f9Q f9P 9 7 Tryz.f9 1 ybT @ysk fun v : yev => .inr v := fun R κ again v => by kernel_rfl
theorem yCq : LF f9Q f9P 9 7 Tryz.f9 1 ybT @ysk fun t => t := (LC.sum yrk yrl)
theorem yCr : LK f9Q f9P 9 Tryz.f9 1 := lkN (u := yeS) yrj yCq
theorem yCs : LF f9Q f9P 9 3 Tryz.f9 0 yeT @yAi fun t => t := fun R κ again t => by kernel_rfl
theorem yCt : LK f9Q f9P 9 Tryz.f9 0 := lkN (u := (unG ynw yeT)) (yu fun t => by kernel_rfl) yCs
theorem ev9 : EV f9Q f9P 9 Tryz.f9 sg9 qz9 [(.sl 51 Wp)] jD := fun x => by kernel_rfl
def q9 : QF := ⟨9, jD, okN (n := 2) Tryz.func9 ⟨yCt, yCr, trivial⟩ ev9⟩
def Kn (x : ytn) : Option yn1 :=
 some (((ByteArray.toList x.1) == (ByteArray.toList x.2.2.2)), x.2.2.2)
theorem yCu : EV [] lpN 32 Tryz.f32 yzF yto yn2 Kn := fun x => by kernel_rfl
def q32 : QF := ⟨32, Kn, okN (n := 0) Tryz.func32 trivial yCu⟩
abbrev zO : Type := ynx
def yZ (k0 : ygq → Option R) (k1 : ByteArray → Option R) (again : zO → Option R) (t2 : zO) : Option R :=
 bif (decide (t2.2.2.1 < t2.2.1)) then if (0 : Int) ≤ t2.2.2.1 then if t2.2.2.1 < (List.length t2.1 : Int) then Option.bind (Kn ((y1B t2.1 t2.2.2.1).1, (y1B t2.1 t2.2.2.1).2.1, (y1B t2.1 t2.2.2.1).2.2, t2.2.2.2)) fun r1 => bif r1.1 then k0 (t2.2.2.1, r1.2) else again (t2.1, t2.2.1, (Go.IntKind.wrap .i64 (t2.2.2.1 + (1 : Int))), r1.2) else none else none else k1 t2.2.2.2
def YT k0 k1 := zV (@yZ R k0 k1) Yg
def zo (x : ynz) : Option ygq :=
 YT (fun x2 => some x2) (fun x3 => some ((-1 : Int), x3)) (x.1, (List.length x.1 : Int), (0 : Int), x.2)
def y7v : List QF := [q32]
def y17 (t : ynx) : St := ⟨ysC t.1 :: .clo 32 901 :: dd 5 (vI t.2.1 :: vI t.2.2.1 :: dd 10 []), [(901, .box [vS t.2.2.2])]⟩
def y8N : Gk zO := fun κ => yZ (fun t => κ none ⟨.dead :: .clo 32 901 :: dd 2 (vI t.1 :: dd 14 []), [(901, .box [vS t.2])]⟩) (fun t => κ (some 0) ⟨.dead :: .clo 32 901 :: dd 17 [], [(901, .box [vS t])]⟩)
def y7w : Lp := lpC 2 (unG yny y17) @y8N lpN
theorem yeU : LF y7v y7w 100004 2 Tryz.f31 0 y17 @y8N fun t => t := fun R κ again t => by kernel_rfl
theorem yeV : LK y7v y7w 100004 Tryz.f31 0 := lkN (u := (unG yny y17)) (yu fun t => by kernel_rfl) yeU
theorem ygR : EV y7v y7w 100004 Tryz.f31 ybL ynA yn5 zo := fun x => by kernel_rfl
def ylf : QF := ⟨100004, zo, okN (n := 1) Tryz.func31 ⟨yeV, trivial⟩ ygR⟩
def ZA (x : ynz) : Option Int :=
 Option.bind (zo x) fun r1 => some r1.1
theorem yCv : EV [ylf] lpN 10 Tryz.f10 yzG ynA [(.int .i64)] ZA := fun x => by kernel_rfl
def q10 : QF := ⟨10, ZA, okN (n := 0) Tryz.func10 trivial yCv⟩
def Zf (x : ytp) : Option yi5 :=
 Option.bind (JE (x.1, x.2.1, x.2.2.1, x.2.2.2.1, x.2.2.2.2.1, x.2.2.2.2.2.1, x.2.2.2.2.2.2.1)) fun r1 => Option.bind (Yy (x.1, x.2.1, x.2.2.1, x.2.2.2.1, x.2.2.2.2.1, x.2.2.2.2.2.1)) fun r2 => Option.bind (bif (!r2) then some true else Option.bind (Zw x.2.2.2.2.2.2.1) fun r4 => some (!r4)) fun u3 => bif u3 then some (r1, (1 : Int)) else bif (decide (r1 < (0 : Int))) then some (r1, (2 : Int)) else Option.bind (bif x.2.2.2.2.2.2.2.2 then if (0 : Int) ≤ r1 then if r1 < (List.length x.2.2.2.2.1 : Int) then some ((ya x.2.2.2.2.1 r1).2.2.2) else none else none else some false) fun u5 => bif u5 then some (r1, (5 : Int)) else if (0 : Int) ≤ r1 then if r1 < (List.length x.2.2.2.2.1 : Int) then Option.bind (yD (x.2.2.2.2.2.2.2.1, (0 : Int), (Go.IntKind.wrap .i64 ((ya x.2.2.2.2.1 r1).2.2.1 - (1 : Int))))) fun r6 => bif (!r6) then some (r1, (4 : Int)) else some (r1, (0 : Int)) else none else none
theorem yCw : EV [q16, q21, q22, q41] lpN 33 Tryz.f33 yzH ytq yjr Zf := fun x => by kernel_rfl
def q33 : QF := ⟨33, Zf, okN (n := 0) Tryz.func33 trivial yCw⟩
abbrev V7 : Type := ylN
def JN (k0 : Int → Option R) (k1 : Unit → Option R) (again : V7 → Option R) (t2 : V7) : Option R :=
 bif (decide (t2.2.2 < t2.2.1)) then if (0 : Int) ≤ t2.2.2 then if t2.2.2 < (List.length t2.1 : Int) then bif (!((yo t2.1 t2.2.2).2.1)) then k0 t2.2.2 else again (t2.1, t2.2.1, (Go.IntKind.wrap .i64 (t2.2.2 + (1 : Int)))) else none else none else k1 ()
def y00 k0 k1 := zV (@JN R k0 k1) Yg
def kg (x : List y8) : Option Int :=
 y00 (fun x1 => some x1) (fun x2 => some (-1 : Int)) (x, (List.length x : Int), (0 : Int))
def ywY : List QF := []
def yaI (t : ylN) : St := ⟨dd 5 (z7 t.1 :: vI t.2.1 :: vI t.2.2 :: dd 9 []), []⟩
def yrm : Gk V7 := fun κ => JN (fun t => κ none ⟨dd 2 (vI t :: dd 14 []), []⟩) (fun t => κ (some 0) ⟨dd 17 [], []⟩)
def ywZ : Lp := lpC 2 (unG ylO yaI) @yrm lpN
theorem yx0 : LF ywY ywZ 61 2 Tryz.f61 0 yaI @yrm fun t => t := fun R κ again t => by kernel_rfl
theorem yx1 : LK ywY ywZ 61 Tryz.f61 0 := lkN (u := (unG ylO yaI)) (yu fun t => by kernel_rfl) yx0
theorem yCx : EV ywY ywZ 61 Tryz.f61 yzI [(.sl 79 yg)] [(.int .i64)] kg := fun x => by kernel_rfl
def q61 : QF := ⟨61, kg, okN (n := 1) Tryz.func61 ⟨yx1, trivial⟩ yCx⟩
def jh (x : ylK) : Option yy2 :=
 Option.bind (zG x.1) fun r1 => Option.bind (kg x.1) fun r2 => Option.bind (bif (decide (r2 < (0 : Int))) then some true else Option.bind (jB x.2) fun r4 => some (!r4)) fun u3 => Option.bind (bif u3 then some true else Option.bind (ZM x.1) fun r6 => some (!r6)) fun u5 => bif u5 then some (r1, (0 : Int), false) else if (0 : Int) ≤ r2 then if r2 < (List.length r1 : Int) then if (0 : Int) ≤ r2 then if r2 < ((List.length (List.set r1 (Int.toNat r2) ((yo r1 r2).1, true, (yo r1 r2).2.2)) : Nat) : Int) then some ((List.set (List.set r1 (Int.toNat r2) ((yo r1 r2).1, true, (yo r1 r2).2.2)) (Int.toNat r2) ((yo (List.set r1 (Int.toNat r2) ((yo r1 r2).1, true, (yo r1 r2).2.2)) r2).1, (yo (List.set r1 (Int.toNat r2) ((yo r1 r2).1, true, (yo r1 r2).2.2)) r2).2.1, x.2)), r2, true) else none else none else none else none
theorem yCy : EV [q34, q40, q55, q61] lpN 35 Tryz.f35 yzJ ylL yy3 jh := fun x => by kernel_rfl
def q35 : QF := ⟨35, jh, okN (n := 0) Tryz.func35 trivial yCy⟩
abbrev wQ : Type := ynB
def wR (k0 : Int → Option R) (k1 : Unit → Option R) (again : wQ → Option R) (t2 : wQ) : Option R :=
 bif (decide (t2.2.2.1 ≥ (0 : Int))) then if (0 : Int) ≤ t2.2.2.1 then if t2.2.2.1 < (List.length t2.2.2.2.1 : Int) then Option.bind (Zv (t2.1, t2.2.1)) fun r1 => bif (decide ((zw t2.2.2.2.1 t2.2.2.1) ≤ r1)) then k0 t2.2.2.1 else again (t2.1, t2.2.1, (Go.IntKind.wrap .i64 (t2.2.2.1 - (1 : Int))), t2.2.2.2.1, t2.2.2.2.2) else none else none else k1 ()
def Q9 k0 k1 := zV (@wR R k0 k1) Yg
def J2 (x : ysb) : Option Int :=
 Q9 (fun x2 => some x2) (fun x3 => some (-1 : Int)) (x.2.2.1, x.2.2.2, (Go.IntKind.wrap .i64 ((List.length x.1 : Int) - (1 : Int))), x.1, x.2.1)
def yx2 : List QF := [yvu]
def yaJ (t : ynB) : St := ⟨.dead :: vI t.1 :: vI t.2.1 :: .box 3 0 :: dd 3 (vI t.2.2.1 :: dd 18 []), [(3, .box [zj t.2.2.2.1, yJ t.2.2.2.2])]⟩
def yrn : Gk wQ := fun κ => wR (fun t => κ none ⟨dd 6 (vI t :: dd 19 []), []⟩) (fun t => κ (some 0) ⟨dd 26 [], []⟩)
def yx3 : Lp := lpC 2 (unG ynC yaJ) @yrn lpN
theorem yx4 : LF yx2 yx3 94 2 Tryz.f94 0 yaJ @yrn fun t => t := fun R κ again t => by kernel_rfl
theorem yx5 : LK yx2 yx3 94 Tryz.f94 0 := lkN (u := (unG ynC yaJ)) (yu fun t => by kernel_rfl) yx4
theorem yCz : EV yx2 yx3 94 Tryz.f94 yzK ysc [(.int .i64)] J2 := fun x => by kernel_rfl
def q94 : QF := ⟨94, J2, okN (n := 1) Tryz.func94 ⟨yx5, trivial⟩ yCz⟩
abbrev VH : Type := ynD
def wH (k0 : ysd → Option R) (k1 : yfz → Option R) (again : VH → Option R) (t2 : VH) : Option R :=
 bif (decide (t2.2.2.2.2.1 < t2.2.2.2.1)) then if (0 : Int) ≤ t2.2.2.2.2.1 then if t2.2.2.2.2.1 < (List.length t2.2.2.1 : Int) then Option.bind (bif ((y6 t2.2.2.1 t2.2.2.2.2.1).1 == t2.1) then some ((y6 t2.2.2.1 t2.2.2.2.2.1).2.1 == t2.2.1) else some false) fun u1 => bif u1 then k0 (true, (y6 t2.2.2.1 t2.2.2.2.2.1).1, (y6 t2.2.2.1 t2.2.2.2.2.1).2.1, (y6 t2.2.2.1 t2.2.2.2.2.1).2.2.1, (y6 t2.2.2.1 t2.2.2.2.2.1).2.2.2.1, (y6 t2.2.2.1 t2.2.2.2.2.1).2.2.2.2) else again (t2.1, t2.2.1, t2.2.2.1, t2.2.2.2.1, (Go.IntKind.wrap .i64 (t2.2.2.2.2.1 + (1 : Int))), t2.2.2.2.2.2.1, t2.2.2.2.2.2.2.1, t2.2.2.2.2.2.2.2.1, t2.2.2.2.2.2.2.2.2.1, t2.2.2.2.2.2.2.2.2.2) else none else none else k1 t2.2.2.2.2.2
def y0N k0 k1 := zV (@wH R k0 k1) Yg
def Wb (x : yy8) : Option yem :=
 y0N (fun x2 => some (x2.2.1, x2.2.2.1, x2.2.2.2.1, x2.2.2.2.2.1, x2.2.2.2.2.2, x2.1)) (fun x3 => some ((0 : Int), (0 : Int), (0 : Int), (0 : Int), (0 : Int), false)) (x.2.1, x.2.2, x.1, (List.length x.1 : Int), (0 : Int), (0 : Int), (0 : Int), (0 : Int), (0 : Int), (0 : Int))
def ylg : List QF := []
def y7x (t : ynD) : St := ⟨.dead :: vI t.1 :: vI t.2.1 :: dd 3 (.box 6 0 :: dd 3 (qI t.2.2.1 :: vI t.2.2.2.1 :: vI t.2.2.2.2.1 :: dd 16 [])), [(6, .box [vI t.2.2.2.2.2.1, vI t.2.2.2.2.2.2.1, vI t.2.2.2.2.2.2.2.1, vI t.2.2.2.2.2.2.2.2.1, vI t.2.2.2.2.2.2.2.2.2])]⟩
def yiR : Gk VH := fun κ => wH (fun t => κ none ⟨dd 6 (.box 6 0 :: vB t.1 :: dd 21 []), [(6, .box [vI t.2.1, vI t.2.2.1, vI t.2.2.2.1, vI t.2.2.2.2.1, vI t.2.2.2.2.2])]⟩) (fun t => κ (some 0) ⟨dd 6 (.box 6 0 :: dd 22 []), [(6, .box [vI t.1, vI t.2.1, vI t.2.2.1, vI t.2.2.2.1, vI t.2.2.2.2])]⟩)
def ylh : Lp := lpC 2 (unG ynE y7x) @yiR lpN
theorem yro : LF ylg ylh 133 2 Tryz.f133 0 y7x @yiR fun t => t := fun R κ again t => by kernel_rfl
theorem yrp : LK ylg ylh 133 Tryz.f133 0 := lkN (u := (unG ynE y7x)) (yu fun t => by kernel_rfl) yro
theorem yx6 : EV ylg ylh 133 Tryz.f133 yp3 yy9 yen Wb := fun x => by kernel_rfl
def yAj : QF := ⟨133, Wb, okN (n := 1) Tryz.func133 ⟨yrp, trivial⟩ yx6⟩
abbrev kh : Type := yse
def ki (k0 : yfz → Option R) (k1 : ysd → Option R) (again : kh → Option R) (t2 : kh) : Option R :=
 bif (decide (t2.2.2.1 ≥ (0 : Int))) then if (0 : Int) ≤ t2.2.2.1 then if t2.2.2.1 < (List.length t2.2.2.2.1 : Int) then Option.bind (Wb ((ym t2.2.2.2.1 t2.2.2.1), t2.1, t2.2.1)) fun r1 => bif (!r1.2.2.2.2.2) then again (t2.1, t2.2.1, (Go.IntKind.wrap .i64 (t2.2.2.1 - (1 : Int))), t2.2.2.2.1, t2.2.2.2.2.1, t2.2.2.2.2.2.1, t2.2.2.2.2.2.2.1, t2.2.2.2.2.2.2.2.1, t2.2.2.2.2.2.2.2.2) else bif (r1.2.2.1 == (0 : Int)) then k0 t2.2.2.2.2 else k1 (true, r1.1, r1.2.1, r1.2.2.1, r1.2.2.2.1, r1.2.2.2.2.1) else none else none else k0 t2.2.2.2.2
def y01 k0 k1 := zV (@ki R k0 k1) Yg
def kj (x : yjv) : Option yem :=
 y01 (fun x2 => some ((0 : Int), (0 : Int), (0 : Int), (0 : Int), (0 : Int), false)) (fun x3 => some (x3.2.1, x3.2.2.1, x3.2.2.2.1, x3.2.2.2.2.1, x3.2.2.2.2.2, x3.1)) (x.2.1, x.2.2, (Go.IntKind.wrap .i64 ((List.length x.1 : Int) - (1 : Int))), x.1, (0 : Int), (0 : Int), (0 : Int), (0 : Int), (0 : Int))
def yx7 : List QF := [yAj]
def yaK (t : yse) : St := ⟨.dead :: vI t.1 :: vI t.2.1 :: .box 3 0 :: dd 2 (.box 6 0 :: .dead :: vI t.2.2.1 :: dd 28 []), [(3, .box [YA t.2.2.2.1]), (6, .box [vI t.2.2.2.2.1, vI t.2.2.2.2.2.1, vI t.2.2.2.2.2.2.1, vI t.2.2.2.2.2.2.2.1, vI t.2.2.2.2.2.2.2.2])]⟩
def yrq : Gk kh := fun κ => ki (fun t => κ (some 0) ⟨dd 6 (.box 6 0 :: dd 30 []), [(6, .box [vI t.1, vI t.2.1, vI t.2.2.1, vI t.2.2.2.1, vI t.2.2.2.2])]⟩) (fun t => κ none ⟨dd 6 (.box 6 0 :: vB t.1 :: dd 29 []), [(6, .box [vI t.2.1, vI t.2.2.1, vI t.2.2.2.1, vI t.2.2.2.2.1, vI t.2.2.2.2.2])]⟩)
def yx8 : Lp := lpC 2 (unG ysf yaK) @yrq lpN
theorem yx9 : LF yx7 yx8 95 2 Tryz.f95 0 yaK @yrq fun t => t := fun R κ again t => by kernel_rfl
theorem yxa : LK yx7 yx8 95 Tryz.f95 0 := lkN (u := (unG ysf yaK)) (yu fun t => by kernel_rfl) yx9
theorem yCA : EV yx7 yx8 95 Tryz.f95 yzL ysg yen kj := fun x => by kernel_rfl
def q95 : QF := ⟨95, kj, okN (n := 1) Tryz.func95 ⟨yxa, trivial⟩ yCA⟩
def kl (x : ysb) : Option yem :=
 Option.bind (J2 x) fun r1 => Option.bind (yD (r1, (0 : Int), (Go.IntKind.wrap .i64 ((List.length x.2.1 : Int) - (1 : Int))))) fun r2 => bif (!r2) then some ((0 : Int), (0 : Int), (0 : Int), (0 : Int), (0 : Int), false) else if (0 : Int) ≤ r1 then if r1 < (List.length x.2.1 : Int) then Option.bind (kj ((ye x.2.1 r1), x.2.2.1, x.2.2.2)) fun r3 => some r3 else none else none
theorem yCB : EV [q41, q94, q95] lpN 62 Tryz.f62 yzM ysc yen kl := fun x => by kernel_rfl
def q62 : QF := ⟨62, kl, okN (n := 0) Tryz.func62 trivial yCB⟩
def zT (x : ysM) : Option (List y7) :=
 Option.bind (yP x.1) fun r1 => Option.bind (jz (r1, x.2)) fun r2 => Option.bind (Jw r2) fun r3 => some r3
theorem yCC : EV [q37, q66, yvb] lpN 98 Tryz.f98 yzN ysN [(.sl 81 yh)] zT := fun x => by kernel_rfl
def q98 : QF := ⟨98, zT, okN (n := 0) Tryz.func98 trivial yCC⟩
def zu (x : List y7) : Option (List yb) :=
 bif ((List.length x : Int) == (0 : Int)) then some ([] : List yb) else Option.bind (Y8 x) fun r1 => some ([r1] : List yb)
theorem yxb : EV [yv7] lpN 101 Tryz.f101 yp4 [(.sl 81 yh)] [(.sl 53 yr)] zu := fun x => by kernel_rfl
def yxc : QF := ⟨101, zu, okN (n := 0) Tryz.func101 trivial yxb⟩
def wI (x : ysM) : Option yya :=
 Option.bind (zE x.1) fun r1 => bif (decide ((Go.IntKind.wrap .i64 ((List.length x.1 : Int) - (1 : Int))) ≥ (0 : Int))) then if (0 : Int) ≤ (Go.IntKind.wrap .i64 ((List.length x.1 : Int) - (1 : Int))) then if (Go.IntKind.wrap .i64 ((List.length x.1 : Int) - (1 : Int))) < (List.length x.1 : Int) then Option.bind (Wb ((ym x.1 (Go.IntKind.wrap .i64 ((List.length x.1 : Int) - (1 : Int)))), x.2.1, x.2.2.1)) fun r2 => Option.bind (bif r2.2.2.2.2.2 then some true else if (0 : Int) ≤ (Go.IntKind.wrap .i64 ((List.length x.1 : Int) - (1 : Int))) then if (Go.IntKind.wrap .i64 ((List.length x.1 : Int) - (1 : Int))) < (List.length x.1 : Int) then some (decide (((List.length (ym x.1 (Go.IntKind.wrap .i64 ((List.length x.1 : Int) - (1 : Int)))) : Nat) : Int) < (4 : Int))) else none else none) fun u3 => bif u3 then if (0 : Int) ≤ (Go.IntKind.wrap .i64 ((List.length x.1 : Int) - (1 : Int))) then if (Go.IntKind.wrap .i64 ((List.length x.1 : Int) - (1 : Int))) < (List.length x.1 : Int) then Option.bind (jz ((ym x.1 (Go.IntKind.wrap .i64 ((List.length x.1 : Int) - (1 : Int)))), x.2.1, x.2.2.1, x.2.2.2.1, x.2.2.2.2.1, x.2.2.2.2.2)) fun r4 => if (0 : Int) ≤ (Go.IntKind.wrap .i64 ((List.length x.1 : Int) - (1 : Int))) then if (Go.IntKind.wrap .i64 ((List.length x.1 : Int) - (1 : Int))) < (List.length r1 : Int) then Option.bind (zJ (List.set r1 (Int.toNat (Go.IntKind.wrap .i64 ((List.length x.1 : Int) - (1 : Int)))) r4)) fun r5 => bif r5 then some ((List.set r1 (Int.toNat (Go.IntKind.wrap .i64 ((List.length x.1 : Int) - (1 : Int)))) r4), true) else Option.bind (zT x) fun r6 => Option.bind (zu r6) fun r7 => Option.bind (bif (decide ((List.length r6 : Int) > (8 : Int))) then some true else Option.bind (zJ r7) fun r9 => some (!r9)) fun u8 => bif u8 then Option.bind (zE x.1) fun r10 => some (r10, false) else some (r7, true) else none else none else none else none else if (List.length r1 + List.length ([([x.2] : List y7)] : List yb)) * 24 < 140737488355328 then Option.bind (zJ (r1 ++ ([([x.2] : List y7)] : List yb))) fun r11 => bif r11 then some ((r1 ++ ([([x.2] : List y7)] : List yb)), true) else Option.bind (zT x) fun r12 => Option.bind (zu r12) fun r13 => Option.bind (bif (decide ((List.length r12 : Int) > (8 : Int))) then some true else Option.bind (zJ r13) fun r15 => some (!r15)) fun u14 => bif u14 then Option.bind (zE x.1) fun r16 => some (r16, false) else some (r13, true) else none else none else none else if (List.length r1 + List.length ([([x.2] : List y7)] : List yb)) * 24 < 140737488355328 then Option.bind (zJ (r1 ++ ([([x.2] : List y7)] : List yb))) fun r17 => bif r17 then some ((r1 ++ ([([x.2] : List y7)] : List yb)), true) else Option.bind (zT x) fun r18 => Option.bind (zu r18) fun r19 => Option.bind (bif (decide ((List.length r18 : Int) > (8 : Int))) then some true else Option.bind (zJ r19) fun r21 => some (!r21)) fun u20 => bif u20 then Option.bind (zE x.1) fun r22 => some (r22, false) else some (r19, true) else none
theorem yCD : EV [q67, q86, q98, yxc, yvb, yAj] lpN 97 Tryz.f97 yzO ysN yyb wI := fun x => by kernel_rfl
def q97 : QF := ⟨97, wI, okN (n := 0) Tryz.func97 trivial yCD⟩
def Y9 (x : ytr) : Option Qz8 :=
 if (0 : Int) ≤ (0 : Int) then if (0 : Int) ≤ x.2.2.1 then if x.2.2.1 ≤ (List.length x.1 : Int) then Option.bind (j9 (List.drop (Int.toNat (0 : Int)) (List.take (Int.toNat x.2.2.1) x.1))) fun r1 => if (List.length r1 + List.length x.2.2.2.2.1) * 8 < 140737488355328 then if (0 : Int) ≤ (Go.IntKind.wrap .i64 (x.2.2.1 + x.2.2.2.1)) then if (Go.IntKind.wrap .i64 (x.2.2.1 + x.2.2.2.1)) ≤ (List.length x.1 : Int) then if (List.length x.1 : Int) ≤ (List.length x.1 : Int) then if (List.length (r1 ++ x.2.2.2.2.1) + List.length (List.drop (Int.toNat (Go.IntKind.wrap .i64 (x.2.2.1 + x.2.2.2.1))) (List.take (Int.toNat (List.length x.1 : Int)) x.1))) * 8 < 140737488355328 then if (0 : Int) ≤ (0 : Int) then if (0 : Int) ≤ x.2.2.1 then if x.2.2.1 ≤ (List.length x.2.1 : Int) then if (List.length ([] : List y0) + List.length (List.drop (Int.toNat (0 : Int)) (List.take (Int.toNat x.2.2.1) x.2.1))) * 24 < 140737488355328 then if (List.length (([] : List y0) ++ (List.drop (Int.toNat (0 : Int)) (List.take (Int.toNat x.2.2.1) x.2.1))) + List.length x.2.2.2.2.2) * 24 < 140737488355328 then if (0 : Int) ≤ (Go.IntKind.wrap .i64 (x.2.2.1 + x.2.2.2.1)) then if (Go.IntKind.wrap .i64 (x.2.2.1 + x.2.2.2.1)) ≤ (List.length x.2.1 : Int) then if (List.length x.2.1 : Int) ≤ (List.length x.2.1 : Int) then if (List.length ((([] : List y0) ++ (List.drop (Int.toNat (0 : Int)) (List.take (Int.toNat x.2.2.1) x.2.1))) ++ x.2.2.2.2.2) + List.length (List.drop (Int.toNat (Go.IntKind.wrap .i64 (x.2.2.1 + x.2.2.2.1))) (List.take (Int.toNat (List.length x.2.1 : Int)) x.2.1))) * 24 < 140737488355328 then some (((r1 ++ x.2.2.2.2.1) ++ (List.drop (Int.toNat (Go.IntKind.wrap .i64 (x.2.2.1 + x.2.2.2.1))) (List.take (Int.toNat (List.length x.1 : Int)) x.1))), (((([] : List y0) ++ (List.drop (Int.toNat (0 : Int)) (List.take (Int.toNat x.2.2.1) x.2.1))) ++ x.2.2.2.2.2) ++ (List.drop (Int.toNat (Go.IntKind.wrap .i64 (x.2.2.1 + x.2.2.2.1))) (List.take (Int.toNat (List.length x.2.1 : Int)) x.2.1)))) else none else none else none else none else none else none else none else none else none else none else none else none else none else none else none else none else none
theorem yCE : EV [q85] lpN 99 Tryz.f99 yzP yts qz8 Y9 := fun x => by kernel_rfl
def q99 : QF := ⟨99, Y9, okN (n := 0) Tryz.func99 trivial yCE⟩
abbrev V8 : Type := y9z ⊕ y9z
def V9 (k0 : Qz8 → Option R) (k1 : Qz8 → Option R) (again : V8 → Option R) : V8 → Option R
 | .inl t2 => bif (decide ((Go.IntKind.wrap .i64 (t2.1 + (1 : Int))) < (List.length t2.2.2 : Int))) then if (0 : Int) ≤ t2.1 then if t2.1 < (List.length t2.2.2 : Int) then Option.bind (yP (ye t2.2.2 t2.1)) fun r1 => if (0 : Int) ≤ (Go.IntKind.wrap .i64 (t2.1 + (1 : Int))) then if (Go.IntKind.wrap .i64 (t2.1 + (1 : Int))) < (List.length t2.2.2 : Int) then Option.bind (yP (ye t2.2.2 (Go.IntKind.wrap .i64 (t2.1 + (1 : Int))))) fun r2 => if (List.length r1 + List.length r2) * 40 < 140737488355328 then bif (decide ((List.length (r1 ++ r2) : Int) ≤ (6 : Int))) then if (0 : Int) ≤ t2.1 then if t2.1 < (List.length t2.2.1 : Int) then Option.bind (zu (r1 ++ r2)) fun r3 => Option.bind (Y9 (t2.2.1, t2.2.2, t2.1, (2 : Int), ([(zw t2.2.1 t2.1)] : List yd), ([r3] : List y0))) fun r4 => again (Sum.inr ((Go.IntKind.wrap .i64 ((-1 : Int) + (1 : Int))), r4.1, r4.2)) else none else none else again (Sum.inl ((Go.IntKind.wrap .i64 (t2.1 + (1 : Int))), t2.2.1, t2.2.2)) else none else none else none else none else none else k0 t2.2
 | .inr t2 => bif (decide ((Go.IntKind.wrap .i64 (t2.1 + (1 : Int))) < (List.length t2.2.2 : Int))) then if (0 : Int) ≤ t2.1 then if t2.1 < (List.length t2.2.2 : Int) then Option.bind (yP (ye t2.2.2 t2.1)) fun r5 => if (0 : Int) ≤ (Go.IntKind.wrap .i64 (t2.1 + (1 : Int))) then if (Go.IntKind.wrap .i64 (t2.1 + (1 : Int))) < (List.length t2.2.2 : Int) then Option.bind (yP (ye t2.2.2 (Go.IntKind.wrap .i64 (t2.1 + (1 : Int))))) fun r6 => if (List.length r5 + List.length r6) * 40 < 140737488355328 then bif (decide ((List.length (r5 ++ r6) : Int) ≤ (6 : Int))) then if (0 : Int) ≤ t2.1 then if t2.1 < (List.length t2.2.1 : Int) then Option.bind (zu (r5 ++ r6)) fun r7 => Option.bind (Y9 (t2.2.1, t2.2.2, t2.1, (2 : Int), ([(zw t2.2.1 t2.1)] : List yd), ([r7] : List y0))) fun r8 => again (Sum.inr ((Go.IntKind.wrap .i64 ((-1 : Int) + (1 : Int))), r8.1, r8.2)) else none else none else again (Sum.inr ((Go.IntKind.wrap .i64 (t2.1 + (1 : Int))), t2.2.1, t2.2.2)) else none else none else none else none else none else k1 t2.2
def y02 k0 k1 := zV (@V9 R k0 k1) Yg
def ZB (x : Qz8) : Option Qz8 :=
 y02 (fun x9 => some x9) (fun x10 => some x10) (Sum.inl ((0 : Int), x.1, x.2))
def yeW : List QF := [q37, q99, yxc]
def y3s (t : y9z) : St := ⟨.dead :: .box 1 0 :: .box 2 0 :: vI t.1 :: dd 39 [], [(1, .box [zj t.2.1, yJ t.2.2]), (2, .box [.nils, .nils])]⟩
theorem ygS : ∀ s t, unG yfA y3s s = some t → y3s t = s := yu fun t => by kernel_rfl
def y3t (t : y9z) : St := ⟨.dead :: .box 1 0 :: .box 2 0 :: vI t.1 :: dd 39 [], [(1, .box [.own 10000000, .own 10000001]), (2, .box [.nils, .nils]), (10000000, .root true 3 yf t.2.1), (10000001, .root true 84 yk t.2.2)]⟩
theorem ygT : ∀ s t, unG yfA y3t s = some t → y3t t = s := yu fun t => by kernel_rfl
def y3u : (y9z ⊕ y9z) → St := Sum.elim y3s y3t
def y7y (s : St) : Option (y9z ⊕ y9z) := ((unG yfA y3s s).map Sum.inl).or (((unG yfA y3t) s).map Sum.inr)
theorem ygU : ∀ s t, y7y s = some t → y3u t = s := y8C ygS ygT
def ybU : Gk V8 := fun κ => V9 (fun t => κ (some 0) ⟨.dead :: .box 1 0 :: .box 2 0 :: dd 40 [], [(1, .box [zj t.1, yJ t.2]), (2, .box [.nils, .nils])]⟩) (fun t => κ (some 0) ⟨.dead :: .box 1 0 :: .box 2 0 :: dd 40 [], [(1, .box [.own 10000000, .own 10000001]), (2, .box [.nils, .nils]), (10000000, .root true 3 yf t.1), (10000001, .root true 84 yk t.2)]⟩)
def yeX : Lp := lpC 2 y7y @ybU lpN
theorem ygV : LF yeW yeX 102 2 Tryz.f102 0 y3u @ybU fun v : y9z => .inl v := fun R κ again v => by kernel_rfl
theorem ygW : LF yeW yeX 102 2 Tryz.f102 0 y3u @ybU fun v : y9z => .inr v := fun R κ again v => by kernel_rfl
theorem yrr : LF yeW yeX 102 2 Tryz.f102 0 y3u @ybU fun t => t := (LC.sum ygV ygW)
theorem yrs : LK yeW yeX 102 Tryz.f102 0 := lkN (u := y7y) ygU yrr
theorem yxd : EV yeW yeX 102 Tryz.f102 yp5 qz8 qz8 ZB := fun x => by kernel_rfl
def yCF : QF := ⟨102, ZB, okN (n := 1) Tryz.func102 ⟨yrs, trivial⟩ yxd⟩
def wJ (x : yyc) : Option yye :=
 Option.bind (Yx (x.1, x.2.1)) fun r1 => Option.bind (bif (!r1) then some true else Option.bind (Wa x.2.2) fun r3 => some (!r3)) fun u2 => bif u2 then Option.bind (zF (x.1, x.2.1)) fun r4 => some (r4.1, r4.2, false) else Option.bind (J2 (x.1, x.2.1, x.2.2.1, x.2.2.2.1)) fun r5 => Option.bind (zF (x.1, x.2.1)) fun r6 => if (0 : Int) ≤ r5 then if r5 < (List.length r6.2 : Int) then Option.bind (wI ((ye r6.2 r5), x.2.2.1, x.2.2.2.1, x.2.2.2.2.1, x.2.2.2.2.2.1, x.2.2.2.2.2.2)) fun r7 => bif (!r7.2) then if (0 : Int) ≤ r5 then if r5 < (List.length r6.2 : Int) then Option.bind (zT ((ye r6.2 r5), x.2.2.1, x.2.2.2.1, x.2.2.2.2.1, x.2.2.2.2.2.1, x.2.2.2.2.2.2)) fun r8 => if (0 : Int) ≤ (Go.IntKind.wrap .i64 (Int.tdiv (Go.IntKind.wrap .i64 ((List.length r8 : Int) + (1 : Int))) (2 : Int))) then if (Go.IntKind.wrap .i64 (Int.tdiv (Go.IntKind.wrap .i64 ((List.length r8 : Int) + (1 : Int))) (2 : Int))) < (List.length r8 : Int) then if (0 : Int) ≤ r5 then if r5 < (List.length x.1 : Int) then Option.bind (Zv ((y6 r8 (Go.IntKind.wrap .i64 (Int.tdiv (Go.IntKind.wrap .i64 ((List.length r8 : Int) + (1 : Int))) (2 : Int)))).1, (y6 r8 (Go.IntKind.wrap .i64 (Int.tdiv (Go.IntKind.wrap .i64 ((List.length r8 : Int) + (1 : Int))) (2 : Int)))).2.1)) fun r9 => if (0 : Int) ≤ (0 : Int) then if (0 : Int) ≤ (Go.IntKind.wrap .i64 (Int.tdiv (Go.IntKind.wrap .i64 ((List.length r8 : Int) + (1 : Int))) (2 : Int))) then if (Go.IntKind.wrap .i64 (Int.tdiv (Go.IntKind.wrap .i64 ((List.length r8 : Int) + (1 : Int))) (2 : Int))) ≤ (List.length r8 : Int) then Option.bind (zu (List.drop (Int.toNat (0 : Int)) (List.take (Int.toNat (Go.IntKind.wrap .i64 (Int.tdiv (Go.IntKind.wrap .i64 ((List.length r8 : Int) + (1 : Int))) (2 : Int)))) r8))) fun r10 => if (0 : Int) ≤ (Go.IntKind.wrap .i64 (Int.tdiv (Go.IntKind.wrap .i64 ((List.length r8 : Int) + (1 : Int))) (2 : Int))) then if (Go.IntKind.wrap .i64 (Int.tdiv (Go.IntKind.wrap .i64 ((List.length r8 : Int) + (1 : Int))) (2 : Int))) ≤ (List.length r8 : Int) then if (List.length r8 : Int) ≤ (List.length r8 : Int) then Option.bind (zu (List.drop (Int.toNat (Go.IntKind.wrap .i64 (Int.tdiv (Go.IntKind.wrap .i64 ((List.length r8 : Int) + (1 : Int))) (2 : Int)))) (List.take (Int.toNat (List.length r8 : Int)) r8))) fun r11 => Option.bind (Y9 (r6.1, r6.2, r5, (1 : Int), ([(zw x.1 r5), r9] : List yd), ([r10, r11] : List y0))) fun r12 => Option.bind (ZB r12) fun r13 => Option.bind (Yx r13) fun r14 => bif (!r14) then Option.bind (zF (x.1, x.2.1)) fun r15 => some (r15.1, r15.2, false) else some (r13.1, r13.2, true) else none else none else none else none else none else none else none else none else none else none else none else none else Option.bind (bif (decide (r5 > (0 : Int))) then Option.bind (yP r7.1) fun r17 => some ((List.length r17 : Int) == (0 : Int)) else some false) fun u16 => bif u16 then Option.bind (Y9 (r6.1, r6.2, r5, (1 : Int), ([] : List yd), ([] : List y0))) fun r18 => Option.bind (ZB r18) fun r19 => Option.bind (Yx r19) fun r20 => bif (!r20) then Option.bind (zF (x.1, x.2.1)) fun r21 => some (r21.1, r21.2, false) else some (r19.1, r19.2, true) else if (0 : Int) ≤ r5 then if r5 < (List.length r6.2 : Int) then Option.bind (ZB (r6.1, (List.set r6.2 (Int.toNat r5) r7.1))) fun r22 => Option.bind (Yx r22) fun r23 => bif (!r23) then Option.bind (zF (x.1, x.2.1)) fun r24 => some (r24.1, r24.2, false) else some (r22.1, r22.2, true) else none else none else none else none
theorem yCG : EV [q37, q38, q53, q94, q96, q97, q98, q99, yvu, yxc, yCF] lpN 63 Tryz.f63 yzQ yyd yyf wJ := fun x => by kernel_rfl
def q63 : QF := ⟨63, wJ, okN (n := 0) Tryz.func63 trivial yCG⟩
def JO (x : ylK) : Option (List y8) :=
 Option.bind (zG x.1) fun r1 => Option.bind (ZM x.1) fun r2 => Option.bind (bif (!r2) then some true else Option.bind (yD (x.2, (0 : Int), (23 : Int))) fun r4 => some (!r4)) fun u3 => Option.bind (bif u3 then some true else if (0 : Int) ≤ x.2 then if x.2 < (List.length x.1 : Int) then some (!((yo x.1 x.2).2.1)) else none else none) fun u5 => bif u5 then some r1 else if (0 : Int) ≤ x.2 then if x.2 < (List.length x.1 : Int) then if (0 : Int) ≤ x.2 then if x.2 < (List.length r1 : Int) then some (List.set r1 (Int.toNat x.2) ((Int.tmod (Go.IntKind.wrap .i64 ((yo x.1 x.2).1 + (1 : Int))) (1000 : Int)), false, (0 : Int))) else none else none else none else none
theorem yCH : EV [q40, q41, q55] lpN 64 Tryz.f64 yzR ylL [(.sl 79 yg)] JO := fun x => by kernel_rfl
def q64 : QF := ⟨64, JO, okN (n := 0) Tryz.func64 trivial yCH⟩
def YI (x : ymh) : Option yi6 :=
 Option.bind (kl (x.1, x.2.1, x.2.2.2.2.2.2.1, x.2.2.2.2.2.2.2.1)) fun r1 => Option.bind (wJ (x.1, x.2.1, x.2.2.2.2.2.2)) fun r2 => Option.bind (bif r2.2.2 then some r1.2.2.2.2.2 else some false) fun u3 => Option.bind (bif u3 then some (r1.2.2.1 == (1 : Int)) else some false) fun u4 => bif u4 then Option.bind (JO (x.2.2.2.1, r1.2.2.2.1)) fun r5 => some (r2.2.2, r2.1, r2.2.1, x.2.2.1, r5, x.2.2.2.2.1, x.2.2.2.2.2.1) else some (r2.2.2, r2.1, r2.2.1, x.2.2.1, x.2.2.2.1, x.2.2.2.2.1, x.2.2.2.2.2.1)
theorem yCI : EV [q62, q63, q64] lpN 36 Tryz.f36 yzS ymi ys6 YI := fun x => by kernel_rfl
def q36 : QF := ⟨36, YI, okN (n := 0) Tryz.func36 trivial yCI⟩
def ZC (x : yyg) : Option y8H :=
 Option.bind (Zf (x.1, x.2.1, x.2.2.1, x.2.2.2.1, x.2.2.2.2.1, x.2.2.2.2.2.1, x.2.2.2.2.2.2.1, x.2.2.2.2.2.2.2.1, true)) fun r1 => Option.bind (bif (r1.2 == (0 : Int)) then Option.bind (jB x.2.2.2.2.2.2.2.2) fun r3 => some (!r3) else some false) fun u2 => bif u2 then bif ((4 : Int) != (0 : Int)) then Option.bind (yQ (x.1, x.2.1, x.2.2.1, x.2.2.2.1, x.2.2.2.2.1, x.2.2.2.2.2.1)) fun r4 => some (r4.1, r4.2.1, r4.2.2.1, r4.2.2.2.1, r4.2.2.2.2.1, r4.2.2.2.2.2, (4 : Int)) else Option.bind (yQ (x.1, x.2.1, x.2.2.1, x.2.2.2.1, x.2.2.2.2.1, x.2.2.2.2.2.1)) fun r5 => Option.bind (jh (x.2.2.2.1, x.2.2.2.2.2.2.2.2)) fun r6 => bif (!r6.2.2) then Option.bind (yQ (x.1, x.2.1, x.2.2.1, x.2.2.2.1, x.2.2.2.2.1, x.2.2.2.2.2.1)) fun r7 => some (r7.1, r7.2.1, r7.2.2.1, r7.2.2.2.1, r7.2.2.2.2.1, r7.2.2.2.2.2, (6 : Int)) else if (0 : Int) ≤ r1.1 then if r1.1 < (List.length x.2.2.2.2.1 : Int) then if (0 : Int) ≤ r6.2.1 then if r6.2.1 < (List.length r6.1 : Int) then Option.bind (YI (r5.1, r5.2.1, r5.2.2.1, r6.1, r5.2.2.2.2.1, r5.2.2.2.2.2, x.2.2.2.2.2.2.2.1, (ya x.2.2.2.2.1 r1.1).2.1, (1 : Int), r6.2.1, (yo r6.1 r6.2.1).1)) fun r8 => Option.bind (Yz (x.1, x.2.1, x.2.2.1, x.2.2.2.1, x.2.2.2.2.1, x.2.2.2.2.2.1, r8.2.1, r8.2.2.1, r8.2.2.2.1, r8.2.2.2.2.1, r8.2.2.2.2.2.1, r8.2.2.2.2.2.2, r8.1)) fun r9 => some r9 else none else none else none else none else bif (r1.2 != (0 : Int)) then Option.bind (yQ (x.1, x.2.1, x.2.2.1, x.2.2.2.1, x.2.2.2.2.1, x.2.2.2.2.2.1)) fun r10 => some (r10.1, r10.2.1, r10.2.2.1, r10.2.2.2.1, r10.2.2.2.2.1, r10.2.2.2.2.2, r1.2) else Option.bind (yQ (x.1, x.2.1, x.2.2.1, x.2.2.2.1, x.2.2.2.2.1, x.2.2.2.2.2.1)) fun r11 => Option.bind (jh (x.2.2.2.1, x.2.2.2.2.2.2.2.2)) fun r12 => bif (!r12.2.2) then Option.bind (yQ (x.1, x.2.1, x.2.2.1, x.2.2.2.1, x.2.2.2.2.1, x.2.2.2.2.2.1)) fun r13 => some (r13.1, r13.2.1, r13.2.2.1, r13.2.2.2.1, r13.2.2.2.2.1, r13.2.2.2.2.2, (6 : Int)) else if (0 : Int) ≤ r1.1 then if r1.1 < (List.length x.2.2.2.2.1 : Int) then if (0 : Int) ≤ r12.2.1 then if r12.2.1 < (List.length r12.1 : Int) then Option.bind (YI (r11.1, r11.2.1, r11.2.2.1, r12.1, r11.2.2.2.2.1, r11.2.2.2.2.2, x.2.2.2.2.2.2.2.1, (ya x.2.2.2.2.1 r1.1).2.1, (1 : Int), r12.2.1, (yo r12.1 r12.2.1).1)) fun r14 => Option.bind (Yz (x.1, x.2.1, x.2.2.1, x.2.2.2.1, x.2.2.2.2.1, x.2.2.2.2.2.1, r14.2.1, r14.2.2.1, r14.2.2.2.1, r14.2.2.2.2.1, r14.2.2.2.2.2.1, r14.2.2.2.2.2.2, r14.1)) fun r15 => some r15 else none else none else none else none
theorem yCJ : EV [q23, q26, q33, q34, q35, q36] lpN 11 Tryz.f11 yzT yyh y8I ZC := fun x => by kernel_rfl
def q11 : QF := ⟨11, ZC, okN (n := 0) Tryz.func11 trivial yCJ⟩
def wW (x : ymf) : Option yi5 :=
 Option.bind (Zf (x.1, x.2.1, x.2.2.1, x.2.2.2.1, x.2.2.2.2.1, x.2.2.2.2.2.1, x.2.2.2.2.2.2.1, x.2.2.2.2.2.2.2, false)) fun r1 => bif (r1.2 != (0 : Int)) then some ((0 : Int), r1.2) else Option.bind (Z0 (x.1, x.2.1, x.2.2.1, x.2.2.2.1, x.2.2.2.2.1, x.2.2.2.2.2.1, r1.1, x.2.2.2.2.2.2.2)) fun r2 => some (r2, (0 : Int))
theorem yCK : EV [q30, q33] lpN 12 Tryz.f12 yzU ymg yjr wW := fun x => by kernel_rfl
def q12 : QF := ⟨12, wW, okN (n := 0) Tryz.func12 trivial yCK⟩
def ZN (x : List y4U) : Option Bool :=
 Option.bind (y0p x) fun r1 => bif r1 then some true else Option.bind (Jv x) fun r2 => bif ((List.length r2.2.2.2.2.1 : Int) == (0 : Int)) then Option.bind (jC (r2.1, r2.2.1, r2.2.2.1, r2.2.2.2.1, r2.2.2.2.2.1, r2.2.2.2.2.2.1, { data := #[97] }, { data := #[122] }, false)) fun r3 => some (r3.2.2.2.2.2.2 == (2 : Int)) else Option.bind (V2 (x, (2 : Int))) fun r4 => if (List.length r2.2.2.2.2.1 : Int) = 0 then none else if (0 : Int) ≤ (Int.tmod r4 (List.length r2.2.2.2.2.1 : Int)) then if (Int.tmod r4 (List.length r2.2.2.2.2.1 : Int)) < (List.length r2.2.2.2.2.1 : Int) then Option.bind (V2 (x, (3 : Int))) fun r5 => Option.bind (jC (r2.1, r2.2.1, r2.2.2.1, r2.2.2.2.1, r2.2.2.2.2.1, r2.2.2.2.2.2.1, (ya r2.2.2.2.2.1 (Int.tmod r4 (List.length r2.2.2.2.2.1 : Int))).1, { data := #[122] }, ((Int.tmod r5 (2 : Int)) == (0 : Int)))) fun r6 => bif (r6.2.2.2.2.2.2 != (0 : Int)) then Option.bind (bif (r6.2.2.2.2.2.2 == (6 : Int)) then Option.bind (jg (r6.1, r6.2.1, r6.2.2.1, r6.2.2.2.1, r6.2.2.2.2.1, r6.2.2.2.2.2.1, r2.1, r2.2.1, r2.2.2.1, r2.2.2.2.1, r2.2.2.2.2.1, r2.2.2.2.2.2.1)) fun r8 => some r8 else some false) fun u7 => some u7 else Option.bind (jD (r6.1, r6.2.1, r6.2.2.1, r6.2.2.2.1, r6.2.2.2.2.1, r6.2.2.2.2.2.1)) fun r9 => Option.bind (ZA (r9, (ya r2.2.2.2.2.1 (Int.tmod r4 (List.length r2.2.2.2.2.1 : Int))).1)) fun r10 => Option.bind (ZA (r9, { data := #[122] })) fun r11 => Option.bind (ZC (r6.1, r6.2.1, r6.2.2.1, r6.2.2.2.1, r6.2.2.2.2.1, r6.2.2.2.2.2.1, (ya r2.2.2.2.2.1 (Int.tmod r4 (List.length r2.2.2.2.2.1 : Int))).1, (0 : Int), (4321 : Int))) fun r12 => Option.bind (wW (r12.1, r12.2.1, r12.2.2.1, r12.2.2.2.1, r12.2.2.2.2.1, r12.2.2.2.2.2.1, { data := #[122] }, (0 : Int))) fun r13 => Option.bind (bif (decide (r10 ≥ (0 : Int))) then some (decide (r11 ≥ (0 : Int))) else some false) fun u14 => Option.bind (bif u14 then if (0 : Int) ≤ r10 then if r10 < (List.length r9 : Int) then if (0 : Int) ≤ r11 then if r11 < (List.length r9 : Int) then Option.bind (YC ((y1B r9 r10).2.2, (y1B r9 r11).2.2)) fun r16 => some r16 else none else none else none else none else some false) fun u15 => Option.bind (bif u15 then Option.bind (YN r6.2.2.2.1) fun r18 => Option.bind (YN r2.2.2.2.1) fun r19 => some (r18 == r19) else some false) fun u17 => Option.bind (bif u17 then Option.bind (zD (r6.1, r6.2.1)) fun r21 => Option.bind (zD (r2.1, r2.2.1)) fun r22 => some ((List.length r21 : Int) == (List.length r22 : Int)) else some false) fun u20 => Option.bind (bif u20 then if (0 : Int) ≤ r11 then if r11 < (List.length r9 : Int) then Option.bind (V2 (x, (3 : Int))) fun r24 => some ((y1B r9 r11).2.1 == ((Int.tmod r24 (2 : Int)) == (0 : Int))) else none else none else some false) fun u23 => Option.bind (bif u23 then some (r13.2 == (0 : Int)) else some false) fun u25 => Option.bind (bif u25 then if (0 : Int) ≤ r11 then if r11 < (List.length r9 : Int) then if (0 : Int) ≤ (0 : Int) then if (0 : Int) < ((List.length ((y1B r9 r11).2.2) : Nat) : Int) then some (r13.1 == (zw ((y1B r9 r11).2.2) (0 : Int))) else none else none else none else none else some false) fun u26 => Option.bind (bif u26 then Option.bind (bif (r12.2.2.2.2.2.2 != (0 : Int)) then some true else Option.bind (Yy (r12.1, r12.2.1, r12.2.2.1, r12.2.2.2.1, r12.2.2.2.2.1, r12.2.2.2.2.2.1)) fun r29 => some r29) fun u28 => some u28 else some false) fun u27 => some u27 else none else none
theorem ev3 : EV [q4, q5, q6, q7, q8, q9, q10, q11, q12, q13, q14, q15, q16] lpN 3 Tryz.f3 sg3 [(.sl 5 kw)] [.bool] ZN := fun x => by kernel_rfl
def q3 : QF := ⟨3, ZN, okN (n := 0) Tryz.func3 trivial ev3⟩
end
end Go.Proofs.YtgediecndaheiaaGreat.XS
