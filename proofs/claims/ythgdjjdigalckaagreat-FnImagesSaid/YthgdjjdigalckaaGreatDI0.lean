/- What functions compute, and that they do; part 0 of I; by a program (dec.py). No condition. -/
import Derived.Test.YthgdjjdigalckaaGreatXI
set_option linter.all false
namespace Go.Proofs.YthgdjjdigalckaaGreat.XI
open Go.Proofs.YthgdjjdigalckaaGreat.R
set_option maxRecDepth 100000
noncomputable section
variable {R : Type}
def y1x (x : List za) : Option Bool :=
 some (decide ((List.length x : Int) > (1048576 : Int)))
theorem ev9 : EV [] lpN 9 Tryz.f9 sg9 [(.sl 5 yu)] [.bool] y1x := fun x => by kernel_rfl
def q9 : QF := ⟨9, y1x, okN (n := 0) Tryz.func9 trivial ev9⟩
abbrev Ko : Type := Qz0
def j8 (k0 : Bool → Option R) (k1 : Unit → Option R) (again : Ko → Option R) (t4 : Ko) : Option R :=
 bif (decide (t4.2.2 < (List.length t4.1 : Int))) then if (0 : Int) ≤ t4.2.2 then if t4.2.2 < (List.length t4.1 : Int) then if (0 : Int) ≤ t4.2.2 then if t4.2.2 < (List.length t4.2.1 : Int) then bif ((zL t4.1 t4.2.2) != (zL t4.2.1 t4.2.2)) then k0 false else again (t4.1, t4.2.1, (Go.IntKind.wrap .i64 (t4.2.2 + (1 : Int)))) else none else none else none else none else k1 ()
def Qh k0 k1 := zh (@j8 R k0 k1) zu
def JH (x : Qz1) : Option Bool :=
 bif ((List.length x.1 : Int) != (List.length x.2 : Int)) then some false else Qh (fun x1 => some x1) (fun x2 => some true) (x.1, x.2, (0 : Int))
def yAM : List QF := []
def ycs (t : Qz0) : St := ⟨zc t.1 :: zc t.2.1 :: dd 3 (vI t.2.2 :: dd 20 []), []⟩
def yuY : Gk Ko := fun κ => j8 (fun t => κ none ⟨dd 4 (vB t :: dd 21 []), []⟩) (fun t => κ (some 0) ⟨dd 26 [], []⟩)
def yAN : Lp := lpC 4 (unG qz0 ycs) @yuY lpN
theorem yAO : LF yAM yAN 27 4 Tryz.f27 0 ycs @yuY fun t => t := fun R κ again t => by kernel_rfl
theorem yAP : LK yAM yAN 27 Tryz.f27 0 := lkN (u := (unG qz0 ycs)) (yo fun t => by kernel_rfl) yAO
theorem yHs : EV yAM yAN 27 Tryz.f27 yFV qz1 [.bool] JH := fun x => by kernel_rfl
def q27 : QF := ⟨27, JH, okN (n := 1) Tryz.func27 ⟨yAP, trivial⟩ yHs⟩
abbrev Kp : Type := Qz2
def j9 (k0 : Bool → Option R) (k1 : Unit → Option R) (again : Kp → Option R) (t4 : Kp) : Option R :=
 bif (decide (t4.2.2 < (List.length t4.1 : Int))) then if (0 : Int) ≤ t4.2.2 then if t4.2.2 < (List.length t4.1 : Int) then if (0 : Int) ≤ t4.2.2 then if t4.2.2 < (List.length t4.2.1 : Int) then bif (!(((y6 t4.1 t4.2.2).1 == (y6 t4.2.1 t4.2.2).1) && (((y6 t4.1 t4.2.2).2.1 == (y6 t4.2.1 t4.2.2).2.1) && (((y6 t4.1 t4.2.2).2.2.1 == (y6 t4.2.1 t4.2.2).2.2.1) && (((y6 t4.1 t4.2.2).2.2.2.1 == (y6 t4.2.1 t4.2.2).2.2.2.1) && (((y6 t4.1 t4.2.2).2.2.2.2 == (y6 t4.2.1 t4.2.2).2.2.2.2) && true)))))) then k0 false else again (t4.1, t4.2.1, (Go.IntKind.wrap .i64 (t4.2.2 + (1 : Int)))) else none else none else none else none else k1 ()
def Qi k0 k1 := zh (@j9 R k0 k1) zu
def JI (x : Qz3) : Option Bool :=
 bif ((List.length x.1 : Int) != (List.length x.2 : Int)) then some false else Qi (fun x1 => some x1) (fun x2 => some true) (x.1, x.2, (0 : Int))
def ync : List QF := []
def y82 (t : Qz2) : St := ⟨qx t.1 :: qx t.2.1 :: dd 3 (vI t.2.2 :: dd 20 []), []⟩
def ylf : Gk Kp := fun κ => j9 (fun t => κ none ⟨dd 4 (vB t :: dd 21 []), []⟩) (fun t => κ (some 0) ⟨dd 26 [], []⟩)
def ynd : Lp := lpC 4 (unG qz2 y82) @ylf lpN
theorem yuZ : LF ync ynd 311 4 Tryz.f311 0 y82 @ylf fun t => t := fun R κ again t => by kernel_rfl
theorem yv0 : LK ync ynd 311 Tryz.f311 0 := lkN (u := (unG qz2 y82)) (yo fun t => by kernel_rfl) yuZ
theorem yAQ : EV ync ynd 311 Tryz.f311 ysh qz3 [.bool] JI := fun x => by kernel_rfl
def yHt : QF := ⟨311, JI, okN (n := 1) Tryz.func311 ⟨yv0, trivial⟩ yAQ⟩
abbrev Kq : Type := Qz4
def ja (k0 : Bool → Option R) (k1 : Unit → Option R) (again : Kq → Option R) (t4 : Kq) : Option R :=
 bif (decide (t4.1 < (List.length t4.2.1 : Int))) then if (0 : Int) ≤ t4.1 then if t4.1 < (List.length t4.2.1 : Int) then if (0 : Int) ≤ t4.1 then if t4.1 < (List.length t4.2.2 : Int) then Option.bind (JI ((yr t4.2.1 t4.1), (yr t4.2.2 t4.1))) fun r1 => bif (!r1) then k0 false else again ((Go.IntKind.wrap .i64 (t4.1 + (1 : Int))), t4.2.1, t4.2.2) else none else none else none else none else k1 ()
def Qj k0 k1 := zh (@ja R k0 k1) zu
def JJ (x : Qz5) : Option Bool :=
 bif ((List.length x.1 : Int) != (List.length x.2 : Int)) then some false else Qj (fun x2 => some x2) (fun x3 => some true) ((0 : Int), x.1, x.2)
def yne : List QF := [yHt]
def y83 (t : Qz4) : St := ⟨dd 2 (.box 2 0 :: .box 3 0 :: .dead :: vI t.1 :: dd 26 []), [(2, .box [Yc t.2.1]), (3, .box [Yc t.2.2])]⟩
def ylg : Gk Kq := fun κ => ja (fun t => κ none ⟨dd 4 (vB t :: dd 27 []), []⟩) (fun t => κ (some 0) ⟨dd 32 [], []⟩)
def ynf : Lp := lpC 4 (unG qz4 y83) @ylg lpN
theorem yv1 : LF yne ynf 237 4 Tryz.f237 0 y83 @ylg fun t => t := fun R κ again t => by kernel_rfl
theorem yv2 : LK yne ynf 237 Tryz.f237 0 := lkN (u := (unG qz4 y83)) (yo fun t => by kernel_rfl) yv1
theorem yAR : EV yne ynf 237 Tryz.f237 ysi qz5 [.bool] JJ := fun x => by kernel_rfl
def yHu : QF := ⟨237, JJ, okN (n := 1) Tryz.func237 ⟨yv2, trivial⟩ yAR⟩
abbrev Kr : Type := Qz6
def jc (k0 : Bool → Option R) (k1 : Unit → Option R) (again : Kr → Option R) (t4 : Kr) : Option R :=
 bif (decide (t4.1 < (List.length t4.2.2.1 : Int))) then if (0 : Int) ≤ t4.1 then if t4.1 < (List.length t4.2.2.1 : Int) then if (0 : Int) ≤ t4.1 then if t4.1 < (List.length t4.2.2.2.2 : Int) then Option.bind (JJ ((yg t4.2.2.1 t4.1), (yg t4.2.2.2.2 t4.1))) fun r3 => bif (!r3) then k0 false else again ((Go.IntKind.wrap .i64 (t4.1 + (1 : Int))), t4.2.1, t4.2.2.1, t4.2.2.2.1, t4.2.2.2.2) else none else none else none else none else k1 ()
def Qk k0 k1 := zh (@jc R k0 k1) zu
def JK (x : Qz7) : Option Bool :=
 Option.bind (JH (x.1, x.2.2.1)) fun r1 => Option.bind (bif (!r1) then some true else some ((List.length x.2.1 : Int) != (List.length x.2.2.2 : Int))) fun u2 => bif u2 then some false else Qk (fun x4 => some x4) (fun x5 => some true) ((0 : Int), x.1, x.2.1, x.2.2.1, x.2.2.2)
def yng : List QF := [q27, yHu]
def y84 (t : Qz6) : St := ⟨dd 2 (.box 2 0 :: .box 3 0 :: .dead :: vI t.1 :: dd 34 []), [(2, .box [zc t.2.1, yw t.2.2.1]), (3, .box [zc t.2.2.2.1, yw t.2.2.2.2])]⟩
def ylh : Gk Kr := fun κ => jc (fun t => κ none ⟨dd 4 (vB t :: dd 35 []), []⟩) (fun t => κ (some 0) ⟨dd 40 [], []⟩)
def ynh : Lp := lpC 4 (unG qz6 y84) @ylh lpN
theorem yv3 : LF yng ynh 107 4 Tryz.f107 0 y84 @ylh fun t => t := fun R κ again t => by kernel_rfl
theorem yv4 : LK yng ynh 107 Tryz.f107 0 := lkN (u := (unG qz6 y84)) (yo fun t => by kernel_rfl) yv3
theorem yAS : EV yng ynh 107 Tryz.f107 ysj qz7 [.bool] JK := fun x => by kernel_rfl
def yHv : QF := ⟨107, JK, okN (n := 1) Tryz.func107 ⟨yv4, trivial⟩ yAS⟩
abbrev Kt : Type := Qz8
def jd (k0 : Bool → Option R) (k1 : Unit → Option R) (again : Kt → Option R) (t4 : Kt) : Option R :=
 bif (decide (t4.2.2 < (List.length t4.1 : Int))) then if (0 : Int) ≤ t4.2.2 then if t4.2.2 < (List.length t4.1 : Int) then if (0 : Int) ≤ t4.2.2 then if t4.2.2 < (List.length t4.2.1 : Int) then bif (!(((yG t4.1 t4.2.2).1 == (yG t4.2.1 t4.2.2).1) && (((yG t4.1 t4.2.2).2 == (yG t4.2.1 t4.2.2).2) && true))) then k0 false else again (t4.1, t4.2.1, (Go.IntKind.wrap .i64 (t4.2.2 + (1 : Int)))) else none else none else none else none else k1 ()
def Ql k0 k1 := zh (@jd R k0 k1) zu
def JL (x : Qz9) : Option Bool :=
 bif ((List.length x.1 : Int) != (List.length x.2 : Int)) then some false else Ql (fun x1 => some x1) (fun x2 => some true) (x.1, x.2, (0 : Int))
def yni : List QF := []
def y85 (t : Qz8) : St := ⟨zk t.1 :: zk t.2.1 :: dd 3 (vI t.2.2 :: dd 20 []), []⟩
def yli : Gk Kt := fun κ => jd (fun t => κ none ⟨dd 4 (vB t :: dd 21 []), []⟩) (fun t => κ (some 0) ⟨dd 26 [], []⟩)
def ynj : Lp := lpC 4 (unG qz8 y85) @yli lpN
theorem yv5 : LF yni ynj 108 4 Tryz.f108 0 y85 @yli fun t => t := fun R κ again t => by kernel_rfl
theorem yv6 : LK yni ynj 108 Tryz.f108 0 := lkN (u := (unG qz8 y85)) (yo fun t => by kernel_rfl) yv5
theorem yAT : EV yni ynj 108 Tryz.f108 ysk qz9 [.bool] JL := fun x => by kernel_rfl
def yHw : QF := ⟨108, JL, okN (n := 1) Tryz.func108 ⟨yv6, trivial⟩ yAT⟩
abbrev WX : Type := yEL
def Zr (k0 : Bool → Option R) (k1 : Unit → Option R) (again : WX → Option R) (t4 : WX) : Option R :=
 bif (decide (t4.2.2 < (List.length t4.1 : Int))) then if (0 : Int) ≤ t4.2.2 then if t4.2.2 < (List.length t4.1 : Int) then if (0 : Int) ≤ t4.2.2 then if t4.2.2 < (List.length t4.2.1 : Int) then bif (!(((yp t4.1 t4.2.2).1 == (yp t4.2.1 t4.2.2).1) && (((yp t4.1 t4.2.2).2.1 == (yp t4.2.1 t4.2.2).2.1) && (((yp t4.1 t4.2.2).2.2 == (yp t4.2.1 t4.2.2).2.2) && true)))) then k0 false else again (t4.1, t4.2.1, (Go.IntKind.wrap .i64 (t4.2.2 + (1 : Int)))) else none else none else none else none else k1 ()
def qG k0 k1 := zh (@Zr R k0 k1) zu
def J0 (x : yEN) : Option Bool :=
 bif ((List.length x.1 : Int) != (List.length x.2 : Int)) then some false else qG (fun x1 => some x1) (fun x2 => some true) (x.1, x.2, (0 : Int))
def ynk : List QF := []
def y86 (t : yEL) : St := ⟨yI t.1 :: yI t.2.1 :: dd 3 (vI t.2.2 :: dd 20 []), []⟩
def ylj : Gk WX := fun κ => Zr (fun t => κ none ⟨dd 4 (vB t :: dd 21 []), []⟩) (fun t => κ (some 0) ⟨dd 26 [], []⟩)
def ynl : Lp := lpC 4 (unG yEM y86) @ylj lpN
theorem yv7 : LF ynk ynl 109 4 Tryz.f109 0 y86 @ylj fun t => t := fun R κ again t => by kernel_rfl
theorem yv8 : LK ynk ynl 109 Tryz.f109 0 := lkN (u := (unG yEM y86)) (yo fun t => by kernel_rfl) yv7
theorem yAU : EV ynk ynl 109 Tryz.f109 ysl yEO [.bool] J0 := fun x => by kernel_rfl
def yHx : QF := ⟨109, J0, okN (n := 1) Tryz.func109 ⟨yv8, trivial⟩ yAU⟩
abbrev Ku : Type := yEP
def je (k0 : Bool → Option R) (k1 : Unit → Option R) (again : Ku → Option R) (t4 : Ku) : Option R :=
 bif (decide (t4.1 < (List.length t4.2.2.2.2.2.1 : Int))) then if (0 : Int) ≤ t4.1 then if t4.1 < (List.length t4.2.2.2.2.2.1 : Int) then if (0 : Int) ≤ t4.1 then if t4.1 < (List.length t4.2.2.2.2.2.2.2.2.2.2.2.1 : Int) then bif (!((ByteArray.toList ((yl t4.2.2.2.2.2.1 t4.1).1) == ByteArray.toList ((yl t4.2.2.2.2.2.2.2.2.2.2.2.1 t4.1).1)) && (((yl t4.2.2.2.2.2.1 t4.1).2.1 == (yl t4.2.2.2.2.2.2.2.2.2.2.2.1 t4.1).2.1) && (((yl t4.2.2.2.2.2.1 t4.1).2.2.1 == (yl t4.2.2.2.2.2.2.2.2.2.2.2.1 t4.1).2.2.1) && (((yl t4.2.2.2.2.2.1 t4.1).2.2.2 == (yl t4.2.2.2.2.2.2.2.2.2.2.2.1 t4.1).2.2.2) && true))))) then k0 false else again ((Go.IntKind.wrap .i64 (t4.1 + (1 : Int))), t4.2.1, t4.2.2.1, t4.2.2.2.1, t4.2.2.2.2.1, t4.2.2.2.2.2.1, t4.2.2.2.2.2.2.1, t4.2.2.2.2.2.2.2.1, t4.2.2.2.2.2.2.2.2.1, t4.2.2.2.2.2.2.2.2.2.1, t4.2.2.2.2.2.2.2.2.2.2.1, t4.2.2.2.2.2.2.2.2.2.2.2.1, t4.2.2.2.2.2.2.2.2.2.2.2.2) else none else none else none else none else k1 ()
def Kv k0 k1 := zh (@je R k0 k1) zu
def Z5 (x : yzl) : Option Bool :=
 Option.bind (JK (x.1, x.2.1, x.2.2.2.2.2.2.1, x.2.2.2.2.2.2.2.1)) fun r1 => Option.bind (bif (!r1) then some true else Option.bind (JL (x.2.2.1, x.2.2.2.2.2.2.2.2.1)) fun r3 => some (!r3)) fun u2 => Option.bind (bif u2 then some true else Option.bind (J0 (x.2.2.2.1, x.2.2.2.2.2.2.2.2.2.1)) fun r5 => some (!r5)) fun u4 => Option.bind (bif u4 then some true else some ((List.length x.2.2.2.2.1 : Int) != (List.length x.2.2.2.2.2.2.2.2.2.2.1 : Int))) fun u6 => Option.bind (bif u6 then some true else some (x.2.2.2.2.2.1 != x.2.2.2.2.2.2.2.2.2.2.2)) fun u7 => bif u7 then some false else Kv (fun x8 => some x8) (fun x9 => some true) ((0 : Int), x.1, x.2.1, x.2.2.1, x.2.2.2.1, x.2.2.2.2.1, x.2.2.2.2.2.1, x.2.2.2.2.2.2.1, x.2.2.2.2.2.2.2.1, x.2.2.2.2.2.2.2.2.1, x.2.2.2.2.2.2.2.2.2.1, x.2.2.2.2.2.2.2.2.2.2.1, x.2.2.2.2.2.2.2.2.2.2.2)
def yAV : List QF := [yHv, yHw, yHx]
def yct (t : yEP) : St := ⟨dd 2 (.box 2 0 :: .box 3 0 :: .dead :: vI t.1 :: dd 56 []), [(2, .box [zc t.2.1, yw t.2.2.1, zk t.2.2.2.1, yI t.2.2.2.2.1, zM t.2.2.2.2.2.1, vI t.2.2.2.2.2.2.1]), (3, .box [zc t.2.2.2.2.2.2.2.1, yw t.2.2.2.2.2.2.2.2.1, zk t.2.2.2.2.2.2.2.2.2.1, yI t.2.2.2.2.2.2.2.2.2.2.1, zM t.2.2.2.2.2.2.2.2.2.2.2.1, vI t.2.2.2.2.2.2.2.2.2.2.2.2])]⟩
def yv9 : Gk Ku := fun κ => je (fun t => κ none ⟨dd 4 (vB t :: dd 57 []), []⟩) (fun t => κ (some 0) ⟨dd 62 [], []⟩)
def yAW : Lp := lpC 4 (unG yEQ yct) @yv9 lpN
theorem yAX : LF yAV yAW 17 4 Tryz.f17 0 yct @yv9 fun t => t := fun R κ again t => by kernel_rfl
theorem yAY : LK yAV yAW 17 Tryz.f17 0 := lkN (u := (unG yEQ yct)) (yo fun t => by kernel_rfl) yAX
theorem yHy : EV yAV yAW 17 Tryz.f17 yFW yzm [.bool] Z5 := fun x => by kernel_rfl
def q17 : QF := ⟨17, Z5, okN (n := 1) Tryz.func17 ⟨yAY, trivial⟩ yHy⟩
def z7 (x : yzn) : Option Bool :=
 Option.bind (bif (decide (x.1 ≥ x.2.1)) then some (decide (x.1 ≤ x.2.2)) else some false) fun u1 => some u1
theorem yHz : EV [] lpN 92 Tryz.f92 yFX yzo [.bool] z7 := fun x => by kernel_rfl
def q92 : QF := ⟨92, z7, okN (n := 0) Tryz.func92 trivial yHz⟩
def Jh (x : yyw) : Option Bool :=
 Option.bind (bif (decide (x.1 < x.2.2.2.2.2.1)) then some true else Option.bind (bif (x.1 == x.2.2.2.2.2.1) then some (decide (x.2.1 < x.2.2.2.2.2.2.1)) else some false) fun u2 => some u2) fun u1 => some u1
theorem yAZ : EV [] lpN 342 Tryz.f342 ysm yyx [.bool] Jh := fun x => by kernel_rfl
def yGp : QF := ⟨342, Jh, okN (n := 0) Tryz.func342 trivial yAZ⟩
def jg (x : yyw) : Option Bool :=
 Option.bind (bif (x.1 == x.2.2.2.2.2.1) then some (x.2.1 == x.2.2.2.2.2.2.1) else some false) fun u1 => some u1
theorem yB0 : EV [] lpN 343 Tryz.f343 ysn yyx [.bool] jg := fun x => by kernel_rfl
def yHA : QF := ⟨343, jg, okN (n := 0) Tryz.func343 trivial yB0⟩
abbrev WY : Type := yER
def Z6 (k0 : yET → Option R) (again : WY → Option R) (t4 : WY) : Option R :=
 bif (decide (t4.2.2.2.1 < t4.2.2.1)) then if (0 : Int) ≤ t4.2.2.2.1 then if t4.2.2.2.1 < (List.length t4.2.1 : Int) then Option.bind (bif (!t4.1) then Option.bind (Jh ((y6 t4.2.1 t4.2.2.2.1).1, (y6 t4.2.1 t4.2.2.2.1).2.1, (y6 t4.2.1 t4.2.2.2.1).2.2.1, (y6 t4.2.1 t4.2.2.2.1).2.2.2.1, (y6 t4.2.1 t4.2.2.2.1).2.2.2.2, t4.2.2.2.2.1, t4.2.2.2.2.2.1, t4.2.2.2.2.2.2.1, t4.2.2.2.2.2.2.2.1, t4.2.2.2.2.2.2.2.2.1)) fun r2 => some (!r2) else some false) fun u1 => bif u1 then if (List.length t4.2.2.2.2.2.2.2.2.2 + List.length ([(t4.2.2.2.2.1, t4.2.2.2.2.2.1, t4.2.2.2.2.2.2.1, t4.2.2.2.2.2.2.2.1, t4.2.2.2.2.2.2.2.2.1)] : List y9)) * 40 < 140737488355328 then Option.bind (jg ((y6 t4.2.1 t4.2.2.2.1).1, (y6 t4.2.1 t4.2.2.2.1).2.1, (y6 t4.2.1 t4.2.2.2.1).2.2.1, (y6 t4.2.1 t4.2.2.2.1).2.2.2.1, (y6 t4.2.1 t4.2.2.2.1).2.2.2.2, t4.2.2.2.2.1, t4.2.2.2.2.2.1, t4.2.2.2.2.2.2.1, t4.2.2.2.2.2.2.2.1, t4.2.2.2.2.2.2.2.2.1)) fun r3 => bif (!r3) then if (List.length (t4.2.2.2.2.2.2.2.2.2 ++ ([(t4.2.2.2.2.1, t4.2.2.2.2.2.1, t4.2.2.2.2.2.2.1, t4.2.2.2.2.2.2.2.1, t4.2.2.2.2.2.2.2.2.1)] : List y9)) + List.length ([((y6 t4.2.1 t4.2.2.2.1).1, (y6 t4.2.1 t4.2.2.2.1).2.1, (y6 t4.2.1 t4.2.2.2.1).2.2.1, (y6 t4.2.1 t4.2.2.2.1).2.2.2.1, (y6 t4.2.1 t4.2.2.2.1).2.2.2.2)] : List y9)) * 40 < 140737488355328 then again (true, t4.2.1, t4.2.2.1, (Go.IntKind.wrap .i64 (t4.2.2.2.1 + (1 : Int))), t4.2.2.2.2.1, t4.2.2.2.2.2.1, t4.2.2.2.2.2.2.1, t4.2.2.2.2.2.2.2.1, t4.2.2.2.2.2.2.2.2.1, ((t4.2.2.2.2.2.2.2.2.2 ++ ([(t4.2.2.2.2.1, t4.2.2.2.2.2.1, t4.2.2.2.2.2.2.1, t4.2.2.2.2.2.2.2.1, t4.2.2.2.2.2.2.2.2.1)] : List y9)) ++ ([((y6 t4.2.1 t4.2.2.2.1).1, (y6 t4.2.1 t4.2.2.2.1).2.1, (y6 t4.2.1 t4.2.2.2.1).2.2.1, (y6 t4.2.1 t4.2.2.2.1).2.2.2.1, (y6 t4.2.1 t4.2.2.2.1).2.2.2.2)] : List y9))) else none else again (true, t4.2.1, t4.2.2.1, (Go.IntKind.wrap .i64 (t4.2.2.2.1 + (1 : Int))), t4.2.2.2.2.1, t4.2.2.2.2.2.1, t4.2.2.2.2.2.2.1, t4.2.2.2.2.2.2.2.1, t4.2.2.2.2.2.2.2.2.1, (t4.2.2.2.2.2.2.2.2.2 ++ ([(t4.2.2.2.2.1, t4.2.2.2.2.2.1, t4.2.2.2.2.2.2.1, t4.2.2.2.2.2.2.2.1, t4.2.2.2.2.2.2.2.2.1)] : List y9))) else none else Option.bind (jg ((y6 t4.2.1 t4.2.2.2.1).1, (y6 t4.2.1 t4.2.2.2.1).2.1, (y6 t4.2.1 t4.2.2.2.1).2.2.1, (y6 t4.2.1 t4.2.2.2.1).2.2.2.1, (y6 t4.2.1 t4.2.2.2.1).2.2.2.2, t4.2.2.2.2.1, t4.2.2.2.2.2.1, t4.2.2.2.2.2.2.1, t4.2.2.2.2.2.2.2.1, t4.2.2.2.2.2.2.2.2.1)) fun r4 => bif (!r4) then if (List.length t4.2.2.2.2.2.2.2.2.2 + List.length ([((y6 t4.2.1 t4.2.2.2.1).1, (y6 t4.2.1 t4.2.2.2.1).2.1, (y6 t4.2.1 t4.2.2.2.1).2.2.1, (y6 t4.2.1 t4.2.2.2.1).2.2.2.1, (y6 t4.2.1 t4.2.2.2.1).2.2.2.2)] : List y9)) * 40 < 140737488355328 then again (t4.1, t4.2.1, t4.2.2.1, (Go.IntKind.wrap .i64 (t4.2.2.2.1 + (1 : Int))), t4.2.2.2.2.1, t4.2.2.2.2.2.1, t4.2.2.2.2.2.2.1, t4.2.2.2.2.2.2.2.1, t4.2.2.2.2.2.2.2.2.1, (t4.2.2.2.2.2.2.2.2.2 ++ ([((y6 t4.2.1 t4.2.2.2.1).1, (y6 t4.2.1 t4.2.2.2.1).2.1, (y6 t4.2.1 t4.2.2.2.1).2.2.1, (y6 t4.2.1 t4.2.2.2.1).2.2.2.1, (y6 t4.2.1 t4.2.2.2.1).2.2.2.2)] : List y9))) else none else again (t4.1, t4.2.1, t4.2.2.1, (Go.IntKind.wrap .i64 (t4.2.2.2.1 + (1 : Int))), t4.2.2.2.2.1, t4.2.2.2.2.2.1, t4.2.2.2.2.2.2.1, t4.2.2.2.2.2.2.2.1, t4.2.2.2.2.2.2.2.2.1, t4.2.2.2.2.2.2.2.2.2) else none else none else k0 (t4.1, t4.2.2.2.2)
def VF k0 := zh (@Z6 R k0) zu
def WZ (x : yEU) : Option (List y9) :=
 VF (fun x5 => bif (!x5.1) then if (List.length x5.2.2.2.2.2.2 + List.length ([(x5.2.1, x5.2.2.1, x5.2.2.2.1, x5.2.2.2.2.1, x5.2.2.2.2.2.1)] : List y9)) * 40 < 140737488355328 then some (x5.2.2.2.2.2.2 ++ ([(x5.2.1, x5.2.2.1, x5.2.2.2.1, x5.2.2.2.2.1, x5.2.2.2.2.2.1)] : List y9)) else none else some x5.2.2.2.2.2.2) (false, x.1, (List.length x.1 : Int), (0 : Int), x.2.1, x.2.2.1, x.2.2.2.1, x.2.2.2.2.1, x.2.2.2.2.2, ([] : List y9))
def ynm : List QF := [yGp, yHA]
def y87 (t : yER) : St := ⟨dd 3 (.box 3 0 :: .dead :: .own 10000000 :: vB t.1 :: dd 3 (qx t.2.1 :: vI t.2.2.1 :: vI t.2.2.2.1 :: dd 31 [])), [(3, .box [vI t.2.2.2.2.1, vI t.2.2.2.2.2.1, vI t.2.2.2.2.2.2.1, vI t.2.2.2.2.2.2.2.1, vI t.2.2.2.2.2.2.2.2.1]), (10000000, .root true 64 yi t.2.2.2.2.2.2.2.2.2)]⟩
def ylk : Gk WY := fun κ => Z6 (fun t => κ (some 0) ⟨dd 3 (.box 3 0 :: .dead :: .own 10000000 :: vB t.1 :: dd 37 []), [(3, .box [vI t.2.1, vI t.2.2.1, vI t.2.2.2.1, vI t.2.2.2.2.1, vI t.2.2.2.2.2.1]), (10000000, .root true 64 yi t.2.2.2.2.2.2)]⟩)
def ynn : Lp := lpC 4 (unG yES y87) @ylk lpN
theorem yva : LF ynm ynn 302 4 Tryz.f302 0 y87 @ylk fun t => t := fun R κ again t => by kernel_rfl
theorem yvb : LK ynm ynn 302 Tryz.f302 0 := lkN (u := (unG yES y87)) (yo fun t => by kernel_rfl) yva
theorem yB1 : EV ynm ynn 302 Tryz.f302 yso yEV [(.sl 64 yi)] WZ := fun x => by kernel_rfl
def yHB : QF := ⟨302, WZ, okN (n := 1) Tryz.func302 ⟨yvb, trivial⟩ yB1⟩
def k6 (x : List y9) : Option (List y9) :=
 if (List.length ([] : List y9) + List.length x) * 40 < 140737488355328 then some (([] : List y9) ++ x) else none
theorem yB2 : EV [] lpN 303 Tryz.f303 ysp [(.sl 64 yi)] [(.sl 64 yi)] k6 := fun x => by kernel_rfl
def yHC : QF := ⟨303, k6, okN (n := 0) Tryz.func303 trivial yB2⟩
abbrev k7 : Type := yyy
def Zs (k0 : List y9 → Option R) (again : k7 → Option R) (t3 : k7) : Option R :=
 bif (decide (t3.2.2.1 < t3.2.1)) then if (0 : Int) ≤ t3.2.2.1 then if t3.2.2.1 < (List.length t3.1 : Int) then Option.bind (WZ (t3.2.2.2, (y6 t3.1 t3.2.2.1).1, (y6 t3.1 t3.2.2.1).2.1, (y6 t3.1 t3.2.2.1).2.2.1, (y6 t3.1 t3.2.2.1).2.2.2.1, (y6 t3.1 t3.2.2.1).2.2.2.2)) fun r2 => again (t3.1, t3.2.1, (Go.IntKind.wrap .i64 (t3.2.2.1 + (1 : Int))), r2) else none else none else k0 t3.2.2.2
def qH k0 := zh (@Zs R k0) zu
def Zj (x : Qz3) : Option (List y9) :=
 Option.bind (k6 x.1) fun r1 => qH (fun x3 => some x3) (x.2, (List.length x.2 : Int), (0 : Int), r1)
def yno : List QF := [yHB, yHC]
def y88 (t : yyy) : St := ⟨dd 5 (.own 10000000 :: dd 4 (qx t.1 :: vI t.2.1 :: vI t.2.2.1 :: dd 8 [])), [(10000000, .root true 64 yi t.2.2.2)]⟩
def yll : Gk k7 := fun κ => Zs (fun t => κ (some 0) ⟨dd 5 (.own 10000000 :: dd 15 []), [(10000000, .root true 64 yi t)]⟩)
def ynp : Lp := lpC 3 (unG yyz y88) @yll lpN
theorem yvc : LF yno ynp 249 3 Tryz.f249 0 y88 @yll fun t => t := fun R κ again t => by kernel_rfl
theorem yvd : LK yno ynp 249 Tryz.f249 0 := lkN (u := (unG yyz y88)) (yo fun t => by kernel_rfl) yvc
theorem yB3 : EV yno ynp 249 Tryz.f249 ysq qz3 [(.sl 64 yi)] Zj := fun x => by kernel_rfl
def yHD : QF := ⟨249, Zj, okN (n := 1) Tryz.func249 ⟨yvd, trivial⟩ yB3⟩
abbrev QT : Type := yyy
def k8 (k0 : List y9 → Option R) (again : QT → Option R) (t3 : QT) : Option R :=
 bif (decide (t3.2.2.1 < t3.2.1)) then if (0 : Int) ≤ t3.2.2.1 then if t3.2.2.1 < (List.length t3.1 : Int) then bif ((y6 t3.1 t3.2.2.1).2.2.1 != (0 : Int)) then if (List.length t3.2.2.2 + List.length ([((y6 t3.1 t3.2.2.1).1, (y6 t3.1 t3.2.2.1).2.1, (y6 t3.1 t3.2.2.1).2.2.1, (y6 t3.1 t3.2.2.1).2.2.2.1, (y6 t3.1 t3.2.2.1).2.2.2.2)] : List y9)) * 40 < 140737488355328 then again (t3.1, t3.2.1, (Go.IntKind.wrap .i64 (t3.2.2.1 + (1 : Int))), (t3.2.2.2 ++ ([((y6 t3.1 t3.2.2.1).1, (y6 t3.1 t3.2.2.1).2.1, (y6 t3.1 t3.2.2.1).2.2.1, (y6 t3.1 t3.2.2.1).2.2.2.1, (y6 t3.1 t3.2.2.1).2.2.2.2)] : List y9))) else none else again (t3.1, t3.2.1, (Go.IntKind.wrap .i64 (t3.2.2.1 + (1 : Int))), t3.2.2.2) else none else none else k0 t3.2.2.2
def y2z k0 := zh (@k8 R k0) zu
def Kw (x : List y9) : Option (List y9) :=
 y2z (fun x1 => some x1) (x, (List.length x : Int), (0 : Int), ([] : List y9))
def ynq : List QF := []
def y89 (t : yyy) : St := ⟨dd 3 (.own 10000000 :: dd 3 (qx t.1 :: vI t.2.1 :: vI t.2.2.1 :: dd 12 [])), [(10000000, .root true 64 yi t.2.2.2)]⟩
def ylm : Gk QT := fun κ => k8 (fun t => κ (some 0) ⟨dd 3 (.own 10000000 :: dd 18 []), [(10000000, .root true 64 yi t)]⟩)
def ynr : Lp := lpC 3 (unG yyz y89) @ylm lpN
theorem yve : LF ynq ynr 250 3 Tryz.f250 0 y89 @ylm fun t => t := fun R κ again t => by kernel_rfl
theorem yvf : LK ynq ynr 250 Tryz.f250 0 := lkN (u := (unG yyz y89)) (yo fun t => by kernel_rfl) yve
theorem yB4 : EV ynq ynr 250 Tryz.f250 ysr [(.sl 64 yi)] [(.sl 64 yi)] Kw := fun x => by kernel_rfl
def yHE : QF := ⟨250, Kw, okN (n := 1) Tryz.func250 ⟨yvf, trivial⟩ yB4⟩
abbrev Kx : Type := yEW
def jh (k0 : List y9 → Option R) (again : Kx → Option R) (t3 : Kx) : Option R :=
 bif (decide (t3.2.2.1 < t3.2.1)) then if (0 : Int) ≤ t3.2.2.1 then if t3.2.2.1 < (List.length t3.1 : Int) then Option.bind (Zj (t3.2.2.2, (yr t3.1 t3.2.2.1))) fun r1 => again (t3.1, t3.2.1, (Go.IntKind.wrap .i64 (t3.2.2.1 + (1 : Int))), r1) else none else none else k0 t3.2.2.2
def Qm k0 := zh (@jh R k0) zu
def Yr (x : List y7) : Option (List y9) :=
 Qm (fun x2 => Option.bind (Kw x2) fun r3 => some r3) (x, (List.length x : Int), (0 : Int), ([] : List y9))
def yns : List QF := [yHD, yHE]
def y8a (t : yEW) : St := ⟨dd 3 (.own 10000000 :: dd 4 (Yc t.1 :: vI t.2.1 :: vI t.2.2.1 :: dd 9 [])), [(10000000, .root true 64 yi t.2.2.2)]⟩
def yln : Gk Kx := fun κ => jh (fun t => κ (some 0) ⟨dd 3 (.own 10000000 :: dd 16 []), [(10000000, .root true 64 yi t)]⟩)
def ynt : Lp := lpC 3 (unG yEX y8a) @yln lpN
theorem yvg : LF yns ynt 127 3 Tryz.f127 0 y8a @yln fun t => t := fun R κ again t => by kernel_rfl
theorem yvh : LK yns ynt 127 Tryz.f127 0 := lkN (u := (unG yEX y8a)) (yo fun t => by kernel_rfl) yvg
theorem yB5 : EV yns ynt 127 Tryz.f127 yss [(.sl 58 yn)] [(.sl 64 yi)] Yr := fun x => by kernel_rfl
def yGq : QF := ⟨127, Yr, okN (n := 1) Tryz.func127 ⟨yvh, trivial⟩ yB5⟩
def JM (x : yla) : Option Bool :=
 Option.bind (z7 (x.1, (0 : Int), (15 : Int))) fun r1 => Option.bind (bif (!r1) then some true else Option.bind (z7 (x.2.1, (1 : Int), (60 : Int))) fun r3 => some (!r3)) fun u2 => Option.bind (bif u2 then some true else Option.bind (z7 (x.2.2.1, (0 : Int), (2 : Int))) fun r5 => some (!r5)) fun u4 => bif u4 then some false else bif (x.2.2.1 != (1 : Int)) then Option.bind (bif (x.2.2.2.1 == (0 : Int)) then some (x.2.2.2.2 == (0 : Int)) else some false) fun u6 => some u6 else Option.bind (z7 (x.2.2.2.1, (0 : Int), (23 : Int))) fun r7 => Option.bind (bif r7 then Option.bind (z7 (x.2.2.2.2, (0 : Int), (999 : Int))) fun r9 => some r9 else some false) fun u8 => some u8
theorem yB6 : EV [q92] lpN 218 Tryz.f218 yst QE [.bool] JM := fun x => by kernel_rfl
def yB7 : QF := ⟨218, JM, okN (n := 0) Tryz.func218 trivial yB6⟩
abbrev qR : Type := yyA
def W1 (k0 : yEY → Option R) (k1 : List y9 → Option R) (again : qR → Option R) (t2 : qR) : Option R :=
 bif (decide (t2.2.2.2 < t2.2.2.1)) then if (0 : Int) ≤ t2.2.2.2 then if t2.2.2.2 < (List.length t2.2.1 : Int) then Option.bind (JM ((y6 t2.2.1 t2.2.2.2).1, (y6 t2.2.1 t2.2.2.2).2.1, (y6 t2.2.1 t2.2.2.2).2.2.1, (y6 t2.2.1 t2.2.2.2).2.2.2.1, (y6 t2.2.1 t2.2.2.2).2.2.2.2)) fun r1 => Option.bind (bif (!r1) then some true else Option.bind (bif (decide (t2.2.2.2 > (0 : Int))) then if (0 : Int) ≤ (Go.IntKind.wrap .i64 (t2.2.2.2 - (1 : Int))) then if (Go.IntKind.wrap .i64 (t2.2.2.2 - (1 : Int))) < (List.length t2.1 : Int) then Option.bind (Jh ((y6 t2.1 (Go.IntKind.wrap .i64 (t2.2.2.2 - (1 : Int)))).1, (y6 t2.1 (Go.IntKind.wrap .i64 (t2.2.2.2 - (1 : Int)))).2.1, (y6 t2.1 (Go.IntKind.wrap .i64 (t2.2.2.2 - (1 : Int)))).2.2.1, (y6 t2.1 (Go.IntKind.wrap .i64 (t2.2.2.2 - (1 : Int)))).2.2.2.1, (y6 t2.1 (Go.IntKind.wrap .i64 (t2.2.2.2 - (1 : Int)))).2.2.2.2, (y6 t2.2.1 t2.2.2.2).1, (y6 t2.2.1 t2.2.2.2).2.1, (y6 t2.2.1 t2.2.2.2).2.2.1, (y6 t2.2.1 t2.2.2.2).2.2.2.1, (y6 t2.2.1 t2.2.2.2).2.2.2.2)) fun r4 => some (!r4) else none else none else some false) fun u3 => some u3) fun u2 => bif u2 then k0 (t2.1, false) else again (t2.1, t2.2.1, t2.2.2.1, (Go.IntKind.wrap .i64 (t2.2.2.2 + (1 : Int)))) else none else none else k1 t2.1
def y1P k0 k1 := zh (@W1 R k0 k1) zu
def vH (x : List y9) : Option Bool :=
 y1P (fun x5 => some x5.2) (fun x6 => some (decide ((List.length x6 : Int) ≤ (60 : Int)))) (x, x, (List.length x : Int), (0 : Int))
def ynu : List QF := [yB7, yGp]
def y8b (t : yyA) : St := ⟨qx t.1 :: dd 4 (qx t.2.1 :: vI t.2.2.1 :: vI t.2.2.2 :: dd 25 []), []⟩
def ylo : Gk qR := fun κ => W1 (fun t => κ none ⟨qx t.1 :: .dead :: vB t.2 :: dd 30 [], []⟩) (fun t => κ (some 0) ⟨qx t :: dd 32 [], []⟩)
def ynv : Lp := lpC 2 (unG yyB y8b) @ylo lpN
theorem yvi : LF ynu ynv 323 2 Tryz.f323 0 y8b @ylo fun t => t := fun R κ again t => by kernel_rfl
theorem yvj : LK ynu ynv 323 Tryz.f323 0 := lkN (u := (unG yyB y8b)) (yo fun t => by kernel_rfl) yvi
theorem yB8 : EV ynu ynv 323 Tryz.f323 ysu [(.sl 64 yi)] [.bool] vH := fun x => by kernel_rfl
def yHF : QF := ⟨323, vH, okN (n := 1) Tryz.func323 ⟨yvj, trivial⟩ yB8⟩
abbrev VG : Type := yEZ
def JN (k0 : yH4 → Option R) (k1 : ylb → Option R) (again : VG → Option R) (t3 : VG) : Option R :=
 bif (decide (t3.2.2.2.1 < t3.2.2.1)) then if (0 : Int) ≤ t3.2.2.2.1 then if t3.2.2.2.1 < (List.length t3.2.1 : Int) then Option.bind (vH (yr t3.2.1 t3.2.2.2.1)) fun r1 => Option.bind (bif (!r1) then some true else some ((List.length (yr t3.2.1 t3.2.2.2.1) : Int) == (0 : Int))) fun u2 => bif u2 then k0 (false, t3.1, t3.2.2.2.2) else again ((Go.IntKind.wrap .i64 (t3.1 + (List.length (yr t3.2.1 t3.2.2.2.1) : Int))), t3.2.1, t3.2.2.1, (Go.IntKind.wrap .i64 (t3.2.2.2.1 + (1 : Int))), t3.2.2.2.2) else none else none else k1 (t3.1, t3.2.2.2.2)
def y0H k0 k1 := zh (@JN R k0 k1) zu
def k9 (x : List y7) : Option Bool :=
 y0H (fun x3 => some x3.1) (fun x4 => Option.bind (bif (decide ((List.length x4.2 : Int) ≤ (3 : Int))) then some (decide (x4.1 ≤ (8 : Int))) else some false) fun u5 => some u5) ((0 : Int), x, (List.length x : Int), (0 : Int), x)
def ynw : List QF := [yHF]
def y8c (t : yEZ) : St := ⟨.dead :: .box 1 0 :: .dead :: vI t.1 :: dd 3 (Yc t.2.1 :: vI t.2.2.1 :: vI t.2.2.2.1 :: dd 24 []), [(1, .box [Yc t.2.2.2.2])]⟩
def ylp : Gk VG := fun κ => JN (fun t => κ none ⟨.dead :: .box 1 0 :: vB t.1 :: vI t.2.1 :: dd 30 [], [(1, .box [Yc t.2.2])]⟩) (fun t => κ (some 0) ⟨.dead :: .box 1 0 :: .dead :: vI t.1 :: dd 30 [], [(1, .box [Yc t.2])]⟩)
def ynx : Lp := lpC 3 (unG yF0 y8c) @ylp lpN
theorem yvk : LF ynw ynx 251 3 Tryz.f251 0 y8c @ylp fun t => t := fun R κ again t => by kernel_rfl
theorem yvl : LK ynw ynx 251 Tryz.f251 0 := lkN (u := (unG yF0 y8c)) (yo fun t => by kernel_rfl) yvk
theorem yB9 : EV ynw ynx 251 Tryz.f251 ysv [(.sl 58 yn)] [.bool] k9 := fun x => by kernel_rfl
def yHG : QF := ⟨251, k9, okN (n := 1) Tryz.func251 ⟨yvl, trivial⟩ yB9⟩
def Vr (x : yq6) : Option Int :=
 some (Go.IntKind.wrap .i64 ((Go.IntKind.wrap .i64 ((64 : Int) * x.1)) + x.2))
theorem yBa : EV [] lpN 223 Tryz.f223 ysw yqz [(.int .i64)] Vr := fun x => by kernel_rfl
def yHH : QF := ⟨223, Vr, okN (n := 0) Tryz.func223 trivial yBa⟩
abbrev Ky : Type := yF1
def ji (k0 : yH5 → Option R) (k1 : yzp → Option R) (again : Ky → Option R) (t5 : Ky) : Option R :=
 bif (decide (t5.2.2.2.2.2.2.1 < t5.2.2.2.2.2.1)) then if (0 : Int) ≤ t5.2.2.2.2.2.2.1 then if t5.2.2.2.2.2.2.1 < (List.length t5.2.2.2.2.1 : Int) then Option.bind (Vr ((y6 t5.2.2.2.2.1 t5.2.2.2.2.2.2.1).1, (y6 t5.2.2.2.2.1 t5.2.2.2.2.2.2.1).2.1)) fun r1 => if (0 : Int) ≤ t5.1 then if t5.1 < (List.length t5.2.2.2.2.2.2.2.1 : Int) then Option.bind (bif (decide (r1 < (zL t5.2.2.2.2.2.2.2.1 t5.1))) then some true else Option.bind (bif (decide ((Go.IntKind.wrap .i64 (t5.1 + (1 : Int))) < (List.length t5.2.2.2.2.2.2.2.1 : Int))) then if (0 : Int) ≤ (Go.IntKind.wrap .i64 (t5.1 + (1 : Int))) then if (Go.IntKind.wrap .i64 (t5.1 + (1 : Int))) < (List.length t5.2.2.2.2.2.2.2.1 : Int) then some (decide (r1 ≥ (zL t5.2.2.2.2.2.2.2.1 (Go.IntKind.wrap .i64 (t5.1 + (1 : Int)))))) else none else none else some false) fun u3 => some u3) fun u2 => bif u2 then k0 (t5.1, false, t5.2.1, t5.2.2.1, t5.2.2.2.1, t5.2.2.2.2.2.2.2) else again (t5.1, t5.2.1, t5.2.2.1, t5.2.2.2.1, t5.2.2.2.2.1, t5.2.2.2.2.2.1, (Go.IntKind.wrap .i64 (t5.2.2.2.2.2.2.1 + (1 : Int))), t5.2.2.2.2.2.2.2.1, t5.2.2.2.2.2.2.2.2) else none else none else none else none else k1 (t5.1, t5.2.1, t5.2.2.1, t5.2.2.2.1, t5.2.2.2.2.2.2.2)
def Kz k0 k1 := zh (@ji R k0 k1) zu
abbrev KA : Type := yzp
def jj (k0 : Bool → Option R) (k1 : Unit → Option R) (again : KA → Option R) (t2 : KA) : Option R :=
 bif (decide (t2.2.2.2.1 < t2.2.2.1)) then if (0 : Int) ≤ t2.2.2.2.1 then if t2.2.2.2.1 < (List.length t2.2.1 : Int) then Kz (fun x4 => k0 x4.2.1) (fun x5 => again (x5.1, x5.2.1, x5.2.2.1, (Go.IntKind.wrap .i64 (x5.2.2.2.1 + (1 : Int))), x5.2.2.2.2.1, x5.2.2.2.2.2)) (t2.1, t2.2.1, t2.2.2.1, t2.2.2.2.1, (yr t2.2.1 t2.2.2.2.1), (List.length (yr t2.2.1 t2.2.2.2.1) : Int), (0 : Int), t2.2.2.2.2.1, t2.2.2.2.2.2) else none else none else k1 ()
def Qn k0 k1 := zh (@jj R k0 k1) zu
def JO (x : yyD) : Option Bool :=
 if (0 : Int) ≤ x.2.2 then if x.2.2 < (List.length x.2.1 : Int) then Qn (fun x6 => some x6) (fun x7 => some true) (x.2.2, (yg x.2.1 x.2.2), (List.length (yg x.2.1 x.2.2) : Int), (0 : Int), x.1, x.2.1) else none else none
def ygu : List QF := [yHH]
def y8d (t : yF1) : St := ⟨.dead :: vI t.1 :: .box 2 0 :: dd 12 (Yc t.2.1 :: vI t.2.2.1 :: vI t.2.2.2.1 :: dd 3 (qx t.2.2.2.2.1 :: vI t.2.2.2.2.2.1 :: vI t.2.2.2.2.2.2.1 :: dd 35 [])), [(2, .box [zc t.2.2.2.2.2.2.2.1, yw t.2.2.2.2.2.2.2.2])]⟩
def ylq : Gk Ky := fun κ => ji (fun t => κ none ⟨.dead :: vI t.1 :: .box 2 0 :: .dead :: vB t.2.1 :: dd 10 (Yc t.2.2.1 :: vI t.2.2.2.1 :: vI t.2.2.2.2.1 :: dd 41 []), [(2, .box [zc t.2.2.2.2.2.1, yw t.2.2.2.2.2.2])]⟩) (fun t => κ (some 2) ⟨.dead :: vI t.1 :: .box 2 0 :: dd 12 (Yc t.2.1 :: vI t.2.2.1 :: vI t.2.2.2.1 :: dd 41 []), [(2, .box [zc t.2.2.2.2.1, yw t.2.2.2.2.2])]⟩)
def y8e (t : yzp) : St := ⟨.dead :: vI t.1 :: .box 2 0 :: dd 12 (Yc t.2.1 :: vI t.2.2.1 :: vI t.2.2.2.1 :: dd 41 []), [(2, .box [zc t.2.2.2.2.1, yw t.2.2.2.2.2])]⟩
def ylr : Gk KA := fun κ => jj (fun t => κ none ⟨dd 4 (vB t :: dd 54 []), []⟩) (fun t => κ (some 0) ⟨dd 59 [], []⟩)
def ygv : Lp := lpC 2 (unG yF3 y8e) @ylr (lpC 5 (unG yF2 y8d) @ylq lpN)
theorem yvm : LF ygu ygv 252 5 Tryz.f252 1 y8d @ylq fun t => t := fun R κ again t => by kernel_rfl
theorem yvn : LK ygu ygv 252 Tryz.f252 1 := lkN (u := (unG yF2 y8d)) (yo fun t => by kernel_rfl) yvm
theorem yvo : LF ygu ygv 252 2 Tryz.f252 0 y8e @ylr fun t => t := fun R κ again t => by kernel_rfl
theorem yvp : LK ygu ygv 252 Tryz.f252 0 := lkN (u := (unG yF3 y8e)) (yo fun t => by kernel_rfl) yvo
theorem yBb : EV ygu ygv 252 Tryz.f252 ysx yyE [.bool] JO := fun x => by kernel_rfl
def yHI : QF := ⟨252, JO, okN (n := 2) Tryz.func252 ⟨yvp, yvn, trivial⟩ yBb⟩
abbrev VH : Type := yF4
def JP (k0 : yF6 → Option R) (k1 : Int → Option R) (again : VH → Option R) (t5 : VH) : Option R :=
 bif (decide (t5.2.2.2.1 < t5.2.2.1)) then if (0 : Int) ≤ t5.2.2.2.1 then if t5.2.2.2.1 < (List.length t5.2.1 : Int) then Option.bind (bif (decide (t5.2.2.2.1 > (0 : Int))) then if (0 : Int) ≤ (Go.IntKind.wrap .i64 (t5.2.2.2.1 - (1 : Int))) then if (Go.IntKind.wrap .i64 (t5.2.2.2.1 - (1 : Int))) < (List.length t5.2.2.2.2.1 : Int) then if (0 : Int) ≤ t5.2.2.2.1 then if t5.2.2.2.1 < (List.length t5.2.2.2.2.1 : Int) then some (decide ((zL t5.2.2.2.2.1 (Go.IntKind.wrap .i64 (t5.2.2.2.1 - (1 : Int)))) ≥ (zL t5.2.2.2.2.1 t5.2.2.2.1))) else none else none else none else none else some false) fun u4 => Option.bind (bif u4 then some true else Option.bind (k9 (yg t5.2.1 t5.2.2.2.1)) fun r6 => some (!r6)) fun u5 => Option.bind (bif u5 then some true else Option.bind (JO (t5.2.2.2.2.1, t5.2.2.2.2.2, t5.2.2.2.1)) fun r8 => some (!r8)) fun u7 => bif u7 then k0 (false, t5.1) else Option.bind (Yr (yg t5.2.1 t5.2.2.2.1)) fun r9 => Option.bind (bif (decide (t5.2.2.2.1 > (0 : Int))) then some ((List.length r9 : Int) == (0 : Int)) else some false) fun u10 => bif u10 then k0 (false, t5.1) else again ((Go.IntKind.wrap .i64 (t5.1 + (List.length r9 : Int))), t5.2.1, t5.2.2.1, (Go.IntKind.wrap .i64 (t5.2.2.2.1 + (1 : Int))), t5.2.2.2.2.1, t5.2.2.2.2.2) else none else none else k1 t5.1
def y0I k0 k1 := zh (@JP R k0 k1) zu
def ka (x : ycq) : Option Bool :=
 Option.bind (z7 ((List.length x.2 : Int), (1 : Int), (20 : Int))) fun r1 => Option.bind (bif (!r1) then some true else some ((List.length x.1 : Int) != (List.length x.2 : Int))) fun u2 => Option.bind (bif u2 then some true else if (0 : Int) ≤ (0 : Int) then if (0 : Int) < (List.length x.1 : Int) then some ((zL x.1 (0 : Int)) != (0 : Int)) else none else none) fun u3 => bif u3 then some false else y0I (fun x11 => some x11.1) (fun x12 => some (decide (x12 ≤ (60 : Int)))) ((0 : Int), x.2, (List.length x.2 : Int), (0 : Int), x.1, x.2)
def yny : List QF := [q92, yGq, yHG, yHI]
def y8f (t : yF4) : St := ⟨.dead :: .box 1 0 :: .dead :: vI t.1 :: dd 25 (yw t.2.1 :: vI t.2.2.1 :: vI t.2.2.2.1 :: dd 46 []), [(1, .box [zc t.2.2.2.2.1, yw t.2.2.2.2.2])]⟩
def yls : Gk VH := fun κ => JP (fun t => κ none ⟨dd 2 (vB t.1 :: vI t.2 :: dd 74 []), []⟩) (fun t => κ (some 0) ⟨dd 3 (vI t :: dd 74 []), []⟩)
def ynz : Lp := lpC 5 (unG yF5 y8f) @yls lpN
theorem yvq : LF yny ynz 128 5 Tryz.f128 0 y8f @yls fun t => t := fun R κ again t => by kernel_rfl
theorem yvr : LK yny ynz 128 Tryz.f128 0 := lkN (u := (unG yF5 y8f)) (yo fun t => by kernel_rfl) yvq
theorem yBc : EV yny ynz 128 Tryz.f128 ysy Qe [.bool] ka := fun x => by kernel_rfl
def yHJ : QF := ⟨128, ka, okN (n := 1) Tryz.func128 ⟨yvr, trivial⟩ yBc⟩
def vp (x : yzn) : Option yF6 :=
 some ((x.1 == x.2.2), x.2.2)
theorem yBd : EV [] lpN 319 Tryz.f319 ysz yzo yH6 vp := fun x => by kernel_rfl
def yHK : QF := ⟨319, vp, okN (n := 0) Tryz.func319 trivial yBd⟩
abbrev zN : Type := yF7
def z3 (k0 : yq6 → Option R) (k1 : Int → Option R) (again : zN → Option R) (t2 : zN) : Option R :=
 bif (decide (t2.2.2.1 < t2.2.1)) then if (0 : Int) ≤ t2.2.2.1 then if t2.2.2.1 < (List.length t2.1 : Int) then Option.bind (vp ((yG t2.1 t2.2.2.1).1, (yG t2.1 t2.2.2.1).2, t2.2.2.2)) fun r1 => bif r1.1 then k0 (t2.2.2.1, r1.2) else again (t2.1, t2.2.1, (Go.IntKind.wrap .i64 (t2.2.2.1 + (1 : Int))), r1.2) else none else none else k1 t2.2.2.2
def YK k0 k1 := zh (@z3 R k0 k1) zu
def ze (x : yiV) : Option yq6 :=
 YK (fun x2 => some x2) (fun x3 => some ((-1 : Int), x3)) (x.1, (List.length x.1 : Int), (0 : Int), x.2)
def y8g : List QF := [yHK]
def y24 (t : yF7) : St := ⟨zk t.1 :: .clo 319 901 :: dd 5 (vI t.2.1 :: vI t.2.2.1 :: dd 10 []), [(901, .box [vI t.2.2.2])]⟩
def yaT : Gk zN := fun κ => z3 (fun t => κ none ⟨.dead :: .clo 319 901 :: dd 2 (vI t.1 :: dd 14 []), [(901, .box [vI t.2])]⟩) (fun t => κ (some 0) ⟨.dead :: .clo 319 901 :: dd 17 [], [(901, .box [vI t])]⟩)
def y8h : Lp := lpC 2 (unG yF8 y24) @yaT lpN
theorem ygw : LF y8g y8h 100000 2 Tryz.f318 0 y24 @yaT fun t => t := fun R κ again t => by kernel_rfl
theorem ygx : LK y8g y8h 100000 Tryz.f318 0 := lkN (u := (unG yF8 y24)) (yo fun t => by kernel_rfl) ygw
theorem yj5 : EV y8g y8h 100000 Tryz.f318 ydH yiW yqz ze := fun x => by kernel_rfl
def ynA : QF := ⟨100000, ze, okN (n := 1) Tryz.func318 ⟨ygx, trivial⟩ yj5⟩
def jL (x : yiV) : Option Int :=
 Option.bind (ze x) fun r1 => some r1.1
theorem yBe : EV [ynA] lpN 245 Tryz.f245 ysA yiW [(.int .i64)] jL := fun x => by kernel_rfl
def yBf : QF := ⟨245, jL, okN (n := 0) Tryz.func245 trivial yBe⟩
abbrev VI : Type := yyF
def JQ (k0 : yyH → Option R) (k1 : List ya → Option R) (again : VI → Option R) (t2 : VI) : Option R :=
 bif (decide (t2.2.2.2 < t2.2.2.1)) then if (0 : Int) ≤ t2.2.2.2 then if t2.2.2.2 < (List.length t2.2.1 : Int) then Option.bind (z7 ((yG t2.2.1 t2.2.2.2).1, (1 : Int), (60 : Int))) fun r1 => Option.bind (bif (!r1) then some true else Option.bind (bif (decide (t2.2.2.2 > (0 : Int))) then if (0 : Int) ≤ (Go.IntKind.wrap .i64 (t2.2.2.2 - (1 : Int))) then if (Go.IntKind.wrap .i64 (t2.2.2.2 - (1 : Int))) < (List.length t2.1 : Int) then some (decide ((yG t2.1 (Go.IntKind.wrap .i64 (t2.2.2.2 - (1 : Int)))).1 ≥ (yG t2.2.1 t2.2.2.2).1)) else none else none else some false) fun u3 => some u3) fun u2 => Option.bind (bif u2 then some true else Option.bind (bif ((yG t2.2.1 t2.2.2.2).2 != (0 : Int)) then if (0 : Int) ≤ (0 : Int) then if (0 : Int) ≤ t2.2.2.2 then if t2.2.2.2 ≤ (List.length t2.1 : Int) then Option.bind (jL ((List.drop (Int.toNat (0 : Int)) (List.take (Int.toNat t2.2.2.2) t2.1)), (yG t2.2.1 t2.2.2.2).2)) fun r6 => some (decide (r6 < (0 : Int))) else none else none else none else some false) fun u5 => some u5) fun u4 => bif u4 then k0 (t2.1, false) else again (t2.1, t2.2.1, t2.2.2.1, (Go.IntKind.wrap .i64 (t2.2.2.2 + (1 : Int)))) else none else none else k1 t2.1
def y0J k0 k1 := zh (@JQ R k0 k1) zu
def kb (x : List ya) : Option Bool :=
 y0J (fun x7 => some x7.2) (fun x8 => some (decide ((List.length x8 : Int) ≤ (16 : Int)))) (x, x, (List.length x : Int), (0 : Int))
def ynB : List QF := [q92, yBf]
def y8i (t : yyF) : St := ⟨zk t.1 :: dd 4 (zk t.2.1 :: vI t.2.2.1 :: vI t.2.2.2 :: dd 41 []), []⟩
def ylt : Gk VI := fun κ => JQ (fun t => κ none ⟨zk t.1 :: .dead :: vB t.2 :: dd 46 [], []⟩) (fun t => κ (some 0) ⟨zk t :: dd 48 [], []⟩)
def ynC : Lp := lpC 2 (unG yyG y8i) @ylt lpN
theorem yvs : LF ynB ynC 129 2 Tryz.f129 0 y8i @ylt fun t => t := fun R κ again t => by kernel_rfl
theorem yvt : LK ynB ynC 129 Tryz.f129 0 := lkN (u := (unG yyG y8i)) (yo fun t => by kernel_rfl) yvs
theorem yBg : EV ynB ynC 129 Tryz.f129 ysB [(.sl 146 ym)] [.bool] kb := fun x => by kernel_rfl
def yHL : QF := ⟨129, kb, okN (n := 1) Tryz.func129 ⟨yvt, trivial⟩ yBg⟩
def kc (x : Int) : Option Bool :=
 Option.bind (z7 (x, (0 : Int), (65535 : Int))) fun r1 => some r1
theorem yBh : EV [q92] lpN 125 Tryz.f125 ysC [(.int .i64)] [.bool] kc := fun x => by kernel_rfl
def yHM : QF := ⟨125, kc, okN (n := 0) Tryz.func125 trivial yBh⟩
abbrev vZ : Type := yyI
def J1 (k0 : yFa → Option R) (k1 : List y8 → Option R) (again : vZ → Option R) (t2 : vZ) : Option R :=
 bif (decide (t2.2.2.2 < t2.2.2.1)) then if (0 : Int) ≤ t2.2.2.2 then if t2.2.2.2 < (List.length t2.2.1 : Int) then Option.bind (z7 ((yp t2.2.1 t2.2.2.2).1, (0 : Int), (999 : Int))) fun r1 => Option.bind (bif (!r1) then some true else Option.bind (kc ((yp t2.2.1 t2.2.2.2).2.2)) fun r3 => some (!r3)) fun u2 => Option.bind (bif u2 then some true else Option.bind (bif ((yp t2.2.1 t2.2.2.2).2.2 != (0 : Int)) then some (!((yp t2.2.1 t2.2.2.2).2.1)) else some false) fun u5 => some u5) fun u4 => bif u4 then k0 (t2.1, false) else again (t2.1, t2.2.1, t2.2.2.1, (Go.IntKind.wrap .i64 (t2.2.2.2 + (1 : Int)))) else none else none else k1 t2.1
def y0d k0 k1 := zh (@J1 R k0 k1) zu
def W2 (x : List y8) : Option Bool :=
 y0d (fun x6 => some x6.2) (fun x7 => some ((List.length x7 : Int) == (24 : Int))) (x, x, (List.length x : Int), (0 : Int))
def ynD : List QF := [q92, yHM]
def y8j (t : yyI) : St := ⟨yI t.1 :: dd 4 (yI t.2.1 :: vI t.2.2.1 :: vI t.2.2.2 :: dd 27 []), []⟩
def ylu : Gk vZ := fun κ => J1 (fun t => κ none ⟨yI t.1 :: .dead :: vB t.2 :: dd 32 [], []⟩) (fun t => κ (some 0) ⟨yI t :: dd 34 [], []⟩)
def ynE : Lp := lpC 2 (unG yyJ y8j) @ylu lpN
theorem yvu : LF ynD ynE 130 2 Tryz.f130 0 y8j @ylu fun t => t := fun R κ again t => by kernel_rfl
theorem yvv : LK ynD ynE 130 Tryz.f130 0 := lkN (u := (unG yyJ y8j)) (yo fun t => by kernel_rfl) yvu
theorem yBi : EV ynD ynE 130 Tryz.f130 ysD [(.sl 113 yd)] [.bool] W2 := fun x => by kernel_rfl
def yHN : QF := ⟨130, W2, okN (n := 1) Tryz.func130 ⟨yvv, trivial⟩ yBi⟩
abbrev VJ : Type := yyK
def VK (k0 : yFb → Option R) (k1 : ByteArray → Option R) (again : VJ → Option R) (t2 : VJ) : Option R :=
 bif (decide (t2.2 < ((ByteArray.size t2.1 : Nat) : Int))) then if (0 : Int) ≤ t2.2 then if h1 : Int.toNat t2.2 < ByteArray.size t2.1 then Option.bind (z7 ((Go.IntKind.wrap .i64 ((UInt8.toNat (ByteArray.get t2.1 (Int.toNat t2.2) h1) : Nat) : Int)), (97 : Int), (122 : Int))) fun r2 => Option.bind (bif (!r2) then if (0 : Int) ≤ t2.2 then if h4 : Int.toNat t2.2 < ByteArray.size t2.1 then Option.bind (z7 ((Go.IntKind.wrap .i64 ((UInt8.toNat (ByteArray.get t2.1 (Int.toNat t2.2) h4) : Nat) : Int)), (48 : Int), (57 : Int))) fun r5 => some (!r5) else none else none else some false) fun u3 => bif u3 then k0 (t2.1, false) else again (t2.1, (Go.IntKind.wrap .i64 (t2.2 + (1 : Int)))) else none else none else k1 t2.1
def y0K k0 k1 := zh (@VK R k0 k1) zu
def ke (x : ByteArray) : Option Bool :=
 y0K (fun x6 => some x6.2) (fun x7 => Option.bind (z7 (((ByteArray.size x7 : Nat) : Int), (1 : Int), (6 : Int))) fun r8 => some r8) (x, (0 : Int))
def ynF : List QF := [q92]
def y8k (t : yyK) : St := ⟨vS t.1 :: dd 2 (vI t.2 :: dd 23 []), []⟩
def ylv : Gk VJ := fun κ => VK (fun t => κ none ⟨vS t.1 :: .dead :: vB t.2 :: dd 24 [], []⟩) (fun t => κ (some 0) ⟨vS t :: dd 26 [], []⟩)
def ynG : Lp := lpC 2 (unG yyL y8k) @ylv lpN
theorem yvw : LF ynF ynG 117 2 Tryz.f117 0 y8k @ylv fun t => t := fun R κ again t => by kernel_rfl
theorem yvx : LK ynF ynG 117 Tryz.f117 0 := lkN (u := (unG yyL y8k)) (yo fun t => by kernel_rfl) yvw
theorem yBj : EV ynF ynG 117 Tryz.f117 ysE [.str] [.bool] ke := fun x => by kernel_rfl
def yHO : QF := ⟨117, ke, okN (n := 1) Tryz.func117 ⟨yvx, trivial⟩ yBj⟩
abbrev VL : Type := yFc
def JR (k0 : List ye → Option R) (again : VL → Option R) (t5 : VL) : Option R :=
 bif (decide (t5.2.2.2.1 < t5.2.2.1)) then if (0 : Int) ≤ t5.2.2.2.1 then if t5.2.2.2.1 < (List.length t5.2.1 : Int) then bif ((yG t5.2.1 t5.2.2.2.1).2 == t5.1) then if (List.length t5.2.2.2.2 + List.length ([(yG t5.2.1 t5.2.2.2.1).1] : List ye)) * 8 < 140737488355328 then again (t5.1, t5.2.1, t5.2.2.1, (Go.IntKind.wrap .i64 (t5.2.2.2.1 + (1 : Int))), (t5.2.2.2.2 ++ ([(yG t5.2.1 t5.2.2.2.1).1] : List ye))) else none else again (t5.1, t5.2.1, t5.2.2.1, (Go.IntKind.wrap .i64 (t5.2.2.2.1 + (1 : Int))), t5.2.2.2.2) else none else none else k0 t5.2.2.2.2
def y0L k0 := zh (@JR R k0) zu
def kf (x : yiV) : Option (List ye) :=
 bif (x.2 == (0 : Int)) then some ([] : List ye) else y0L (fun x1 => some x1) (x.2, x.1, (List.length x.1 : Int), (0 : Int), ([] : List ye))
def ynH : List QF := []
def y8l (t : yFc) : St := ⟨.dead :: vI t.1 :: dd 3 (.own 10000000 :: dd 6 (zk t.2.1 :: vI t.2.2.1 :: vI t.2.2.2.1 :: dd 14 [])), [(10000000, .root true 3 yh t.2.2.2.2)]⟩
def ylw : Gk VL := fun κ => JR (fun t => κ (some 0) ⟨dd 5 (.own 10000000 :: dd 23 []), [(10000000, .root true 3 yh t)]⟩)
def ynI : Lp := lpC 5 (unG yFd y8l) @ylw lpN
theorem yvy : LF ynH ynI 135 5 Tryz.f135 0 y8l @ylw fun t => t := fun R κ again t => by kernel_rfl
theorem yvz : LK ynH ynI 135 Tryz.f135 0 := lkN (u := (unG yFd y8l)) (yo fun t => by kernel_rfl) yvy
theorem yBk : EV ynH ynI 135 Tryz.f135 ysF yiW [(.sl 3 yh)] kf := fun x => by kernel_rfl
def yHP : QF := ⟨135, kf, okN (n := 1) Tryz.func135 ⟨yvz, trivial⟩ yBk⟩
def kg (x : yH7) : Option yFe :=
 some ((x.2.1 == x.2.2.2.2.2.1), x.2.2.2.2.1, x.2.2.2.2.2.1, x.2.2.2.2.2.2.1, x.2.2.2.2.2.2.2)
theorem yBl : EV [] lpN 254 Tryz.f254 ysG yH8 yFf kg := fun x => by kernel_rfl
def yHQ : QF := ⟨254, kg, okN (n := 0) Tryz.func254 trivial yBl⟩
abbrev zJ : Type := yFg
def yU (k0 : yFi → Option R) (k1 : yHa → Option R) (again : zJ → Option R) (t2 : zJ) : Option R :=
 bif (decide (t2.2.2.1 < t2.2.1)) then if (0 : Int) ≤ t2.2.2.1 then if t2.2.2.1 < (List.length t2.1 : Int) then Option.bind (kg ((yl t2.1 t2.2.2.1).1, (yl t2.1 t2.2.2.1).2.1, (yl t2.1 t2.2.2.1).2.2.1, (yl t2.1 t2.2.2.1).2.2.2, t2.2.2.2.1, t2.2.2.2.2.1, t2.2.2.2.2.2.1, t2.2.2.2.2.2.2)) fun r1 => bif r1.1 then k0 (t2.2.2.1, r1.2) else again (t2.1, t2.2.1, (Go.IntKind.wrap .i64 (t2.2.2.1 + (1 : Int))), r1.2.1, r1.2.2.1, r1.2.2.2.1, r1.2.2.2.2) else none else none else k1 t2.2.2.2
def Yy k0 k1 := zh (@yU R k0 k1) zu
def z8 (x : yzq) : Option yFi :=
 Yy (fun x2 => some x2) (fun x3 => some ((-1 : Int), x3.1, x3.2.1, x3.2.2.1, x3.2.2.2)) (x.1, (List.length x.1 : Int), (0 : Int), x.2.1, x.2.2.1, x.2.2.2.1, x.2.2.2.2)
def y8m : List QF := [yHQ]
def y25 (t : yFg) : St := ⟨zM t.1 :: .clo 254 901 :: dd 5 (vI t.2.1 :: vI t.2.2.1 :: dd 10 []), [(901, .box [vS t.2.2.2.1, vI t.2.2.2.2.1, vI t.2.2.2.2.2.1, vB t.2.2.2.2.2.2])]⟩
def yaU : Gk zJ := fun κ => yU (fun t => κ none ⟨.dead :: .clo 254 901 :: dd 2 (vI t.1 :: dd 14 []), [(901, .box [vS t.2.1, vI t.2.2.1, vI t.2.2.2.1, vB t.2.2.2.2])]⟩) (fun t => κ (some 0) ⟨.dead :: .clo 254 901 :: dd 17 [], [(901, .box [vS t.1, vI t.2.1, vI t.2.2.1, vB t.2.2.2])]⟩)
def y8n : Lp := lpC 2 (unG yFh y25) @yaU lpN
theorem ygy : LF y8m y8n 100002 2 Tryz.f242 0 y25 @yaU fun t => t := fun R κ again t => by kernel_rfl
theorem ygz : LK y8m y8n 100002 Tryz.f242 0 := lkN (u := (unG yFh y25)) (yo fun t => by kernel_rfl) ygy
theorem yj6 : EV y8m y8n 100002 Tryz.f242 ydI yzr yH9 z8 := fun x => by kernel_rfl
def ynJ : QF := ⟨100002, z8, okN (n := 1) Tryz.func242 ⟨ygz, trivial⟩ yj6⟩
def yH (x : yzq) : Option yFe :=
 Option.bind (z8 x) fun r1 => some ((decide (r1.1 ≥ (0 : Int))), r1.2.1, r1.2.2.1, r1.2.2.2.1, r1.2.2.2.2)
theorem yj7 : EV [ynJ] lpN 100001 Tryz.f253 ydJ yzr yFf yH := fun x => by kernel_rfl
def ynK : QF := ⟨100001, yH, okN (n := 0) Tryz.func253 trivial yj7⟩
abbrev VM : Type := yFj
def JS (k0 : yn2 → Option R) (k1 : y6q → Option R) (again : VM → Option R) (t2 : VM) : Option R :=
 bif (decide (t2.2.2.1 < t2.2.1)) then if (0 : Int) ≤ t2.2.2.1 then if t2.2.2.1 < (List.length t2.1 : Int) then Option.bind (ke ((yl t2.1 t2.2.2.1).1)) fun r1 => Option.bind (bif (!r1) then some true else Option.bind (bif (decide (t2.2.2.1 > (0 : Int))) then if (0 : Int) ≤ (Go.IntKind.wrap .i64 (t2.2.2.1 - (1 : Int))) then if (Go.IntKind.wrap .i64 (t2.2.2.1 - (1 : Int))) < (List.length t2.2.2.2.2.2.2.2.1 : Int) then some (!Go.Op.bytesLess (ByteArray.toList ((yl t2.2.2.2.2.2.2.2.1 (Go.IntKind.wrap .i64 (t2.2.2.1 - (1 : Int)))).1)) (ByteArray.toList ((yl t2.1 t2.2.2.1).1))) else none else none else some false) fun u3 => some u3) fun u2 => Option.bind (bif u2 then some true else Option.bind (z7 ((yl t2.1 t2.2.2.1).2.2.1, (1 : Int), (12 : Int))) fun r5 => some (!r5)) fun u4 => bif u4 then k0 (false, t2.2.2.2) else Option.bind (jL (t2.2.2.2.2.2.1, (yl t2.1 t2.2.2.1).2.1)) fun r6 => Option.bind (bif (decide (r6 < (0 : Int))) then some true else Option.bind (kf (t2.2.2.2.2.2.1, (yl t2.1 t2.2.2.1).2.1)) fun r8 => some (decide ((List.length r8 : Int) > (0 : Int)))) fun u7 => bif u7 then k0 (false, t2.2.2.2) else if (0 : Int) ≤ (0 : Int) then if (0 : Int) ≤ t2.2.2.1 then if t2.2.2.1 ≤ (List.length t2.2.2.2.2.2.2.2.1 : Int) then Option.bind (yH ((List.drop (Int.toNat (0 : Int)) (List.take (Int.toNat t2.2.2.1) t2.2.2.2.2.2.2.2.1)), (yl t2.1 t2.2.2.1).1, (yl t2.1 t2.2.2.1).2.1, (yl t2.1 t2.2.2.1).2.2.1, (yl t2.1 t2.2.2.1).2.2.2)) fun r9 => bif r9.1 then k0 (false, t2.2.2.2) else again (t2.1, t2.2.1, (Go.IntKind.wrap .i64 (t2.2.2.1 + (1 : Int))), t2.2.2.2.1, t2.2.2.2.2.1, t2.2.2.2.2.2.1, t2.2.2.2.2.2.2.1, t2.2.2.2.2.2.2.2.1, t2.2.2.2.2.2.2.2.2) else none else none else none else none else none else k1 t2.2.2.2
def y0M k0 k1 := zh (@JS R k0 k1) zu
def kh (x : y6q) : Option Bool :=
 y0M (fun x10 => some x10.1) (fun x11 => some (decide ((List.length x11.2.2.2.2.1 : Int) ≤ (6 : Int)))) (x.2.2.2.2.1, (List.length x.2.2.2.2.1 : Int), (0 : Int), x.1, x.2.1, x.2.2.1, x.2.2.2.1, x.2.2.2.2.1, x.2.2.2.2.2)
def ynL : List QF := [q92, yHO, yHP, yBf, ynK]
def y8o (t : yFj) : St := ⟨.dead :: .box 1 0 :: dd 4 (zM t.1 :: vI t.2.1 :: vI t.2.2.1 :: dd 56 []), [(1, .box [zc t.2.2.2.1, yw t.2.2.2.2.1, zk t.2.2.2.2.2.1, yI t.2.2.2.2.2.2.1, zM t.2.2.2.2.2.2.2.1, vI t.2.2.2.2.2.2.2.2])]⟩
def ylx : Gk VM := fun κ => JS (fun t => κ none ⟨.dead :: .box 1 0 :: vB t.1 :: dd 62 [], [(1, .box [zc t.2.1, yw t.2.2.1, zk t.2.2.2.1, yI t.2.2.2.2.1, zM t.2.2.2.2.2.1, vI t.2.2.2.2.2.2])]⟩) (fun t => κ (some 0) ⟨.dead :: .box 1 0 :: dd 63 [], [(1, .box [zc t.1, yw t.2.1, zk t.2.2.1, yI t.2.2.2.1, zM t.2.2.2.2.1, vI t.2.2.2.2.2])]⟩)
def ynM : Lp := lpC 2 (unG yFk y8o) @ylx lpN
theorem yvA : LF ynL ynM 131 2 Tryz.f131 0 y8o @ylx fun t => t := fun R κ again t => by kernel_rfl
theorem yvB : LK ynL ynM 131 Tryz.f131 0 := lkN (u := (unG yFk y8o)) (yo fun t => by kernel_rfl) yvA
theorem yBm : EV ynL ynM 131 Tryz.f131 ysH jI [.bool] kh := fun x => by kernel_rfl
def yHR : QF := ⟨131, kh, okN (n := 1) Tryz.func131 ⟨yvB, trivial⟩ yBm⟩
abbrev ki : Type := yFl
def Zt (k0 : Int → Option R) (again : ki → Option R) (t3 : ki) : Option R :=
 bif (decide (t3.2.2.2 < t3.2.2.1)) then if (0 : Int) ≤ t3.2.2.2 then if t3.2.2.2 < (List.length t3.2.1 : Int) then bif (yp t3.2.1 t3.2.2.2).2.1 then again ((Go.IntKind.wrap .i64 (t3.1 + (1 : Int))), t3.2.1, t3.2.2.1, (Go.IntKind.wrap .i64 (t3.2.2.2 + (1 : Int)))) else again (t3.1, t3.2.1, t3.2.2.1, (Go.IntKind.wrap .i64 (t3.2.2.2 + (1 : Int)))) else none else none else k0 t3.1
def qI k0 := zh (@Zt R k0) zu
def J2 (x : List y8) : Option Int :=
 qI (fun x1 => some x1) ((0 : Int), x, (List.length x : Int), (0 : Int))
def yBn : List QF := []
def ycu (t : yFl) : St := ⟨dd 3 (vI t.1 :: dd 2 (yI t.2.1 :: vI t.2.2.1 :: vI t.2.2.2 :: dd 9 [])), []⟩
def yvC : Gk ki := fun κ => Zt (fun t => κ (some 0) ⟨dd 3 (vI t :: dd 14 []), []⟩)
def yBo : Lp := lpC 3 (unG yFm ycu) @yvC lpN
theorem yBp : LF yBn yBo 28 3 Tryz.f28 0 ycu @yvC fun t => t := fun R κ again t => by kernel_rfl
theorem yBq : LK yBn yBo 28 Tryz.f28 0 := lkN (u := (unG yFm ycu)) (yo fun t => by kernel_rfl) yBp
theorem yHS : EV yBn yBo 28 Tryz.f28 yFY [(.sl 113 yd)] [(.int .i64)] J2 := fun x => by kernel_rfl
def q28 : QF := ⟨28, J2, okN (n := 1) Tryz.func28 ⟨yBq, trivial⟩ yHS⟩
abbrev KB : Type := yFn
def jk (k0 : List y9 → Option R) (again : KB → Option R) (t3 : KB) : Option R :=
 bif (decide (t3.2.2.1 < t3.2.1)) then if (0 : Int) ≤ t3.2.2.1 then if t3.2.2.1 < (List.length t3.1 : Int) then Option.bind (Yr (yg t3.1 t3.2.2.1)) fun r1 => if (List.length t3.2.2.2 + List.length r1) * 40 < 140737488355328 then again (t3.1, t3.2.1, (Go.IntKind.wrap .i64 (t3.2.2.1 + (1 : Int))), (t3.2.2.2 ++ r1)) else none else none else none else k0 t3.2.2.2
def Qo k0 := zh (@jk R k0) zu
def jm (x : ycq) : Option (List y9) :=
 Qo (fun x2 => some x2) (x.2, (List.length x.2 : Int), (0 : Int), ([] : List y9))
def yBr : List QF := [yGq]
def ycv (t : yFn) : St := ⟨dd 3 (.own 10000000 :: dd 4 (yw t.1 :: vI t.2.1 :: vI t.2.2.1 :: dd 9 [])), [(10000000, .root true 64 yi t.2.2.2)]⟩
def yvD : Gk KB := fun κ => jk (fun t => κ (some 0) ⟨dd 3 (.own 10000000 :: dd 16 []), [(10000000, .root true 64 yi t)]⟩)
def yBs : Lp := lpC 3 (unG yFo ycv) @yvD lpN
theorem yBt : LF yBr yBs 29 3 Tryz.f29 0 ycv @yvD fun t => t := fun R κ again t => by kernel_rfl
theorem yBu : LK yBr yBs 29 Tryz.f29 0 := lkN (u := (unG yFo ycv)) (yo fun t => by kernel_rfl) yBt
theorem yHT : EV yBr yBs 29 Tryz.f29 yFZ Qe [(.sl 64 yi)] jm := fun x => by kernel_rfl
def q29 : QF := ⟨29, jm, okN (n := 1) Tryz.func29 ⟨yBu, trivial⟩ yHT⟩
def kj (x : yyM) : Option yFp :=
 Option.bind (z7 (x.2.1, (0 : Int), (Go.IntKind.wrap .i64 ((List.length x.1 : Int) - (1 : Int))))) fun r1 => Option.bind (bif (!r1) then some true else if (0 : Int) ≤ x.2.1 then if x.2.1 < (List.length x.1 : Int) then some (!((yp x.1 x.2.1).2.1)) else none else none) fun u2 => Option.bind (bif u2 then some true else if (0 : Int) ≤ x.2.1 then if x.2.1 < (List.length x.1 : Int) then some ((yp x.1 x.2.1).1 != x.2.2) else none else none) fun u3 => bif u3 then some ((0 : Int), false) else if (0 : Int) ≤ x.2.1 then if x.2.1 < (List.length x.1 : Int) then some ((yp x.1 x.2.1).2.2, true) else none else none
theorem yBv : EV [q92] lpN 247 Tryz.f247 ysI yyN yFq kj := fun x => by kernel_rfl
def yHU : QF := ⟨247, kj, okN (n := 0) Tryz.func247 trivial yBv⟩
abbrev V0 : Type := yFr
def J3 (k0 : yzt → Option R) (k1 : yie → Option R) (again : V0 → Option R) (t4 : V0) : Option R :=
 bif (decide (t4.2.2.1 < t4.2.1)) then if (0 : Int) ≤ t4.2.2.1 then if t4.2.2.1 < (List.length t4.2.2.2.2.2.2.2.2.2.2 : Int) then Option.bind (jL (t4.2.2.2.2.2.1, (y6 t4.2.2.2.2.2.2.2.2.2.2 t4.2.2.1).2.1)) fun r2 => bif (decide (r2 < (0 : Int))) then k0 (false, t4.1, t4.2.2.2.1, t4.2.2.2.2.1, t4.2.2.2.2.2.1, t4.2.2.2.2.2.2.1, t4.2.2.2.2.2.2.2.1, t4.2.2.2.2.2.2.2.2.1) else bif ((y6 t4.2.2.2.2.2.2.2.2.2.2 t4.2.2.1).2.2.1 != (1 : Int)) then again (t4.1, t4.2.1, (Go.IntKind.wrap .i64 (t4.2.2.1 + (1 : Int))), t4.2.2.2.1, t4.2.2.2.2.1, t4.2.2.2.2.2.1, t4.2.2.2.2.2.2.1, t4.2.2.2.2.2.2.2.1, t4.2.2.2.2.2.2.2.2.1, t4.2.2.2.2.2.2.2.2.2.1, t4.2.2.2.2.2.2.2.2.2.2) else Option.bind (kj (t4.2.2.2.2.2.2.1, (y6 t4.2.2.2.2.2.2.2.2.2.2 t4.2.2.1).2.2.2.1, (y6 t4.2.2.2.2.2.2.2.2.2.2 t4.2.2.1).2.2.2.2)) fun r3 => Option.bind (bif (!r3.2) then some true else if (0 : Int) ≤ (y6 t4.2.2.2.2.2.2.2.2.2.2 t4.2.2.1).2.2.2.1 then if (y6 t4.2.2.2.2.2.2.2.2.2.2 t4.2.2.1).2.2.2.1 < (List.length t4.2.2.2.2.2.2.2.2.2.1 : Int) then some (ygf t4.2.2.2.2.2.2.2.2.2.1 ((y6 t4.2.2.2.2.2.2.2.2.2.2 t4.2.2.1).2.2.2.1)) else none else none) fun u4 => bif u4 then k0 (false, t4.1, t4.2.2.2.1, t4.2.2.2.2.1, t4.2.2.2.2.2.1, t4.2.2.2.2.2.2.1, t4.2.2.2.2.2.2.2.1, t4.2.2.2.2.2.2.2.2.1) else if (0 : Int) ≤ (y6 t4.2.2.2.2.2.2.2.2.2.2 t4.2.2.1).2.2.2.1 then if (y6 t4.2.2.2.2.2.2.2.2.2.2 t4.2.2.1).2.2.2.1 < (List.length t4.2.2.2.2.2.2.2.2.2.1 : Int) then again ((Go.IntKind.wrap .i64 (t4.1 + (1 : Int))), t4.2.1, (Go.IntKind.wrap .i64 (t4.2.2.1 + (1 : Int))), t4.2.2.2.1, t4.2.2.2.2.1, t4.2.2.2.2.2.1, t4.2.2.2.2.2.2.1, t4.2.2.2.2.2.2.2.1, t4.2.2.2.2.2.2.2.2.1, (List.set t4.2.2.2.2.2.2.2.2.2.1 (Int.toNat ((y6 t4.2.2.2.2.2.2.2.2.2.2 t4.2.2.1).2.2.2.1)) true), t4.2.2.2.2.2.2.2.2.2.2) else none else none else none else none else k1 (t4.1, t4.2.2.2.1, t4.2.2.2.2.1, t4.2.2.2.2.2.1, t4.2.2.2.2.2.2.1, t4.2.2.2.2.2.2.2.1, t4.2.2.2.2.2.2.2.2.1)
def y0e k0 k1 := zh (@J3 R k0 k1) zu
def W3 (x : y6q) : Option Bool :=
 if (0 : Int) ≤ (24 : Int) then if (24 : Int) ≤ (24 : Int) then if (24 : Int) * ((1 : Nat) : Int) ≤ 140737488351232 then Option.bind (jm (x.1, x.2.1)) fun r1 => y0e (fun x5 => some x5.1) (fun x6 => Option.bind (J2 x6.2.2.2.2.1) fun r7 => some (r7 == x6.1)) ((0 : Int), (List.length r1 : Int), (0 : Int), x.1, x.2.1, x.2.2.1, x.2.2.2.1, x.2.2.2.2.1, x.2.2.2.2.2, (List.replicate (Int.toNat (24 : Int)) yge), r1) else none else none else none
def ynN : List QF := [q28, q29, yBf, yHU]
def y8p (t : yFr) : St := ⟨.dead :: .box 1 0 :: .dead :: .own 10000000 :: vI t.1 :: dd 7 (.own 10000001 :: vI t.2.1 :: vI t.2.2.1 :: dd 43 []), [(1, .box [zc t.2.2.2.1, yw t.2.2.2.2.1, zk t.2.2.2.2.2.1, yI t.2.2.2.2.2.2.1, zM t.2.2.2.2.2.2.2.1, vI t.2.2.2.2.2.2.2.2.1]), (10000000, .root true 4 y5l t.2.2.2.2.2.2.2.2.2.1), (10000001, .root true 64 yi t.2.2.2.2.2.2.2.2.2.2)]⟩
def yly : Gk V0 := fun κ => J3 (fun t => κ none ⟨.dead :: .box 1 0 :: vB t.1 :: .dead :: vI t.2.1 :: dd 53 [], [(1, .box [zc t.2.2.1, yw t.2.2.2.1, zk t.2.2.2.2.1, yI t.2.2.2.2.2.1, zM t.2.2.2.2.2.2.1, vI t.2.2.2.2.2.2.2])]⟩) (fun t => κ (some 0) ⟨.dead :: .box 1 0 :: dd 2 (vI t.1 :: dd 53 []), [(1, .box [zc t.2.1, yw t.2.2.1, zk t.2.2.2.1, yI t.2.2.2.2.1, zM t.2.2.2.2.2.1, vI t.2.2.2.2.2.2])]⟩)
def ynO : Lp := lpC 4 (unG yFs y8p) @yly lpN
theorem yvE : LF ynN ynO 132 4 Tryz.f132 0 y8p @yly fun t => t := fun R κ again t => by kernel_rfl
theorem yvF : LK ynN ynO 132 Tryz.f132 0 := lkN (u := (unG yFs y8p)) (yo fun t => by kernel_rfl) yvE
theorem yBw : EV ynN ynO 132 Tryz.f132 ysJ jI [.bool] W3 := fun x => by kernel_rfl
def yHV : QF := ⟨132, W3, okN (n := 1) Tryz.func132 ⟨yvF, trivial⟩ yBw⟩
abbrev VN : Type := yFt
def JT (k0 : yn2 → Option R) (k1 : y6q → Option R) (again : VN → Option R) (t4 : VN) : Option R :=
 bif (decide (t4.2.2.1 < t4.2.1)) then if (0 : Int) ≤ t4.2.2.1 then if t4.2.2.1 < (List.length t4.1 : Int) then bif (decide ((yG t4.1 t4.2.2.1).1 ≥ t4.2.2.2.2.2.2.2.2)) then k0 (false, t4.2.2.2) else again (t4.1, t4.2.1, (Go.IntKind.wrap .i64 (t4.2.2.1 + (1 : Int))), t4.2.2.2.1, t4.2.2.2.2.1, t4.2.2.2.2.2.1, t4.2.2.2.2.2.2.1, t4.2.2.2.2.2.2.2.1, t4.2.2.2.2.2.2.2.2) else none else none else k1 t4.2.2.2
def y0N k0 k1 := zh (@JT R k0 k1) zu
def Ym (x : y6q) : Option Bool :=
 Option.bind (ka (x.1, x.2.1)) fun r1 => Option.bind (bif (!r1) then some true else Option.bind (kb x.2.2.1) fun r3 => some (!r3)) fun u2 => Option.bind (bif u2 then some true else Option.bind (W2 x.2.2.2.1) fun r5 => some (!r5)) fun u4 => Option.bind (bif u4 then some true else Option.bind (z7 (x.2.2.2.2.2, (1 : Int), (61 : Int))) fun r7 => some (!r7)) fun u6 => bif u6 then some false else y0N (fun x8 => some x8.1) (fun x9 => Option.bind (kh x9) fun r10 => Option.bind (bif r10 then Option.bind (W3 x9) fun r12 => some r12 else some false) fun u11 => some u11) (x.2.2.1, (List.length x.2.2.1 : Int), (0 : Int), x.1, x.2.1, x.2.2.1, x.2.2.2.1, x.2.2.2.2.1, x.2.2.2.2.2)
def yBx : List QF := [q92, yHJ, yHL, yHN, yHR, yHV]
def ycw (t : yFt) : St := ⟨.dead :: .box 1 0 :: dd 26 (zk t.1 :: vI t.2.1 :: vI t.2.2.1 :: dd 15 []), [(1, .box [zc t.2.2.2.1, yw t.2.2.2.2.1, zk t.2.2.2.2.2.1, yI t.2.2.2.2.2.2.1, zM t.2.2.2.2.2.2.2.1, vI t.2.2.2.2.2.2.2.2])]⟩
def yvG : Gk VN := fun κ => JT (fun t => κ none ⟨.dead :: .box 1 0 :: vB t.1 :: dd 43 [], [(1, .box [zc t.2.1, yw t.2.2.1, zk t.2.2.2.1, yI t.2.2.2.2.1, zM t.2.2.2.2.2.1, vI t.2.2.2.2.2.2])]⟩) (fun t => κ (some 0) ⟨.dead :: .box 1 0 :: dd 44 [], [(1, .box [zc t.1, yw t.2.1, zk t.2.2.1, yI t.2.2.2.1, zM t.2.2.2.2.1, vI t.2.2.2.2.2])]⟩)
def yBy : Lp := lpC 4 (unG yFu ycw) @yvG lpN
theorem yBz : LF yBx yBy 30 4 Tryz.f30 0 ycw @yvG fun t => t := fun R κ again t => by kernel_rfl
theorem yBA : LK yBx yBy 30 Tryz.f30 0 := lkN (u := (unG yFu ycw)) (yo fun t => by kernel_rfl) yBz
theorem yHW : EV yBx yBy 30 Tryz.f30 yG0 jI [.bool] Ym := fun x => by kernel_rfl
def q30 : QF := ⟨30, Ym, okN (n := 1) Tryz.func30 ⟨yBA, trivial⟩ yHW⟩
abbrev VO : Type := ylb ⊕ Qz4
def Z7 (k0 : Unit → Option R) (k1 : List y7 → Option R) (again : VO → Option R) : VO → Option R
 | .inl t3 => bif (decide (t3.1 < (List.length t3.2 : Int))) then if (0 : Int) ≤ t3.1 then if t3.1 < (List.length t3.2 : Int) then if (List.length ([] : List y9) + List.length (yr t3.2 t3.1)) * 40 < 140737488355328 then if List.length ([(([] : List y9) ++ (yr t3.2 t3.1))] : List y7) * 24 < 140737488355328 then again (Sum.inr ((Go.IntKind.wrap .i64 (t3.1 + (1 : Int))), t3.2, ([(([] : List y9) ++ (yr t3.2 t3.1))] : List y7))) else none else none else none else none else k0 ()
 | .inr t3 => bif (decide (t3.1 < (List.length t3.2.1 : Int))) then if (0 : Int) ≤ t3.1 then if t3.1 < (List.length t3.2.1 : Int) then if (List.length ([] : List y9) + List.length (yr t3.2.1 t3.1)) * 40 < 140737488355328 then if (List.length t3.2.2 + List.length ([(([] : List y9) ++ (yr t3.2.1 t3.1))] : List y7)) * 24 < 140737488355328 then again (Sum.inr ((Go.IntKind.wrap .i64 (t3.1 + (1 : Int))), t3.2.1, (t3.2.2 ++ ([(([] : List y9) ++ (yr t3.2.1 t3.1))] : List y7)))) else none else none else none else none else k1 t3.2.2
def y0O k0 k1 := zh (@Z7 R k0 k1) zu
def zo (x : List y7) : Option (List y7) :=
 y0O (fun x1 => some ([] : List y7)) (fun x2 => some x2) (Sum.inl ((0 : Int), x))
def ygA : List QF := []
def y4c (t : ylb) : St := ⟨.dead :: .box 1 0 :: .box 2 0 :: .box 3 0 :: vI t.1 :: dd 21 [], [(1, .box [Yc t.2]), (2, .box [.nils]), (3, .box [.nils])]⟩
theorem yj8 : ∀ s t, unG yyC y4c s = some t → y4c t = s := yo fun t => by kernel_rfl
def y4d (t : Qz4) : St := ⟨.dead :: .box 1 0 :: .box 2 0 :: .box 3 0 :: vI t.1 :: dd 21 [], [(1, .box [Yc t.2.1]), (2, .box [.nils]), (3, .box [.own 10000000]), (10000000, .root true 58 yn t.2.2)]⟩
theorem yj9 : ∀ s t, unG qz4 y4d s = some t → y4d t = s := yo fun t => by kernel_rfl
def y4e : (ylb ⊕ Qz4) → St := Sum.elim y4c y4d
def y8q (s : St) : Option (ylb ⊕ Qz4) := ((unG yyC y4c s).map Sum.inl).or (((unG qz4 y4d) s).map Sum.inr)
theorem yja : ∀ s t, y8q s = some t → y4e t = s := y5h yj8 yj9
def ydM : Gk VO := fun κ => Z7 (fun t => κ (some 0) ⟨dd 2 (.box 2 0 :: .box 3 0 :: dd 22 []), [(2, .box [.nils]), (3, .box [.nils])]⟩) (fun t => κ (some 0) ⟨dd 2 (.box 2 0 :: .box 3 0 :: dd 22 []), [(2, .box [.nils]), (3, .box [.own 10000000]), (10000000, .root true 58 yn t)]⟩)
def ygB : Lp := lpC 3 y8q @ydM lpN
theorem yjb : LF ygA ygB 299 3 Tryz.f299 0 y4e @ydM fun v : ylb => .inl v := fun R κ again v => by kernel_rfl
theorem yjc : LF ygA ygB 299 3 Tryz.f299 0 y4e @ydM fun v : Qz4 => .inr v := fun R κ again v => by kernel_rfl
theorem yvH : LF ygA ygB 299 3 Tryz.f299 0 y4e @ydM fun t => t := (LC.sum yjb yjc)
theorem yvI : LK ygA ygB 299 Tryz.f299 0 := lkN (u := y8q) yja yvH
theorem yBB : EV ygA ygB 299 Tryz.f299 ysK [(.sl 58 yn)] [(.sl 58 yn)] zo := fun x => by kernel_rfl
def yGr : QF := ⟨299, zo, okN (n := 1) Tryz.func299 ⟨yvI, trivial⟩ yBB⟩
abbrev VP : Type := yqA ⊕ Qz6
def Z8 (k0 : List ye → Option R) (k1 : ycq → Option R) (again : VP → Option R) : VP → Option R
 | .inl t3 => bif (decide (t3.1 < (List.length t3.2.2.1 : Int))) then if (0 : Int) ≤ t3.1 then if t3.1 < (List.length t3.2.2.1 : Int) then Option.bind (zo (yg t3.2.2.1 t3.1)) fun r1 => if List.length ([r1] : List y0) * 24 < 140737488355328 then again (Sum.inr ((Go.IntKind.wrap .i64 (t3.1 + (1 : Int))), t3.2.1, t3.2.2.1, t3.2.2.2, ([r1] : List y0))) else none else none else none else k0 t3.2.2.2
 | .inr t3 => bif (decide (t3.1 < (List.length t3.2.2.1 : Int))) then if (0 : Int) ≤ t3.1 then if t3.1 < (List.length t3.2.2.1 : Int) then Option.bind (zo (yg t3.2.2.1 t3.1)) fun r2 => if (List.length t3.2.2.2.2 + List.length ([r2] : List y0)) * 24 < 140737488355328 then again (Sum.inr ((Go.IntKind.wrap .i64 (t3.1 + (1 : Int))), t3.2.1, t3.2.2.1, t3.2.2.2.1, (t3.2.2.2.2 ++ ([r2] : List y0)))) else none else none else none else k1 t3.2.2.2
def y0P k0 k1 := zh (@Z8 R k0 k1) zu
def Zu (x : ycq) : Option ycq :=
 if (List.length ([] : List ye) + List.length x.1) * 8 < 140737488355328 then y0P (fun x3 => some (x3, ([] : List y0))) (fun x4 => some x4) (Sum.inl ((0 : Int), x.1, x.2, (([] : List ye) ++ x.1))) else none
def ygC : List QF := [yGr]
def y4f (t : yqA) : St := ⟨.dead :: .box 1 0 :: .box 2 0 :: .box 3 0 :: vI t.1 :: dd 24 [], [(1, .box [zc t.2.1, yw t.2.2.1]), (2, .box [.nils, .nils]), (3, .box [.own 10000000, .nils]), (10000000, .root true 3 yh t.2.2.2)]⟩
theorem yjd : ∀ s t, unG yFv y4f s = some t → y4f t = s := yo fun t => by kernel_rfl
def y4g (t : Qz6) : St := ⟨.dead :: .box 1 0 :: .box 2 0 :: .box 3 0 :: vI t.1 :: dd 24 [], [(1, .box [zc t.2.1, yw t.2.2.1]), (2, .box [.nils, .nils]), (3, .box [.own 10000000, .own 10000001]), (10000000, .root true 3 yh t.2.2.2.1), (10000001, .root true 140 yj t.2.2.2.2)]⟩
theorem yje : ∀ s t, unG qz6 y4g s = some t → y4g t = s := yo fun t => by kernel_rfl
def y4h : (yqA ⊕ Qz6) → St := Sum.elim y4f y4g
def y8r (s : St) : Option (yqA ⊕ Qz6) := ((unG yFv y4f s).map Sum.inl).or (((unG qz6 y4g) s).map Sum.inr)
theorem yjf : ∀ s t, y8r s = some t → y4h t = s := y5h yjd yje
def ydN : Gk VP := fun κ => Z8 (fun t => κ (some 0) ⟨dd 2 (.box 2 0 :: .box 3 0 :: dd 25 []), [(2, .box [.nils, .nils]), (3, .box [.own 10000000, .nils]), (10000000, .root true 3 yh t)]⟩) (fun t => κ (some 0) ⟨dd 2 (.box 2 0 :: .box 3 0 :: dd 25 []), [(2, .box [.nils, .nils]), (3, .box [.own 10000000, .own 10000001]), (10000000, .root true 3 yh t.1), (10000001, .root true 140 yj t.2)]⟩)
def ygD : Lp := lpC 3 y8r @ydN lpN
theorem yjg : LF ygC ygD 210 3 Tryz.f210 0 y4h @ydN fun v : yqA => .inl v := fun R κ again v => by kernel_rfl
theorem yjh : LF ygC ygD 210 3 Tryz.f210 0 y4h @ydN fun v : Qz6 => .inr v := fun R κ again v => by kernel_rfl
theorem yvJ : LF ygC ygD 210 3 Tryz.f210 0 y4h @ydN fun t => t := (LC.sum yjg yjh)
theorem yvK : LK ygC ygD 210 Tryz.f210 0 := lkN (u := y8r) yjf yvJ
theorem yBC : EV ygC ygD 210 Tryz.f210 ysL Qe Qe Zu := fun x => by kernel_rfl
def yBD : QF := ⟨210, Zu, okN (n := 1) Tryz.func210 ⟨yvK, trivial⟩ yBC⟩
def YQ (x : List y8) : Option (List y8) :=
 if (List.length ([] : List y8) + List.length x) * 24 < 140737488355328 then some (([] : List y8) ++ x) else none
theorem yBE : EV [] lpN 211 Tryz.f211 ysM [(.sl 113 yd)] [(.sl 113 yd)] YQ := fun x => by kernel_rfl
def yBF : QF := ⟨211, YQ, okN (n := 0) Tryz.func211 trivial yBE⟩
def yq (x : y6q) : Option y6q :=
 Option.bind (Zu (x.1, x.2.1)) fun r1 => if (List.length ([] : List ya) + List.length x.2.2.1) * 16 < 140737488355328 then Option.bind (YQ x.2.2.2.1) fun r2 => if (List.length ([] : List yf) + List.length x.2.2.2.2.1) * 40 < 140737488355328 then some (r1.1, r1.2, (([] : List ya) ++ x.2.2.1), r2, (([] : List yf) ++ x.2.2.2.2.1), x.2.2.2.2.2) else none else none
theorem yHX : EV [yBD, yBF] lpN 94 Tryz.f94 yG1 jI jI yq := fun x => by kernel_rfl
def q94 : QF := ⟨94, yq, okN (n := 0) Tryz.func94 trivial yHX⟩
abbrev qS : Type := yFw
def W4 (k0 : Int → Option R) (k1 : Unit → Option R) (again : qS → Option R) (t2 : qS) : Option R :=
 bif (decide (t2.2.1 < (List.length t2.2.2.2.2.2.2.1 : Int))) then if (0 : Int) ≤ t2.2.1 then if t2.2.1 < (List.length t2.2.2.2.2.2.2.1 : Int) then bif ((ByteArray.toList ((yl t2.2.2.2.2.2.2.1 t2.2.1).1)) == (ByteArray.toList t2.1)) then k0 t2.2.1 else again (t2.1, (Go.IntKind.wrap .i64 (t2.2.1 + (1 : Int))), t2.2.2.1, t2.2.2.2.1, t2.2.2.2.2.1, t2.2.2.2.2.2.1, t2.2.2.2.2.2.2.1, t2.2.2.2.2.2.2.2) else none else none else k1 ()
def y1Q k0 k1 := zh (@W4 R k0 k1) zu
def zs (x : yyO) : Option Int :=
 y1Q (fun x1 => some x1) (fun x2 => some (-1 : Int)) (x.2.2.2.2.2.2, (0 : Int), x.1, x.2.1, x.2.2.1, x.2.2.2.1, x.2.2.2.2.1, x.2.2.2.2.2.1)
def ynP : List QF := []
def y8s (t : yFw) : St := ⟨.dead :: vS t.1 :: .box 2 0 :: dd 2 (vI t.2.1 :: dd 16 []), [(2, .box [zc t.2.2.1, yw t.2.2.2.1, zk t.2.2.2.2.1, yI t.2.2.2.2.2.1, zM t.2.2.2.2.2.2.1, vI t.2.2.2.2.2.2.2])]⟩
def ylz : Gk qS := fun κ => W4 (fun t => κ none ⟨dd 4 (vI t :: dd 17 []), []⟩) (fun t => κ (some 0) ⟨dd 22 [], []⟩)
def ynQ : Lp := lpC 2 (unG yFx y8s) @ylz lpN
theorem yvL : LF ynP ynQ 174 2 Tryz.f174 0 y8s @ylz fun t => t := fun R κ again t => by kernel_rfl
theorem yvM : LK ynP ynQ 174 Tryz.f174 0 := lkN (u := (unG yFx y8s)) (yo fun t => by kernel_rfl) yvL
theorem yBG : EV ynP ynQ 174 Tryz.f174 ysN yyP [(.int .i64)] zs := fun x => by kernel_rfl
def ylA : QF := ⟨174, zs, okN (n := 1) Tryz.func174 ⟨yvM, trivial⟩ yBG⟩
def yB (x : yzn) : Option Bool :=
 Option.bind (bif (decide (x.1 ≥ x.2.1)) then some (decide (x.1 ≤ x.2.2)) else some false) fun u1 => some u1
theorem yHY : EV [] lpN 96 Tryz.f96 yG2 yzo [.bool] yB := fun x => by kernel_rfl
def q96 : QF := ⟨96, yB, okN (n := 0) Tryz.func96 trivial yHY⟩
abbrev QU : Type := yyQ
def kl (k0 : List y9 → Option R) (again : QU → Option R) (t3 : QU) : Option R :=
 bif (decide (t3.2.1 < (List.length t3.1 : Int))) then if (0 : Int) ≤ t3.2.1 then if t3.2.1 < (List.length t3.1 : Int) then bif ((y6 t3.1 t3.2.1).2.2.1 != (0 : Int)) then if (0 : Int) ≤ t3.2.1 then if t3.2.1 < (List.length t3.1 : Int) then if (List.length t3.2.2 + List.length ([((y6 t3.1 t3.2.1).1, (y6 t3.1 t3.2.1).2.1, (y6 t3.1 t3.2.1).2.2.1, (y6 t3.1 t3.2.1).2.2.2.1, (y6 t3.1 t3.2.1).2.2.2.2)] : List y9)) * 40 < 140737488355328 then again (t3.1, (Go.IntKind.wrap .i64 (t3.2.1 + (1 : Int))), (t3.2.2 ++ ([((y6 t3.1 t3.2.1).1, (y6 t3.1 t3.2.1).2.1, (y6 t3.1 t3.2.1).2.2.1, (y6 t3.1 t3.2.1).2.2.2.1, (y6 t3.1 t3.2.1).2.2.2.2)] : List y9))) else none else none else none else again (t3.1, (Go.IntKind.wrap .i64 (t3.2.1 + (1 : Int))), t3.2.2) else none else none else k0 t3.2.2
def y2A k0 := zh (@kl R k0) zu
def Y6 (x : List y9) : Option (List y9) :=
 y2A (fun x1 => some x1) (x, (0 : Int), ([] : List y9))
def ynR : List QF := []
def y8t (t : yyQ) : St := ⟨qx t.1 :: dd 2 (.own 10000000 :: vI t.2.1 :: dd 21 []), [(10000000, .root true 64 yi t.2.2)]⟩
def ylB : Gk QU := fun κ => kl (fun t => κ (some 0) ⟨dd 3 (.own 10000000 :: dd 22 []), [(10000000, .root true 64 yi t)]⟩)
def ynS : Lp := lpC 3 (unG yyR y8t) @ylB lpN
theorem yvN : LF ynR ynS 230 3 Tryz.f230 0 y8t @ylB fun t => t := fun R κ again t => by kernel_rfl
theorem yvO : LK ynR ynS 230 Tryz.f230 0 := lkN (u := (unG yyR y8t)) (yo fun t => by kernel_rfl) yvN
theorem yBH : EV ynR ynS 230 Tryz.f230 ysO [(.sl 64 yi)] [(.sl 64 yi)] Y6 := fun x => by kernel_rfl
def yBI : QF := ⟨230, Y6, okN (n := 1) Tryz.func230 ⟨yvO, trivial⟩ yBH⟩
def Ji (x : yyw) : Option Bool :=
 bif (x.1 != x.2.2.2.2.2.1) then some (decide (x.1 < x.2.2.2.2.2.1)) else some (decide (x.2.1 < x.2.2.2.2.2.2.1))
theorem yBJ : EV [] lpN 307 Tryz.f307 ysP yyx [.bool] Ji := fun x => by kernel_rfl
def yGs : QF := ⟨307, Ji, okN (n := 0) Tryz.func307 trivial yBJ⟩
def jn (x : yyw) : Option Bool :=
 Option.bind (bif (x.1 == x.2.2.2.2.2.1) then some (x.2.1 == x.2.2.2.2.2.2.1) else some false) fun u1 => some u1
theorem yBK : EV [] lpN 308 Tryz.f308 ysQ yyx [.bool] jn := fun x => by kernel_rfl
def yHZ : QF := ⟨308, jn, okN (n := 0) Tryz.func308 trivial yBK⟩
abbrev km : Type := yFy
def Z9 (k0 : yET → Option R) (again : km → Option R) (t4 : km) : Option R :=
 bif (decide (t4.2.2.1 < (List.length t4.1 : Int))) then Option.bind (bif (!t4.2.1) then if (0 : Int) ≤ t4.2.2.1 then if t4.2.2.1 < (List.length t4.1 : Int) then Option.bind (Ji ((y6 t4.1 t4.2.2.1).1, (y6 t4.1 t4.2.2.1).2.1, (y6 t4.1 t4.2.2.1).2.2.1, (y6 t4.1 t4.2.2.1).2.2.2.1, (y6 t4.1 t4.2.2.1).2.2.2.2, t4.2.2.2.1, t4.2.2.2.2.1, t4.2.2.2.2.2.1, t4.2.2.2.2.2.2.1, t4.2.2.2.2.2.2.2.1)) fun r2 => some (!r2) else none else none else some false) fun u1 => bif u1 then if (List.length t4.2.2.2.2.2.2.2.2 + List.length ([(t4.2.2.2.1, t4.2.2.2.2.1, t4.2.2.2.2.2.1, t4.2.2.2.2.2.2.1, t4.2.2.2.2.2.2.2.1)] : List y9)) * 40 < 140737488355328 then if (0 : Int) ≤ t4.2.2.1 then if t4.2.2.1 < (List.length t4.1 : Int) then Option.bind (jn ((y6 t4.1 t4.2.2.1).1, (y6 t4.1 t4.2.2.1).2.1, (y6 t4.1 t4.2.2.1).2.2.1, (y6 t4.1 t4.2.2.1).2.2.2.1, (y6 t4.1 t4.2.2.1).2.2.2.2, t4.2.2.2.1, t4.2.2.2.2.1, t4.2.2.2.2.2.1, t4.2.2.2.2.2.2.1, t4.2.2.2.2.2.2.2.1)) fun r3 => bif (!r3) then if (0 : Int) ≤ t4.2.2.1 then if t4.2.2.1 < (List.length t4.1 : Int) then if (List.length (t4.2.2.2.2.2.2.2.2 ++ ([(t4.2.2.2.1, t4.2.2.2.2.1, t4.2.2.2.2.2.1, t4.2.2.2.2.2.2.1, t4.2.2.2.2.2.2.2.1)] : List y9)) + List.length ([((y6 t4.1 t4.2.2.1).1, (y6 t4.1 t4.2.2.1).2.1, (y6 t4.1 t4.2.2.1).2.2.1, (y6 t4.1 t4.2.2.1).2.2.2.1, (y6 t4.1 t4.2.2.1).2.2.2.2)] : List y9)) * 40 < 140737488355328 then again (t4.1, true, (Go.IntKind.wrap .i64 (t4.2.2.1 + (1 : Int))), t4.2.2.2.1, t4.2.2.2.2.1, t4.2.2.2.2.2.1, t4.2.2.2.2.2.2.1, t4.2.2.2.2.2.2.2.1, ((t4.2.2.2.2.2.2.2.2 ++ ([(t4.2.2.2.1, t4.2.2.2.2.1, t4.2.2.2.2.2.1, t4.2.2.2.2.2.2.1, t4.2.2.2.2.2.2.2.1)] : List y9)) ++ ([((y6 t4.1 t4.2.2.1).1, (y6 t4.1 t4.2.2.1).2.1, (y6 t4.1 t4.2.2.1).2.2.1, (y6 t4.1 t4.2.2.1).2.2.2.1, (y6 t4.1 t4.2.2.1).2.2.2.2)] : List y9))) else none else none else none else again (t4.1, true, (Go.IntKind.wrap .i64 (t4.2.2.1 + (1 : Int))), t4.2.2.2.1, t4.2.2.2.2.1, t4.2.2.2.2.2.1, t4.2.2.2.2.2.2.1, t4.2.2.2.2.2.2.2.1, (t4.2.2.2.2.2.2.2.2 ++ ([(t4.2.2.2.1, t4.2.2.2.2.1, t4.2.2.2.2.2.1, t4.2.2.2.2.2.2.1, t4.2.2.2.2.2.2.2.1)] : List y9))) else none else none else none else if (0 : Int) ≤ t4.2.2.1 then if t4.2.2.1 < (List.length t4.1 : Int) then Option.bind (jn ((y6 t4.1 t4.2.2.1).1, (y6 t4.1 t4.2.2.1).2.1, (y6 t4.1 t4.2.2.1).2.2.1, (y6 t4.1 t4.2.2.1).2.2.2.1, (y6 t4.1 t4.2.2.1).2.2.2.2, t4.2.2.2.1, t4.2.2.2.2.1, t4.2.2.2.2.2.1, t4.2.2.2.2.2.2.1, t4.2.2.2.2.2.2.2.1)) fun r4 => bif (!r4) then if (0 : Int) ≤ t4.2.2.1 then if t4.2.2.1 < (List.length t4.1 : Int) then if (List.length t4.2.2.2.2.2.2.2.2 + List.length ([((y6 t4.1 t4.2.2.1).1, (y6 t4.1 t4.2.2.1).2.1, (y6 t4.1 t4.2.2.1).2.2.1, (y6 t4.1 t4.2.2.1).2.2.2.1, (y6 t4.1 t4.2.2.1).2.2.2.2)] : List y9)) * 40 < 140737488355328 then again (t4.1, t4.2.1, (Go.IntKind.wrap .i64 (t4.2.2.1 + (1 : Int))), t4.2.2.2.1, t4.2.2.2.2.1, t4.2.2.2.2.2.1, t4.2.2.2.2.2.2.1, t4.2.2.2.2.2.2.2.1, (t4.2.2.2.2.2.2.2.2 ++ ([((y6 t4.1 t4.2.2.1).1, (y6 t4.1 t4.2.2.1).2.1, (y6 t4.1 t4.2.2.1).2.2.1, (y6 t4.1 t4.2.2.1).2.2.2.1, (y6 t4.1 t4.2.2.1).2.2.2.2)] : List y9))) else none else none else none else again (t4.1, t4.2.1, (Go.IntKind.wrap .i64 (t4.2.2.1 + (1 : Int))), t4.2.2.2.1, t4.2.2.2.2.1, t4.2.2.2.2.2.1, t4.2.2.2.2.2.2.1, t4.2.2.2.2.2.2.2.1, t4.2.2.2.2.2.2.2.2) else none else none else k0 (t4.2.1, t4.2.2.2)
def VQ k0 := zh (@Z9 R k0) zu
def zC (x : yEU) : Option (List y9) :=
 VQ (fun x5 => bif (!x5.1) then if (List.length x5.2.2.2.2.2.2 + List.length ([(x5.2.1, x5.2.2.1, x5.2.2.2.1, x5.2.2.2.2.1, x5.2.2.2.2.2.1)] : List y9)) * 40 < 140737488355328 then some (x5.2.2.2.2.2.2 ++ ([(x5.2.1, x5.2.2.1, x5.2.2.2.1, x5.2.2.2.2.1, x5.2.2.2.2.2.1)] : List y9)) else none else some x5.2.2.2.2.2.2) (x.1, false, (0 : Int), x.2.1, x.2.2.1, x.2.2.2.1, x.2.2.2.2.1, x.2.2.2.2.2, ([] : List y9))
def ynT : List QF := [yGs, yHZ]
def y8u (t : yFy) : St := ⟨qx t.1 :: dd 2 (.box 3 0 :: .dead :: .own 10000000 :: vB t.2.1 :: vI t.2.2.1 :: dd 43 []), [(3, .box [vI t.2.2.2.1, vI t.2.2.2.2.1, vI t.2.2.2.2.2.1, vI t.2.2.2.2.2.2.1, vI t.2.2.2.2.2.2.2.1]), (10000000, .root true 64 yi t.2.2.2.2.2.2.2.2)]⟩
def ylC : Gk km := fun κ => Z9 (fun t => κ (some 0) ⟨dd 3 (.box 3 0 :: .dead :: .own 10000000 :: vB t.1 :: dd 44 []), [(3, .box [vI t.2.1, vI t.2.2.1, vI t.2.2.2.1, vI t.2.2.2.2.1, vI t.2.2.2.2.2.1]), (10000000, .root true 64 yi t.2.2.2.2.2.2)]⟩)
def ynU : Lp := lpC 4 (unG yFz y8u) @ylC lpN
theorem yvP : LF ynT ynU 231 4 Tryz.f231 0 y8u @ylC fun t => t := fun R κ again t => by kernel_rfl
theorem yvQ : LK ynT ynU 231 Tryz.f231 0 := lkN (u := (unG yFz y8u)) (yo fun t => by kernel_rfl) yvP
theorem yBL : EV ynT ynU 231 Tryz.f231 ysR yEV [(.sl 64 yi)] zC := fun x => by kernel_rfl
def yyY : QF := ⟨231, zC, okN (n := 1) Tryz.func231 ⟨yvQ, trivial⟩ yBL⟩
abbrev kn : Type := yyQ
def Zv (k0 : List y9 → Option R) (again : kn → Option R) (t3 : kn) : Option R :=
 bif (decide (t3.2.1 < (List.length t3.1 : Int))) then if (0 : Int) ≤ t3.2.1 then if t3.2.1 < (List.length t3.1 : Int) then Option.bind (zC (t3.2.2, (y6 t3.1 t3.2.1).1, (y6 t3.1 t3.2.1).2.1, (y6 t3.1 t3.2.1).2.2.1, (y6 t3.1 t3.2.1).2.2.2.1, (y6 t3.1 t3.2.1).2.2.2.2)) fun r1 => again (t3.1, (Go.IntKind.wrap .i64 (t3.2.1 + (1 : Int))), r1) else none else none else k0 t3.2.2
def qJ k0 := zh (@Zv R k0) zu
def Zk (x : Qz3) : Option (List y9) :=
 if (List.length ([] : List y9) + List.length x.1) * 40 < 140737488355328 then qJ (fun x2 => some x2) (x.2, (0 : Int), (([] : List y9) ++ x.1)) else none
def ynV : List QF := [yyY]
def y8v (t : yyQ) : St := ⟨.dead :: qx t.1 :: dd 3 (.own 10000000 :: vI t.2.1 :: dd 16 []), [(10000000, .root true 64 yi t.2.2)]⟩
def ylD : Gk kn := fun κ => Zv (fun t => κ (some 0) ⟨dd 5 (.own 10000000 :: dd 17 []), [(10000000, .root true 64 yi t)]⟩)
def ynW : Lp := lpC 3 (unG yyR y8v) @ylD lpN
theorem yvR : LF ynV ynW 309 3 Tryz.f309 0 y8v @ylD fun t => t := fun R κ again t => by kernel_rfl
theorem yvS : LK ynV ynW 309 Tryz.f309 0 := lkN (u := (unG yyR y8v)) (yo fun t => by kernel_rfl) yvR
theorem yBM : EV ynV ynW 309 Tryz.f309 ysS qz3 [(.sl 64 yi)] Zk := fun x => by kernel_rfl
def yI0 : QF := ⟨309, Zk, okN (n := 1) Tryz.func309 ⟨yvS, trivial⟩ yBM⟩
abbrev KC : Type := yFA
def jo (k0 : List y9 → Option R) (again : KC → Option R) (t3 : KC) : Option R :=
 bif (decide (t3.1 < (List.length t3.2.1 : Int))) then if (0 : Int) ≤ t3.1 then if t3.1 < (List.length t3.2.1 : Int) then Option.bind (Zk (t3.2.2, (yr t3.2.1 t3.1))) fun r1 => again ((Go.IntKind.wrap .i64 (t3.1 + (1 : Int))), t3.2.1, r1) else none else none else k0 t3.2.2
def Qp k0 := zh (@jo R k0) zu
def yE (x : List y7) : Option (List y9) :=
 Qp (fun x2 => Option.bind (Y6 x2) fun r3 => some r3) ((0 : Int), x, ([] : List y9))
def ynX : List QF := [yBI, yI0]
def y8w (t : yFA) : St := ⟨.dead :: .box 1 0 :: .dead :: .own 10000000 :: vI t.1 :: dd 17 [], [(1, .box [Yc t.2.1]), (10000000, .root true 64 yi t.2.2)]⟩
def ylE : Gk KC := fun κ => jo (fun t => κ (some 0) ⟨dd 3 (.own 10000000 :: dd 18 []), [(10000000, .root true 64 yi t)]⟩)
def ynY : Lp := lpC 3 (unG yFB y8w) @ylE lpN
theorem yvT : LF ynX ynY 232 3 Tryz.f232 0 y8w @ylE fun t => t := fun R κ again t => by kernel_rfl
theorem yvU : LK ynX ynY 232 Tryz.f232 0 := lkN (u := (unG yFB y8w)) (yo fun t => by kernel_rfl) yvT
theorem yBN : EV ynX ynY 232 Tryz.f232 ysT [(.sl 58 yn)] [(.sl 64 yi)] yE := fun x => by kernel_rfl
def ynZ : QF := ⟨232, yE, okN (n := 1) Tryz.func232 ⟨yvU, trivial⟩ yBN⟩
abbrev KD : Type := yFC
def jp (k0 : List y9 → Option R) (again : KD → Option R) (t3 : KD) : Option R :=
 bif (decide (t3.1 < (List.length t3.2.2.1 : Int))) then if (0 : Int) ≤ t3.1 then if t3.1 < (List.length t3.2.2.1 : Int) then Option.bind (yE (yg t3.2.2.1 t3.1)) fun r1 => if (List.length t3.2.2.2 + List.length r1) * 40 < 140737488355328 then again ((Go.IntKind.wrap .i64 (t3.1 + (1 : Int))), t3.2.1, t3.2.2.1, (t3.2.2.2 ++ r1)) else none else none else none else k0 t3.2.2.2
def Qq k0 := zh (@jp R k0) zu
def yP (x : ycq) : Option (List y9) :=
 Qq (fun x2 => some x2) ((0 : Int), x.1, x.2, ([] : List y9))
def yo0 : List QF := [ynZ]
def y8x (t : yFC) : St := ⟨.dead :: .box 1 0 :: .dead :: .own 10000000 :: vI t.1 :: dd 17 [], [(1, .box [zc t.2.1, yw t.2.2.1]), (10000000, .root true 64 yi t.2.2.2)]⟩
def ylF : Gk KD := fun κ => jp (fun t => κ (some 0) ⟨dd 3 (.own 10000000 :: dd 18 []), [(10000000, .root true 64 yi t)]⟩)
def yo1 : Lp := lpC 3 (unG yFD y8x) @ylF lpN
theorem yvV : LF yo0 yo1 137 3 Tryz.f137 0 y8x @ylF fun t => t := fun R κ again t => by kernel_rfl
theorem yvW : LK yo0 yo1 137 Tryz.f137 0 := lkN (u := (unG yFD y8x)) (yo fun t => by kernel_rfl) yvV
theorem yBO : EV yo0 yo1 137 Tryz.f137 ysU Qe [(.sl 64 yi)] yP := fun x => by kernel_rfl
def yo2 : QF := ⟨137, yP, okN (n := 1) Tryz.func137 ⟨yvW, trivial⟩ yBO⟩
def ww (x : yq6) : Option Int :=
 some (Go.IntKind.wrap .i64 ((Go.IntKind.wrap .i64 ((64 : Int) * x.1)) + x.2))
theorem yBP : EV [] lpN 304 Tryz.f304 ysV yqz [(.int .i64)] ww := fun x => by kernel_rfl
def yGt : QF := ⟨304, ww, okN (n := 0) Tryz.func304 trivial yBP⟩
def wx (x : yla) : Option Int :=
 Option.bind (ww (x.1, x.2.1)) fun r1 => some r1
theorem yBQ : EV [yGt] lpN 233 Tryz.f233 ysW QE [(.int .i64)] wx := fun x => by kernel_rfl
def yGu : QF := ⟨233, wx, okN (n := 0) Tryz.func233 trivial yBQ⟩
def jM (x : yla) : Option Bool :=
 Option.bind (yB (x.1, (0 : Int), (15 : Int))) fun r1 => Option.bind (bif (!r1) then some true else Option.bind (yB (x.2.1, (1 : Int), (60 : Int))) fun r3 => some (!r3)) fun u2 => Option.bind (bif u2 then some true else Option.bind (yB (x.2.2.1, (0 : Int), (2 : Int))) fun r5 => some (!r5)) fun u4 => bif u4 then some false else bif (x.2.2.1 == (1 : Int)) then Option.bind (yB (x.2.2.2.1, (0 : Int), (23 : Int))) fun r6 => Option.bind (bif r6 then Option.bind (yB (x.2.2.2.2, (0 : Int), (999 : Int))) fun r8 => some r8 else some false) fun u7 => some u7 else Option.bind (bif (x.2.2.2.1 == (0 : Int)) then some (x.2.2.2.2 == (0 : Int)) else some false) fun u9 => some u9
theorem yBR : EV [q96] lpN 226 Tryz.f226 ysX QE [.bool] jM := fun x => by kernel_rfl
def yyZ : QF := ⟨226, jM, okN (n := 0) Tryz.func226 trivial yBR⟩
abbrev V1 : Type := yyS
def J4 (k0 : Bool → Option R) (k1 : Unit → Option R) (again : V1 → Option R) (t2 : V1) : Option R :=
 bif (decide (t2.2 < (List.length t2.1 : Int))) then if (0 : Int) ≤ (Go.IntKind.wrap .i64 (t2.2 - (1 : Int))) then if (Go.IntKind.wrap .i64 (t2.2 - (1 : Int))) < (List.length t2.1 : Int) then if (0 : Int) ≤ t2.2 then if t2.2 < (List.length t2.1 : Int) then Option.bind (Ji ((y6 t2.1 (Go.IntKind.wrap .i64 (t2.2 - (1 : Int)))).1, (y6 t2.1 (Go.IntKind.wrap .i64 (t2.2 - (1 : Int)))).2.1, (y6 t2.1 (Go.IntKind.wrap .i64 (t2.2 - (1 : Int)))).2.2.1, (y6 t2.1 (Go.IntKind.wrap .i64 (t2.2 - (1 : Int)))).2.2.2.1, (y6 t2.1 (Go.IntKind.wrap .i64 (t2.2 - (1 : Int)))).2.2.2.2, (y6 t2.1 t2.2).1, (y6 t2.1 t2.2).2.1, (y6 t2.1 t2.2).2.2.1, (y6 t2.1 t2.2).2.2.2.1, (y6 t2.1 t2.2).2.2.2.2)) fun r1 => bif (!r1) then k0 false else again (t2.1, (Go.IntKind.wrap .i64 (t2.2 + (1 : Int)))) else none else none else none else none else k1 ()
def y0f k0 k1 := zh (@J4 R k0 k1) zu
def W5 (x : List y9) : Option Bool :=
 y0f (fun x2 => some x2) (fun x3 => some true) (x, (1 : Int))
def yo3 : List QF := [yGs]
def y8y (t : yyS) : St := ⟨qx t.1 :: dd 2 (vI t.2 :: dd 17 []), []⟩
def ylG : Gk V1 := fun κ => J4 (fun t => κ none ⟨dd 2 (vB t :: dd 18 []), []⟩) (fun t => κ (some 0) ⟨dd 21 [], []⟩)
def yo4 : Lp := lpC 2 (unG yyT y8y) @ylG lpN
theorem yvX : LF yo3 yo4 359 2 Tryz.f359 0 y8y @ylG fun t => t := fun R κ again t => by kernel_rfl
theorem yvY : LK yo3 yo4 359 Tryz.f359 0 := lkN (u := (unG yyT y8y)) (yo fun t => by kernel_rfl) yvX
theorem yBS : EV yo3 yo4 359 Tryz.f359 ysY [(.sl 64 yi)] [.bool] W5 := fun x => by kernel_rfl
def yI1 : QF := ⟨359, W5, okN (n := 1) Tryz.func359 ⟨yvY, trivial⟩ yBS⟩
abbrev qT : Type := yyS
def W6 (k0 : yEY → Option R) (k1 : List y9 → Option R) (again : qT → Option R) (t2 : qT) : Option R :=
 bif (decide (t2.2 < (List.length t2.1 : Int))) then if (0 : Int) ≤ t2.2 then if t2.2 < (List.length t2.1 : Int) then Option.bind (jM ((y6 t2.1 t2.2).1, (y6 t2.1 t2.2).2.1, (y6 t2.1 t2.2).2.2.1, (y6 t2.1 t2.2).2.2.2.1, (y6 t2.1 t2.2).2.2.2.2)) fun r1 => bif (!r1) then k0 (t2.1, false) else again (t2.1, (Go.IntKind.wrap .i64 (t2.2 + (1 : Int)))) else none else none else k1 t2.1
def y1R k0 k1 := zh (@W6 R k0 k1) zu
def vJ (x : List y9) : Option Bool :=
 y1R (fun x2 => some x2.2) (fun x3 => Option.bind (W5 x3) fun r4 => Option.bind (bif r4 then some (decide ((List.length x3 : Int) ≤ (60 : Int))) else some false) fun u5 => some u5) (x, (0 : Int))
def yo5 : List QF := [yyZ, yI1]
def y8z (t : yyS) : St := ⟨qx t.1 :: dd 2 (vI t.2 :: dd 19 []), []⟩
def ylH : Gk qT := fun κ => W6 (fun t => κ none ⟨qx t.1 :: .dead :: vB t.2 :: dd 20 [], []⟩) (fun t => κ (some 0) ⟨qx t :: dd 22 [], []⟩)
def yo6 : Lp := lpC 2 (unG yyT y8z) @ylH lpN
theorem yvZ : LF yo5 yo6 344 2 Tryz.f344 0 y8z @ylH fun t => t := fun R κ again t => by kernel_rfl
theorem yw0 : LK yo5 yo6 344 Tryz.f344 0 := lkN (u := (unG yyT y8z)) (yo fun t => by kernel_rfl) yvZ
theorem yBT : EV yo5 yo6 344 Tryz.f344 ysZ [(.sl 64 yi)] [.bool] vJ := fun x => by kernel_rfl
def yI2 : QF := ⟨344, vJ, okN (n := 1) Tryz.func344 ⟨yw0, trivial⟩ yBT⟩
abbrev V2 : Type := yFE
def J5 (k0 : Int → Option R) (again : V2 → Option R) (t3 : V2) : Option R :=
 bif (decide (t3.2.1 < (List.length t3.2.2 : Int))) then if (0 : Int) ≤ t3.2.1 then if t3.2.1 < (List.length t3.2.2 : Int) then again ((Go.IntKind.wrap .i64 (t3.1 + (List.length (yr t3.2.2 t3.2.1) : Int))), (Go.IntKind.wrap .i64 (t3.2.1 + (1 : Int))), t3.2.2) else none else none else k0 t3.1
def y0g k0 := zh (@J5 R k0) zu
def W7 (x : List y7) : Option Int :=
 y0g (fun x1 => some x1) ((0 : Int), (0 : Int), x)
def yo7 : List QF := []
def y8A (t : yFE) : St := ⟨.dead :: .box 1 0 :: .dead :: vI t.1 :: vI t.2.1 :: dd 16 [], [(1, .box [Yc t.2.2])]⟩
def ylI : Gk V2 := fun κ => J5 (fun t => κ (some 0) ⟨dd 3 (vI t :: dd 17 []), []⟩)
def yo8 : Lp := lpC 3 (unG yFF y8A) @ylI lpN
theorem yw1 : LF yo7 yo8 345 3 Tryz.f345 0 y8A @ylI fun t => t := fun R κ again t => by kernel_rfl
theorem yw2 : LK yo7 yo8 345 Tryz.f345 0 := lkN (u := (unG yFF y8A)) (yo fun t => by kernel_rfl) yw1
theorem yBU : EV yo7 yo8 345 Tryz.f345 yt0 [(.sl 58 yn)] [(.int .i64)] W7 := fun x => by kernel_rfl
def yI3 : QF := ⟨345, W7, okN (n := 1) Tryz.func345 ⟨yw2, trivial⟩ yBU⟩
abbrev VR : Type := ylb
def JU (k0 : yHb → Option R) (k1 : List y7 → Option R) (again : VR → Option R) (t2 : VR) : Option R :=
 bif (decide (t2.1 < (List.length t2.2 : Int))) then if (0 : Int) ≤ t2.1 then if t2.1 < (List.length t2.2 : Int) then Option.bind (vJ (yr t2.2 t2.1)) fun r1 => Option.bind (bif (!r1) then some true else if (0 : Int) ≤ t2.1 then if t2.1 < (List.length t2.2 : Int) then some ((List.length (yr t2.2 t2.1) : Int) == (0 : Int)) else none else none) fun u2 => bif u2 then k0 (false, t2.2) else again ((Go.IntKind.wrap .i64 (t2.1 + (1 : Int))), t2.2) else none else none else k1 t2.2
def y0Q k0 k1 := zh (@JU R k0 k1) zu
def zv (x : List y7) : Option Bool :=
 y0Q (fun x3 => some x3.1) (fun x4 => Option.bind (bif (decide ((List.length x4 : Int) ≤ (3 : Int))) then Option.bind (W7 x4) fun r6 => some (decide (r6 ≤ (8 : Int))) else some false) fun u5 => some u5) ((0 : Int), x)
def yo9 : List QF := [yI2, yI3]
def y8B (t : ylb) : St := ⟨.dead :: .box 1 0 :: .dead :: vI t.1 :: dd 32 [], [(1, .box [Yc t.2])]⟩
def ylJ : Gk VR := fun κ => JU (fun t => κ none ⟨.dead :: .box 1 0 :: vB t.1 :: dd 33 [], [(1, .box [Yc t.2])]⟩) (fun t => κ (some 0) ⟨.dead :: .box 1 0 :: dd 34 [], [(1, .box [Yc t])]⟩)
def yoa : Lp := lpC 2 (unG yyC y8B) @ylJ lpN
theorem yw3 : LF yo9 yoa 306 2 Tryz.f306 0 y8B @ylJ fun t => t := fun R κ again t => by kernel_rfl
theorem yw4 : LK yo9 yoa 306 Tryz.f306 0 := lkN (u := (unG yyC y8B)) (yo fun t => by kernel_rfl) yw3
theorem yBV : EV yo9 yoa 306 Tryz.f306 yt1 [(.sl 58 yn)] [.bool] zv := fun x => by kernel_rfl
def yGv : QF := ⟨306, zv, okN (n := 1) Tryz.func306 ⟨yw4, trivial⟩ yBV⟩
abbrev VS : Type := yFG
def JV (k0 : yHc → Option R) (k1 : yzu → Option R) (again : VS → Option R) (t8 : VS) : Option R :=
 if (0 : Int) ≤ t8.2.1 then if t8.2.1 < (List.length t8.2.2.2.2.2 : Int) then bif (decide (t8.2.2.1 < (List.length (yr t8.2.2.2.2.2 t8.2.1) : Int))) then if (0 : Int) ≤ t8.2.1 then if t8.2.1 < (List.length t8.2.2.2.2.2 : Int) then if (0 : Int) ≤ t8.2.2.1 then if t8.2.2.1 < (List.length (yr t8.2.2.2.2.2 t8.2.1) : Int) then Option.bind (wx ((y6 (yr t8.2.2.2.2.2 t8.2.1) t8.2.2.1).1, (y6 (yr t8.2.2.2.2.2 t8.2.1) t8.2.2.1).2.1, (y6 (yr t8.2.2.2.2.2 t8.2.1) t8.2.2.1).2.2.1, (y6 (yr t8.2.2.2.2.2 t8.2.1) t8.2.2.1).2.2.2.1, (y6 (yr t8.2.2.2.2.2 t8.2.1) t8.2.2.1).2.2.2.2)) fun r5 => if (0 : Int) ≤ t8.1 then if t8.1 < (List.length t8.2.2.2.1 : Int) then Option.bind (bif (decide (r5 < (zL t8.2.2.2.1 t8.1))) then some true else Option.bind (bif (decide ((Go.IntKind.wrap .i64 (t8.1 + (1 : Int))) < (List.length t8.2.2.2.1 : Int))) then if (0 : Int) ≤ (Go.IntKind.wrap .i64 (t8.1 + (1 : Int))) then if (Go.IntKind.wrap .i64 (t8.1 + (1 : Int))) < (List.length t8.2.2.2.1 : Int) then some (decide (r5 ≥ (zL t8.2.2.2.1 (Go.IntKind.wrap .i64 (t8.1 + (1 : Int)))))) else none else none else some false) fun u7 => some u7) fun u6 => bif u6 then k0 (t8.1, false, t8.2.1, t8.2.2.2) else again (t8.1, t8.2.1, (Go.IntKind.wrap .i64 (t8.2.2.1 + (1 : Int))), t8.2.2.2.1, t8.2.2.2.2.1, t8.2.2.2.2.2) else none else none else none else none else none else none else k1 (t8.1, t8.2.1, t8.2.2.2) else none else none
def VT k0 k1 := zh (@JV R k0 k1) zu
abbrev VU : Type := yzu
def JW (k0 : Bool → Option R) (k1 : Unit → Option R) (again : VU → Option R) (t5 : VU) : Option R :=
 bif (decide (t5.2.1 < (List.length t5.2.2.2.2 : Int))) then VT (fun x8 => k0 x8.2.1) (fun x9 => again (x9.1, (Go.IntKind.wrap .i64 (x9.2.1 + (1 : Int))), x9.2.2.1, x9.2.2.2.1, x9.2.2.2.2)) (t5.1, t5.2.1, (0 : Int), t5.2.2.1, t5.2.2.2.1, t5.2.2.2.2) else k1 ()
def VV k0 k1 := zh (@JW R k0 k1) zu
def ko (x : yyD) : Option Bool :=
 if (0 : Int) ≤ x.2.2 then if x.2.2 < (List.length x.2.1 : Int) then Option.bind (zv (yg x.2.1 x.2.2)) fun r1 => Option.bind (bif (!r1) then some true else Option.bind (bif (decide (x.2.2 > (0 : Int))) then Option.bind (yE (yg x.2.1 x.2.2)) fun r4 => some ((List.length r4 : Int) == (0 : Int)) else some false) fun u3 => some u3) fun u2 => bif u2 then some false else VV (fun x10 => some x10) (fun x11 => some true) (x.2.2, (0 : Int), x.1, x.2.1, (yg x.2.1 x.2.2)) else none else none
def ygE : List QF := [ynZ, yGu, yGv]
def y8C (t : yFG) : St := ⟨.dead :: vI t.1 :: .box 2 0 :: dd 2 (.box 5 0 :: vI t.2.1 :: vI t.2.2.1 :: dd 70 []), [(2, .box [zc t.2.2.2.1, yw t.2.2.2.2.1]), (5, .box [Yc t.2.2.2.2.2])]⟩
def ylK : Gk VS := fun κ => JV (fun t => κ none ⟨.dead :: vI t.1 :: .box 2 0 :: .dead :: vB t.2.1 :: .box 5 0 :: vI t.2.2.1 :: dd 71 [], [(2, .box [zc t.2.2.2.1, yw t.2.2.2.2.1]), (5, .box [Yc t.2.2.2.2.2])]⟩) (fun t => κ (some 2) ⟨.dead :: vI t.1 :: .box 2 0 :: dd 2 (.box 5 0 :: vI t.2.1 :: dd 71 []), [(2, .box [zc t.2.2.1, yw t.2.2.2.1]), (5, .box [Yc t.2.2.2.2])]⟩)
def y8D (t : yzu) : St := ⟨.dead :: vI t.1 :: .box 2 0 :: dd 2 (.box 5 0 :: vI t.2.1 :: dd 71 []), [(2, .box [zc t.2.2.1, yw t.2.2.2.1]), (5, .box [Yc t.2.2.2.2])]⟩
def ylL : Gk VU := fun κ => JW (fun t => κ none ⟨dd 4 (vB t :: dd 73 []), []⟩) (fun t => κ (some 0) ⟨dd 78 [], []⟩)
def ygF : Lp := lpC 5 (unG yFI y8D) @ylL (lpC 8 (unG yFH y8C) @ylK lpN)
theorem yw5 : LF ygE ygF 300 8 Tryz.f300 1 y8C @ylK fun t => t := fun R κ again t => by kernel_rfl
theorem yw6 : LK ygE ygF 300 Tryz.f300 1 := lkN (u := (unG yFH y8C)) (yo fun t => by kernel_rfl) yw5
theorem yw7 : LF ygE ygF 300 5 Tryz.f300 0 y8D @ylL fun t => t := fun R κ again t => by kernel_rfl
theorem yw8 : LK ygE ygF 300 Tryz.f300 0 := lkN (u := (unG yFI y8D)) (yo fun t => by kernel_rfl) yw7
theorem yBW : EV ygE ygF 300 Tryz.f300 yt2 yyE [.bool] ko := fun x => by kernel_rfl
def yI4 : QF := ⟨300, ko, okN (n := 2) Tryz.func300 ⟨yw8, yw6, trivial⟩ yBW⟩
abbrev VW : Type := yq9
def JX (k0 : yHd → Option R) (k1 : ycq → Option R) (again : VW → Option R) (t4 : VW) : Option R :=
 bif (decide (t4.1 < (List.length t4.2.2 : Int))) then Option.bind (bif (decide (t4.1 > (0 : Int))) then if (0 : Int) ≤ (Go.IntKind.wrap .i64 (t4.1 - (1 : Int))) then if (Go.IntKind.wrap .i64 (t4.1 - (1 : Int))) < (List.length t4.2.1 : Int) then if (0 : Int) ≤ t4.1 then if t4.1 < (List.length t4.2.1 : Int) then some (decide ((zL t4.2.1 (Go.IntKind.wrap .i64 (t4.1 - (1 : Int)))) ≥ (zL t4.2.1 t4.1))) else none else none else none else none else some false) fun u4 => Option.bind (bif u4 then some true else Option.bind (ko (t4.2.1, t4.2.2, t4.1)) fun r6 => some (!r6)) fun u5 => bif u5 then k0 (false, t4.2) else again ((Go.IntKind.wrap .i64 (t4.1 + (1 : Int))), t4.2.1, t4.2.2) else k1 t4.2
def y0R k0 k1 := zh (@JX R k0 k1) zu
def Yn (x : ycq) : Option Bool :=
 Option.bind (yB ((List.length x.2 : Int), (1 : Int), (20 : Int))) fun r1 => Option.bind (bif (!r1) then some true else some ((List.length x.1 : Int) != (List.length x.2 : Int))) fun u2 => Option.bind (bif u2 then some true else if (0 : Int) ≤ (0 : Int) then if (0 : Int) < (List.length x.1 : Int) then some ((zL x.1 (0 : Int)) != (0 : Int)) else none else none) fun u3 => bif u3 then some false else y0R (fun x7 => some x7.1) (fun x8 => Option.bind (yP x8) fun r9 => some (decide ((List.length r9 : Int) ≤ (60 : Int)))) ((0 : Int), x.1, x.2)
def yob : List QF := [q96, yo2, yI4]
def y8E (t : yq9) : St := ⟨.dead :: .box 1 0 :: .dead :: vI t.1 :: dd 54 [], [(1, .box [zc t.2.1, yw t.2.2])]⟩
def ylM : Gk VW := fun κ => JX (fun t => κ none ⟨.dead :: .box 1 0 :: vB t.1 :: dd 55 [], [(1, .box [zc t.2.1, yw t.2.2])]⟩) (fun t => κ (some 0) ⟨.dead :: .box 1 0 :: dd 56 [], [(1, .box [zc t.1, yw t.2])]⟩)
def yoc : Lp := lpC 4 (unG yqa y8E) @ylM lpN
theorem yw9 : LF yob yoc 212 4 Tryz.f212 0 y8E @ylM fun t => t := fun R κ again t => by kernel_rfl
theorem ywa : LK yob yoc 212 Tryz.f212 0 := lkN (u := (unG yqa y8E)) (yo fun t => by kernel_rfl) yw9
theorem yBX : EV yob yoc 212 Tryz.f212 yt3 Qe [.bool] Yn := fun x => by kernel_rfl
def yGw : QF := ⟨212, Yn, okN (n := 1) Tryz.func212 ⟨ywa, trivial⟩ yBX⟩
abbrev qU : Type := yzv
def W8 (k0 : Int → Option R) (k1 : Unit → Option R) (again : qU → Option R) (t2 : qU) : Option R :=
 bif (decide (t2.2.2 < (List.length t2.1 : Int))) then if (0 : Int) ≤ t2.2.2 then if t2.2.2 < (List.length t2.1 : Int) then bif ((yG t2.1 t2.2.2).1 == t2.2.1) then k0 t2.2.2 else again (t2.1, t2.2.1, (Go.IntKind.wrap .i64 (t2.2.2 + (1 : Int)))) else none else none else k1 ()
def y1S k0 k1 := zh (@W8 R k0 k1) zu
def zP (x : yiV) : Option Int :=
 y1S (fun x1 => some x1) (fun x2 => some (-1 : Int)) (x.1, x.2, (0 : Int))
def yod : List QF := []
def y8F (t : yzv) : St := ⟨zk t.1 :: vI t.2.1 :: dd 3 (vI t.2.2 :: dd 14 []), []⟩
def ylN : Gk qU := fun κ => W8 (fun t => κ none ⟨dd 4 (vI t :: dd 15 []), []⟩) (fun t => κ (some 0) ⟨dd 20 [], []⟩)
def yoe : Lp := lpC 2 (unG yzw y8F) @ylN lpN
theorem ywb : LF yod yoe 262 2 Tryz.f262 0 y8F @ylN fun t => t := fun R κ again t => by kernel_rfl
theorem ywc : LK yod yoe 262 Tryz.f262 0 := lkN (u := (unG yzw y8F)) (yo fun t => by kernel_rfl) ywb
theorem yBY : EV yod yoe 262 Tryz.f262 yt4 yiW [(.int .i64)] zP := fun x => by kernel_rfl
def yqd : QF := ⟨262, zP, okN (n := 1) Tryz.func262 ⟨ywc, trivial⟩ yBY⟩
abbrev VX : Type := yiV
def JY (k0 : yyH → Option R) (k1 : List ya → Option R) (again : VX → Option R) (t2 : VX) : Option R :=
 bif (decide (t2.2 < (List.length t2.1 : Int))) then if (0 : Int) ≤ t2.2 then if t2.2 < (List.length t2.1 : Int) then Option.bind (yB ((yG t2.1 t2.2).1, (1 : Int), (60 : Int))) fun r1 => Option.bind (bif (!r1) then some true else Option.bind (bif (decide (t2.2 > (0 : Int))) then if (0 : Int) ≤ (Go.IntKind.wrap .i64 (t2.2 - (1 : Int))) then if (Go.IntKind.wrap .i64 (t2.2 - (1 : Int))) < (List.length t2.1 : Int) then if (0 : Int) ≤ t2.2 then if t2.2 < (List.length t2.1 : Int) then some (decide ((yG t2.1 (Go.IntKind.wrap .i64 (t2.2 - (1 : Int)))).1 ≥ (yG t2.1 t2.2).1)) else none else none else none else none else some false) fun u3 => some u3) fun u2 => bif u2 then k0 (t2.1, false) else if (0 : Int) ≤ t2.2 then if t2.2 < (List.length t2.1 : Int) then Option.bind (bif ((yG t2.1 t2.2).2 != (0 : Int)) then if (0 : Int) ≤ (0 : Int) then if (0 : Int) ≤ t2.2 then if t2.2 ≤ (List.length t2.1 : Int) then if (0 : Int) ≤ t2.2 then if t2.2 < (List.length t2.1 : Int) then Option.bind (zP ((List.drop (Int.toNat (0 : Int)) (List.take (Int.toNat t2.2) t2.1)), (yG t2.1 t2.2).2)) fun r5 => some (decide (r5 < (0 : Int))) else none else none else none else none else none else some false) fun u4 => bif u4 then k0 (t2.1, false) else again (t2.1, (Go.IntKind.wrap .i64 (t2.2 + (1 : Int)))) else none else none else none else none else k1 t2.1
def y0S k0 k1 := zh (@JY R k0 k1) zu
def Zw (x : List ya) : Option Bool :=
 y0S (fun x6 => some x6.2) (fun x7 => some (decide ((List.length x7 : Int) ≤ (16 : Int)))) (x, (0 : Int))
def yof : List QF := [q96, yqd]
def y8G (t : yiV) : St := ⟨zk t.1 :: dd 2 (vI t.2 :: dd 52 []), []⟩
def ylO : Gk VX := fun κ => JY (fun t => κ none ⟨zk t.1 :: .dead :: vB t.2 :: dd 53 [], []⟩) (fun t => κ (some 0) ⟨zk t :: dd 55 [], []⟩)
def yog : Lp := lpC 2 (unG yiW y8G) @ylO lpN
theorem ywd : LF yof yog 213 2 Tryz.f213 0 y8G @ylO fun t => t := fun R κ again t => by kernel_rfl
theorem ywe : LK yof yog 213 Tryz.f213 0 := lkN (u := (unG yiW y8G)) (yo fun t => by kernel_rfl) ywd
theorem yBZ : EV yof yog 213 Tryz.f213 yt5 [(.sl 146 ym)] [.bool] Zw := fun x => by kernel_rfl
def yC0 : QF := ⟨213, Zw, okN (n := 1) Tryz.func213 ⟨ywe, trivial⟩ yBZ⟩
def zw (x : Int) : Option Bool :=
 Option.bind (yB (x, (0 : Int), (65535 : Int))) fun r1 => some r1
theorem yC1 : EV [q96] lpN 182 Tryz.f182 yt6 [(.int .i64)] [.bool] zw := fun x => by kernel_rfl
def yz0 : QF := ⟨182, zw, okN (n := 0) Tryz.func182 trivial yC1⟩
abbrev V3 : Type := yyU
def J6 (k0 : yFa → Option R) (k1 : List y8 → Option R) (again : V3 → Option R) (t2 : V3) : Option R :=
 bif (decide (t2.2 < (List.length t2.1 : Int))) then if (0 : Int) ≤ t2.2 then if t2.2 < (List.length t2.1 : Int) then Option.bind (yB ((yp t2.1 t2.2).1, (0 : Int), (999 : Int))) fun r1 => Option.bind (bif (!r1) then some true else if (0 : Int) ≤ t2.2 then if t2.2 < (List.length t2.1 : Int) then Option.bind (zw ((yp t2.1 t2.2).2.2)) fun r3 => some (!r3) else none else none) fun u2 => Option.bind (bif u2 then some true else if (0 : Int) ≤ t2.2 then if t2.2 < (List.length t2.1 : Int) then Option.bind (bif (!((yp t2.1 t2.2).2.1)) then if (0 : Int) ≤ t2.2 then if t2.2 < (List.length t2.1 : Int) then some ((yp t2.1 t2.2).2.2 != (0 : Int)) else none else none else some false) fun u5 => some u5 else none else none) fun u4 => bif u4 then k0 (t2.1, false) else again (t2.1, (Go.IntKind.wrap .i64 (t2.2 + (1 : Int)))) else none else none else k1 t2.1
def y0h k0 k1 := zh (@J6 R k0 k1) zu
def ZR (x : List y8) : Option Bool :=
 y0h (fun x6 => some x6.2) (fun x7 => some ((List.length x7 : Int) == (24 : Int))) (x, (0 : Int))
def yoh : List QF := [q96, yz0]
def y8H (t : yyU) : St := ⟨yI t.1 :: dd 2 (vI t.2 :: dd 41 []), []⟩
def ylP : Gk V3 := fun κ => J6 (fun t => κ none ⟨yI t.1 :: .dead :: vB t.2 :: dd 42 [], []⟩) (fun t => κ (some 0) ⟨yI t :: dd 44 [], []⟩)
def yoi : Lp := lpC 2 (unG yyV y8H) @ylP lpN
theorem ywf : LF yoh yoi 214 2 Tryz.f214 0 y8H @ylP fun t => t := fun R κ again t => by kernel_rfl
theorem ywg : LK yoh yoi 214 Tryz.f214 0 := lkN (u := (unG yyV y8H)) (yo fun t => by kernel_rfl) ywf
theorem yC2 : EV yoh yoi 214 Tryz.f214 yt7 [(.sl 113 yd)] [.bool] ZR := fun x => by kernel_rfl
def yC3 : QF := ⟨214, ZR, okN (n := 1) Tryz.func214 ⟨ywg, trivial⟩ yC2⟩
abbrev VY : Type := yyK
def VZ (k0 : yFb → Option R) (k1 : ByteArray → Option R) (again : VY → Option R) (t2 : VY) : Option R :=
 bif (decide (t2.2 < ((ByteArray.size t2.1 : Nat) : Int))) then if (0 : Int) ≤ t2.2 then if h1 : Int.toNat t2.2 < ByteArray.size t2.1 then Option.bind (yB ((Go.IntKind.wrap .i64 ((UInt8.toNat (ByteArray.get t2.1 (Int.toNat t2.2) h1) : Nat) : Int)), (97 : Int), (122 : Int))) fun r2 => Option.bind (bif (!r2) then if (0 : Int) ≤ t2.2 then if h4 : Int.toNat t2.2 < ByteArray.size t2.1 then Option.bind (yB ((Go.IntKind.wrap .i64 ((UInt8.toNat (ByteArray.get t2.1 (Int.toNat t2.2) h4) : Nat) : Int)), (48 : Int), (57 : Int))) fun r5 => some (!r5) else none else none else some false) fun u3 => bif u3 then k0 (t2.1, false) else again (t2.1, (Go.IntKind.wrap .i64 (t2.2 + (1 : Int)))) else none else none else k1 t2.1
def y0T k0 k1 := zh (@VZ R k0 k1) zu
def Yo (x : ByteArray) : Option Bool :=
 y0T (fun x6 => some x6.2) (fun x7 => Option.bind (yB (((ByteArray.size x7 : Nat) : Int), (1 : Int), (6 : Int))) fun r8 => some r8) (x, (0 : Int))
def yoj : List QF := [q96]
def y8I (t : yyK) : St := ⟨vS t.1 :: dd 2 (vI t.2 :: dd 23 []), []⟩
def ylQ : Gk VY := fun κ => VZ (fun t => κ none ⟨vS t.1 :: .dead :: vB t.2 :: dd 24 [], []⟩) (fun t => κ (some 0) ⟨vS t :: dd 26 [], []⟩)
def yok : Lp := lpC 2 (unG yyL y8I) @ylQ lpN
theorem ywh : LF yoj yok 178 2 Tryz.f178 0 y8I @ylQ fun t => t := fun R κ again t => by kernel_rfl
theorem ywi : LK yoj yok 178 Tryz.f178 0 := lkN (u := (unG yyL y8I)) (yo fun t => by kernel_rfl) ywh
theorem yC4 : EV yoj yok 178 Tryz.f178 yt8 [.str] [.bool] Yo := fun x => by kernel_rfl
def yz1 : QF := ⟨178, Yo, okN (n := 1) Tryz.func178 ⟨ywi, trivial⟩ yC4⟩
abbrev q8 : Type := yFJ
def JZ (k0 : List ye → Option R) (again : q8 → Option R) (t3 : q8) : Option R :=
 bif (decide (t3.2.2.1 < (List.length t3.1 : Int))) then if (0 : Int) ≤ t3.2.2.1 then if t3.2.2.1 < (List.length t3.1 : Int) then Option.bind (bif ((yG t3.1 t3.2.2.1).2 == t3.2.1) then some (t3.2.1 != (0 : Int)) else some false) fun u1 => bif u1 then if (0 : Int) ≤ t3.2.2.1 then if t3.2.2.1 < (List.length t3.1 : Int) then if (List.length t3.2.2.2 + List.length ([(yG t3.1 t3.2.2.1).1] : List ye)) * 8 < 140737488355328 then again (t3.1, t3.2.1, (Go.IntKind.wrap .i64 (t3.2.2.1 + (1 : Int))), (t3.2.2.2 ++ ([(yG t3.1 t3.2.2.1).1] : List ye))) else none else none else none else again (t3.1, t3.2.1, (Go.IntKind.wrap .i64 (t3.2.2.1 + (1 : Int))), t3.2.2.2) else none else none else k0 t3.2.2.2
def y0U k0 := zh (@JZ R k0) zu
def jQ (x : yiV) : Option (List ye) :=
 y0U (fun x2 => some x2) (x.1, x.2, (0 : Int), ([] : List ye))
def yol : List QF := []
def y8J (t : yFJ) : St := ⟨zk t.1 :: vI t.2.1 :: dd 3 (.own 10000000 :: vI t.2.2.1 :: dd 27 []), [(10000000, .root true 3 yh t.2.2.2)]⟩
def ylR : Gk q8 := fun κ => JZ (fun t => κ (some 0) ⟨dd 5 (.own 10000000 :: dd 28 []), [(10000000, .root true 3 yh t)]⟩)
def yom : Lp := lpC 3 (unG yFK y8J) @ylR lpN
theorem ywj : LF yol yom 260 3 Tryz.f260 0 y8J @ylR fun t => t := fun R κ again t => by kernel_rfl
theorem ywk : LK yol yom 260 Tryz.f260 0 := lkN (u := (unG yFK y8J)) (yo fun t => by kernel_rfl) ywj
theorem yC5 : EV yol yom 260 Tryz.f260 yt9 yiW [(.sl 3 yh)] jQ := fun x => by kernel_rfl
def yC6 : QF := ⟨260, jQ, okN (n := 1) Tryz.func260 ⟨ywk, trivial⟩ yC5⟩
abbrev V4 : Type := yFL
def J7 (k0 : yzt → Option R) (k1 : yie → Option R) (again : V4 → Option R) (t8 : V4) : Option R :=
 bif (decide (t8.2.1 < t8.1)) then if (0 : Int) ≤ t8.2.1 then if t8.2.1 < (List.length t8.2.2.2.2.2.2.1 : Int) then bif ((yl t8.2.2.2.2.2.2.1 t8.2.1).2.1 == t8.2.2.2.2.2.2.2.2.2.1) then k0 (false, t8.1, t8.2.2.1, t8.2.2.2.1, t8.2.2.2.2.1, t8.2.2.2.2.2.1, t8.2.2.2.2.2.2.1, t8.2.2.2.2.2.2.2.1) else again (t8.1, (Go.IntKind.wrap .i64 (t8.2.1 + (1 : Int))), t8.2.2.1, t8.2.2.2.1, t8.2.2.2.2.1, t8.2.2.2.2.2.1, t8.2.2.2.2.2.2.1, t8.2.2.2.2.2.2.2.1, t8.2.2.2.2.2.2.2.2.1, t8.2.2.2.2.2.2.2.2.2.1, t8.2.2.2.2.2.2.2.2.2.2.1, t8.2.2.2.2.2.2.2.2.2.2.2) else none else none else k1 (t8.1, t8.2.2.1, t8.2.2.2.1, t8.2.2.2.2.1, t8.2.2.2.2.2.1, t8.2.2.2.2.2.2.1, t8.2.2.2.2.2.2.2.1)
def V5 k0 k1 := zh (@J7 R k0 k1) zu
abbrev V6 : Type := yie
def J8 (k0 : yn2 → Option R) (k1 : y6q → Option R) (again : V6 → Option R) (t2 : V6) : Option R :=
 bif (decide (t2.1 < (List.length t2.2.2.2.2.2.1 : Int))) then if (0 : Int) ≤ t2.1 then if t2.1 < (List.length t2.2.2.2.2.2.1 : Int) then Option.bind (Yo ((yl t2.2.2.2.2.2.1 t2.1).1)) fun r1 => Option.bind (bif (!r1) then some true else Option.bind (yB ((yl t2.2.2.2.2.2.1 t2.1).2.2.1, (1 : Int), (12 : Int))) fun r3 => some (!r3)) fun u2 => Option.bind (bif u2 then some true else Option.bind (zP (t2.2.2.2.1, (yl t2.2.2.2.2.2.1 t2.1).2.1)) fun r5 => some (decide (r5 < (0 : Int)))) fun u4 => Option.bind (bif u4 then some true else Option.bind (jQ (t2.2.2.2.1, (yl t2.2.2.2.2.2.1 t2.1).2.1)) fun r7 => some (decide ((List.length r7 : Int) > (0 : Int)))) fun u6 => Option.bind (bif u6 then some true else Option.bind (bif (decide (t2.1 > (0 : Int))) then if (0 : Int) ≤ (Go.IntKind.wrap .i64 (t2.1 - (1 : Int))) then if (Go.IntKind.wrap .i64 (t2.1 - (1 : Int))) < (List.length t2.2.2.2.2.2.1 : Int) then some (!Go.Op.bytesLess (ByteArray.toList ((yl t2.2.2.2.2.2.1 (Go.IntKind.wrap .i64 (t2.1 - (1 : Int)))).1)) (ByteArray.toList ((yl t2.2.2.2.2.2.1 t2.1).1))) else none else none else some false) fun u9 => some u9) fun u8 => bif u8 then k0 (false, t2.2) else V5 (fun x10 => k0 (x10.1, x10.2.2)) (fun x11 => again ((Go.IntKind.wrap .i64 (x11.1 + (1 : Int))), x11.2.1, x11.2.2.1, x11.2.2.2.1, x11.2.2.2.2.1, x11.2.2.2.2.2.1, x11.2.2.2.2.2.2)) (t2.1, (0 : Int), t2.2.1, t2.2.2.1, t2.2.2.2.1, t2.2.2.2.2.1, t2.2.2.2.2.2.1, t2.2.2.2.2.2.2, (yl t2.2.2.2.2.2.1 t2.1).1, (yl t2.2.2.2.2.2.1 t2.1).2.1, (yl t2.2.2.2.2.2.1 t2.1).2.2.1, (yl t2.2.2.2.2.2.1 t2.1).2.2.2) else none else none else k1 t2.2
def y0i k0 k1 := zh (@J8 R k0 k1) zu
def W9 (x : y6q) : Option Bool :=
 y0i (fun x12 => some x12.1) (fun x13 => some (decide ((List.length x13.2.2.2.2.1 : Int) ≤ (6 : Int)))) ((0 : Int), x.1, x.2.1, x.2.2.1, x.2.2.2.1, x.2.2.2.2.1, x.2.2.2.2.2)
def ygG : List QF := [q96, yz1, yC6, yqd]
def y8K (t : yFL) : St := ⟨.dead :: .box 1 0 :: .dead :: vI t.1 :: .box 4 0 :: vI t.2.1 :: dd 73 [], [(1, .box [zc t.2.2.1, yw t.2.2.2.1, zk t.2.2.2.2.1, yI t.2.2.2.2.2.1, zM t.2.2.2.2.2.2.1, vI t.2.2.2.2.2.2.2.1]), (4, .box [vS t.2.2.2.2.2.2.2.2.1, vI t.2.2.2.2.2.2.2.2.2.1, vI t.2.2.2.2.2.2.2.2.2.2.1, vB t.2.2.2.2.2.2.2.2.2.2.2])]⟩
def ylS : Gk V4 := fun κ => J7 (fun t => κ none ⟨.dead :: .box 1 0 :: vB t.1 :: vI t.2.1 :: dd 75 [], [(1, .box [zc t.2.2.1, yw t.2.2.2.1, zk t.2.2.2.2.1, yI t.2.2.2.2.2.1, zM t.2.2.2.2.2.2.1, vI t.2.2.2.2.2.2.2])]⟩) (fun t => κ (some 2) ⟨.dead :: .box 1 0 :: .dead :: vI t.1 :: dd 75 [], [(1, .box [zc t.2.1, yw t.2.2.1, zk t.2.2.2.1, yI t.2.2.2.2.1, zM t.2.2.2.2.2.1, vI t.2.2.2.2.2.2])]⟩)
def y8L (t : yie) : St := ⟨.dead :: .box 1 0 :: .dead :: vI t.1 :: dd 75 [], [(1, .box [zc t.2.1, yw t.2.2.1, zk t.2.2.2.1, yI t.2.2.2.2.1, zM t.2.2.2.2.2.1, vI t.2.2.2.2.2.2])]⟩
def ylT : Gk V6 := fun κ => J8 (fun t => κ none ⟨.dead :: .box 1 0 :: vB t.1 :: dd 76 [], [(1, .box [zc t.2.1, yw t.2.2.1, zk t.2.2.2.1, yI t.2.2.2.2.1, zM t.2.2.2.2.2.1, vI t.2.2.2.2.2.2])]⟩) (fun t => κ (some 0) ⟨.dead :: .box 1 0 :: dd 77 [], [(1, .box [zc t.1, yw t.2.1, zk t.2.2.1, yI t.2.2.2.1, zM t.2.2.2.2.1, vI t.2.2.2.2.2])]⟩)
def ygH : Lp := lpC 2 (unG yq8 y8L) @ylT (lpC 8 (unG yFM y8K) @ylS lpN)
theorem ywl : LF ygG ygH 215 8 Tryz.f215 1 y8K @ylS fun t => t := fun R κ again t => by kernel_rfl
theorem ywm : LK ygG ygH 215 Tryz.f215 1 := lkN (u := (unG yFM y8K)) (yo fun t => by kernel_rfl) ywl
theorem ywn : LF ygG ygH 215 2 Tryz.f215 0 y8L @ylT fun t => t := fun R κ again t => by kernel_rfl
theorem ywo : LK ygG ygH 215 Tryz.f215 0 := lkN (u := (unG yq8 y8L)) (yo fun t => by kernel_rfl) ywn
theorem yC7 : EV ygG ygH 215 Tryz.f215 yta jI [.bool] W9 := fun x => by kernel_rfl
def yI5 : QF := ⟨215, W9, okN (n := 2) Tryz.func215 ⟨ywo, ywm, trivial⟩ yC7⟩
abbrev kp : Type := yyM
def Zx (k0 : Int → Option R) (again : kp → Option R) (t3 : kp) : Option R :=
 bif (decide (t3.2.2 < (List.length t3.1 : Int))) then if (0 : Int) ≤ t3.2.2 then if t3.2.2 < (List.length t3.1 : Int) then bif (yp t3.1 t3.2.2).2.1 then again (t3.1, (Go.IntKind.wrap .i64 (t3.2.1 + (1 : Int))), (Go.IntKind.wrap .i64 (t3.2.2 + (1 : Int)))) else again (t3.1, t3.2.1, (Go.IntKind.wrap .i64 (t3.2.2 + (1 : Int)))) else none else none else k0 t3.2.1
def qK k0 := zh (@Zx R k0) zu
def J9 (x : List y8) : Option Int :=
 qK (fun x1 => some x1) (x, (0 : Int), (0 : Int))
def yon : List QF := []
def y8M (t : yyM) : St := ⟨yI t.1 :: dd 2 (vI t.2.1 :: vI t.2.2 :: dd 14 []), []⟩
def ylU : Gk kp := fun κ => Zx (fun t => κ (some 0) ⟨dd 3 (vI t :: dd 15 []), []⟩)
def yoo : Lp := lpC 3 (unG yyN y8M) @ylU lpN
theorem ywp : LF yon yoo 147 3 Tryz.f147 0 y8M @ylU fun t => t := fun R κ again t => by kernel_rfl
theorem ywq : LK yon yoo 147 Tryz.f147 0 := lkN (u := (unG yyN y8M)) (yo fun t => by kernel_rfl) ywp
theorem yC8 : EV yon yoo 147 Tryz.f147 ytb [(.sl 113 yd)] [(.int .i64)] J9 := fun x => by kernel_rfl
def yI6 : QF := ⟨147, J9, okN (n := 1) Tryz.func147 ⟨ywq, trivial⟩ yC8⟩
def wy (x : yyM) : Option yFp :=
 Option.bind (yB (x.2.1, (0 : Int), (Go.IntKind.wrap .i64 ((List.length x.1 : Int) - (1 : Int))))) fun r1 => Option.bind (bif (!r1) then some true else if (0 : Int) ≤ x.2.1 then if x.2.1 < (List.length x.1 : Int) then some (!((yp x.1 x.2.1).2.1)) else none else none) fun u2 => Option.bind (bif u2 then some true else if (0 : Int) ≤ x.2.1 then if x.2.1 < (List.length x.1 : Int) then some ((yp x.1 x.2.1).1 != x.2.2) else none else none) fun u3 => bif u3 then some ((0 : Int), false) else if (0 : Int) ≤ x.2.1 then if x.2.1 < (List.length x.1 : Int) then some ((yp x.1 x.2.1).2.2, true) else none else none
theorem yC9 : EV [q96] lpN 285 Tryz.f285 ytc yyN yFq wy := fun x => by kernel_rfl
def yI7 : QF := ⟨285, wy, okN (n := 0) Tryz.func285 trivial yC9⟩
abbrev KE : Type := yzx
def jq (k0 : yHe → Option R) (k1 : yn3 → Option R) (again : KE → Option R) (t14 : KE) : Option R :=
 bif (decide (t14.2.2.1 < t14.2.1)) then if (0 : Int) ≤ t14.2.2.1 then if t14.2.2.1 < (List.length t14.2.2.2.2.2.2.2.2.2 : Int) then Option.bind (bif ((y6 t14.2.2.2.2.2.2.2.2.2 t14.2.2.1).2.2.1 == (1 : Int)) then if (0 : Int) ≤ t14.2.2.1 then if t14.2.2.1 < (List.length t14.2.2.2.2.2.2.2.2.2 : Int) then if (0 : Int) ≤ t14.2.1 then if t14.2.1 < (List.length t14.2.2.2.2.2.2.2.2.2 : Int) then some ((y6 t14.2.2.2.2.2.2.2.2.2 t14.2.2.1).2.2.2.1 == (y6 t14.2.2.2.2.2.2.2.2.2 t14.2.1).2.2.2.1) else none else none else none else none else some false) fun u4 => bif u4 then k0 (false, t14.1, t14.2.1, t14.2.2.2) else again (t14.1, t14.2.1, (Go.IntKind.wrap .i64 (t14.2.2.1 + (1 : Int))), t14.2.2.2.1, t14.2.2.2.2.1, t14.2.2.2.2.2.1, t14.2.2.2.2.2.2.1, t14.2.2.2.2.2.2.2.1, t14.2.2.2.2.2.2.2.2.1, t14.2.2.2.2.2.2.2.2.2) else none else none else k1 (t14.1, t14.2.1, t14.2.2.2)
def KF k0 k1 := zh (@jq R k0 k1) zu
abbrev V7 : Type := yn3
def Ja (k0 : yzt → Option R) (k1 : yie → Option R) (again : V7 → Option R) (t4 : V7) : Option R :=
 bif (decide (t4.2.1 < (List.length t4.2.2.2.2.2.2.2.2 : Int))) then if (0 : Int) ≤ t4.2.1 then if t4.2.1 < (List.length t4.2.2.2.2.2.2.2.2 : Int) then Option.bind (zP (t4.2.2.2.2.1, (y6 t4.2.2.2.2.2.2.2.2 t4.2.1).2.1)) fun r2 => bif (decide (r2 < (0 : Int))) then k0 (false, t4.1, t4.2.2.1, t4.2.2.2.1, t4.2.2.2.2.1, t4.2.2.2.2.2.1, t4.2.2.2.2.2.2.1, t4.2.2.2.2.2.2.2.1) else if (0 : Int) ≤ t4.2.1 then if t4.2.1 < (List.length t4.2.2.2.2.2.2.2.2 : Int) then bif ((y6 t4.2.2.2.2.2.2.2.2 t4.2.1).2.2.1 != (1 : Int)) then again (t4.1, (Go.IntKind.wrap .i64 (t4.2.1 + (1 : Int))), t4.2.2.1, t4.2.2.2.1, t4.2.2.2.2.1, t4.2.2.2.2.2.1, t4.2.2.2.2.2.2.1, t4.2.2.2.2.2.2.2.1, t4.2.2.2.2.2.2.2.2) else if (0 : Int) ≤ t4.2.1 then if t4.2.1 < (List.length t4.2.2.2.2.2.2.2.2 : Int) then if (0 : Int) ≤ t4.2.1 then if t4.2.1 < (List.length t4.2.2.2.2.2.2.2.2 : Int) then Option.bind (wy (t4.2.2.2.2.2.1, (y6 t4.2.2.2.2.2.2.2.2 t4.2.1).2.2.2.1, (y6 t4.2.2.2.2.2.2.2.2 t4.2.1).2.2.2.2)) fun r3 => bif (!r3.2) then k0 (false, (Go.IntKind.wrap .i64 (t4.1 + (1 : Int))), t4.2.2.1, t4.2.2.2.1, t4.2.2.2.2.1, t4.2.2.2.2.2.1, t4.2.2.2.2.2.2.1, t4.2.2.2.2.2.2.2.1) else KF (fun x5 => k0 (x5.1, x5.2.1, x5.2.2.2.1, x5.2.2.2.2.1, x5.2.2.2.2.2.1, x5.2.2.2.2.2.2.1, x5.2.2.2.2.2.2.2.1, x5.2.2.2.2.2.2.2.2.1)) (fun x6 => again (x6.1, (Go.IntKind.wrap .i64 (x6.2.1 + (1 : Int))), x6.2.2.1, x6.2.2.2.1, x6.2.2.2.2.1, x6.2.2.2.2.2.1, x6.2.2.2.2.2.2.1, x6.2.2.2.2.2.2.2.1, x6.2.2.2.2.2.2.2.2)) ((Go.IntKind.wrap .i64 (t4.1 + (1 : Int))), t4.2.1, (0 : Int), t4.2.2.1, t4.2.2.2.1, t4.2.2.2.2.1, t4.2.2.2.2.2.1, t4.2.2.2.2.2.2.1, t4.2.2.2.2.2.2.2.1, t4.2.2.2.2.2.2.2.2) else none else none else none else none else none else none else none else none else k1 (t4.1, t4.2.2.1, t4.2.2.2.1, t4.2.2.2.2.1, t4.2.2.2.2.2.1, t4.2.2.2.2.2.2.1, t4.2.2.2.2.2.2.2.1)
def y0j k0 k1 := zh (@Ja R k0 k1) zu
def Wa (x : y6q) : Option Bool :=
 Option.bind (yP (x.1, x.2.1)) fun r1 => y0j (fun x7 => some x7.1) (fun x8 => Option.bind (J9 x8.2.2.2.2.1) fun r9 => some (x8.1 == r9)) ((0 : Int), (0 : Int), x.1, x.2.1, x.2.2.1, x.2.2.2.1, x.2.2.2.2.1, x.2.2.2.2.2, r1)
def ygI : List QF := [yo2, yI6, yqd, yI7]
def y5n (t : yzx) : St := ⟨.dead :: .box 1 0 :: .dead :: .own 10000000 :: vI t.1 :: vI t.2.1 :: dd 2 (vI t.2.2.1 :: dd 73 []), [(1, .box [zc t.2.2.2.1, yw t.2.2.2.2.1, zk t.2.2.2.2.2.1, yI t.2.2.2.2.2.2.1, zM t.2.2.2.2.2.2.2.1, vI t.2.2.2.2.2.2.2.2.1]), (10000000, .root true 64 yi t.2.2.2.2.2.2.2.2.2)]⟩
def ygJ : Gk KE := fun κ => jq (fun t => κ none ⟨.dead :: .box 1 0 :: vB t.1 :: .own 10000000 :: vI t.2.1 :: vI t.2.2.1 :: dd 76 [], [(1, .box [zc t.2.2.2.1, yw t.2.2.2.2.1, zk t.2.2.2.2.2.1, yI t.2.2.2.2.2.2.1, zM t.2.2.2.2.2.2.2.1, vI t.2.2.2.2.2.2.2.2.1]), (10000000, .root true 64 yi t.2.2.2.2.2.2.2.2.2)]⟩) (fun t => κ (some 2) ⟨.dead :: .box 1 0 :: .dead :: .own 10000000 :: vI t.1 :: vI t.2.1 :: dd 76 [], [(1, .box [zc t.2.2.1, yw t.2.2.2.1, zk t.2.2.2.2.1, yI t.2.2.2.2.2.1, zM t.2.2.2.2.2.2.1, vI t.2.2.2.2.2.2.2.1]), (10000000, .root true 64 yi t.2.2.2.2.2.2.2.2)]⟩)
def y8N (t : yn3) : St := ⟨.dead :: .box 1 0 :: .dead :: .own 10000000 :: vI t.1 :: vI t.2.1 :: dd 76 [], [(1, .box [zc t.2.2.1, yw t.2.2.2.1, zk t.2.2.2.2.1, yI t.2.2.2.2.2.1, zM t.2.2.2.2.2.2.1, vI t.2.2.2.2.2.2.2.1]), (10000000, .root true 64 yi t.2.2.2.2.2.2.2.2)]⟩
def ylV : Gk V7 := fun κ => Ja (fun t => κ none ⟨.dead :: .box 1 0 :: vB t.1 :: .dead :: vI t.2.1 :: dd 77 [], [(1, .box [zc t.2.2.1, yw t.2.2.2.1, zk t.2.2.2.2.1, yI t.2.2.2.2.2.1, zM t.2.2.2.2.2.2.1, vI t.2.2.2.2.2.2.2])]⟩) (fun t => κ (some 0) ⟨.dead :: .box 1 0 :: dd 2 (vI t.1 :: dd 77 []), [(1, .box [zc t.2.1, yw t.2.2.1, zk t.2.2.2.1, yI t.2.2.2.2.1, zM t.2.2.2.2.2.1, vI t.2.2.2.2.2.2])]⟩)
def ygK : Lp := lpC 4 (unG yqb y8N) @ylV (lpC 14 (unG yFN y5n) @ygJ lpN)
theorem yop : LF ygI ygK 216 14 Tryz.f216 1 y5n @ygJ fun t => t := fun R κ again t => by kernel_rfl
theorem yoq : LK ygI ygK 216 Tryz.f216 1 := lkN (u := (unG yFN y5n)) (yo fun t => by kernel_rfl) yop
theorem ywr : LF ygI ygK 216 4 Tryz.f216 0 y8N @ylV fun t => t := fun R κ again t => by kernel_rfl
theorem yws : LK ygI ygK 216 Tryz.f216 0 := lkN (u := (unG yqb y8N)) (yo fun t => by kernel_rfl) ywr
theorem yCa : EV ygI ygK 216 Tryz.f216 ytd jI [.bool] Wa := fun x => by kernel_rfl
def yI8 : QF := ⟨216, Wa, okN (n := 2) Tryz.func216 ⟨yws, yoq, trivial⟩ yCa⟩
abbrev qa : Type := yie
def w3 (k0 : yn2 → Option R) (k1 : y6q → Option R) (again : qa → Option R) (t2 : qa) : Option R :=
 bif (decide (t2.1 < (List.length t2.2.2.2.1 : Int))) then if (0 : Int) ≤ t2.1 then if t2.1 < (List.length t2.2.2.2.1 : Int) then bif (decide ((yG t2.2.2.2.1 t2.1).1 ≥ t2.2.2.2.2.2.2)) then k0 (false, t2.2) else again ((Go.IntKind.wrap .i64 (t2.1 + (1 : Int))), t2.2.1, t2.2.2.1, t2.2.2.2.1, t2.2.2.2.2.1, t2.2.2.2.2.2.1, t2.2.2.2.2.2.2) else none else none else k1 t2.2
def y0V k0 k1 := zh (@w3 R k0 k1) zu
def yF (x : y6q) : Option Bool :=
 y0V (fun x1 => some x1.1) (fun x2 => Option.bind (Yn (x2.1, x2.2.1)) fun r3 => Option.bind (bif r3 then Option.bind (Zw x2.2.2.1) fun r5 => some r5 else some false) fun u4 => Option.bind (bif u4 then Option.bind (ZR x2.2.2.2.1) fun r7 => some r7 else some false) fun u6 => Option.bind (bif u6 then Option.bind (yB (x2.2.2.2.2.2, (1 : Int), (61 : Int))) fun r9 => some r9 else some false) fun u8 => Option.bind (bif u8 then Option.bind (W9 x2) fun r11 => some r11 else some false) fun u10 => Option.bind (bif u10 then Option.bind (Wa x2) fun r13 => some r13 else some false) fun u12 => some u12) ((0 : Int), x.1, x.2.1, x.2.2.1, x.2.2.2.1, x.2.2.2.2.1, x.2.2.2.2.2)
def yCb : List QF := [q96, yGw, yC0, yC3, yI5, yI8]
def ycx (t : yie) : St := ⟨.dead :: .box 1 0 :: .dead :: vI t.1 :: dd 42 [], [(1, .box [zc t.2.1, yw t.2.2.1, zk t.2.2.2.1, yI t.2.2.2.2.1, zM t.2.2.2.2.2.1, vI t.2.2.2.2.2.2])]⟩
def ywt : Gk qa := fun κ => w3 (fun t => κ none ⟨.dead :: .box 1 0 :: vB t.1 :: dd 43 [], [(1, .box [zc t.2.1, yw t.2.2.1, zk t.2.2.2.1, yI t.2.2.2.2.1, zM t.2.2.2.2.2.1, vI t.2.2.2.2.2.2])]⟩) (fun t => κ (some 0) ⟨.dead :: .box 1 0 :: dd 44 [], [(1, .box [zc t.1, yw t.2.1, zk t.2.2.1, yI t.2.2.2.1, zM t.2.2.2.2.1, vI t.2.2.2.2.2])]⟩)
def yCc : Lp := lpC 2 (unG yq8 ycx) @ywt lpN
theorem yCd : LF yCb yCc 95 2 Tryz.f95 0 ycx @ywt fun t => t := fun R κ again t => by kernel_rfl
theorem yCe : LK yCb yCc 95 Tryz.f95 0 := lkN (u := (unG yq8 ycx)) (yo fun t => by kernel_rfl) yCd
theorem yI9 : EV yCb yCc 95 Tryz.f95 yG3 jI [.bool] yF := fun x => by kernel_rfl
def q95 : QF := ⟨95, yF, okN (n := 1) Tryz.func95 ⟨yCe, trivial⟩ yI9⟩
def yV (x : yHf) : Option ydF :=
 Option.bind (bif (!x.2.2.2.2.2.2.2.2.2.2.2.2) then some true else Option.bind (yF (x.2.2.2.2.2.2.1, x.2.2.2.2.2.2.2.1, x.2.2.2.2.2.2.2.2.1, x.2.2.2.2.2.2.2.2.2.1, x.2.2.2.2.2.2.2.2.2.2.1, x.2.2.2.2.2.2.2.2.2.2.2.1)) fun r2 => some (!r2)) fun u1 => bif u1 then Option.bind (yq (x.1, x.2.1, x.2.2.1, x.2.2.2.1, x.2.2.2.2.1, x.2.2.2.2.2.1)) fun r3 => some (r3.1, r3.2.1, r3.2.2.1, r3.2.2.2.1, r3.2.2.2.2.1, r3.2.2.2.2.2, (6 : Int)) else some (x.2.2.2.2.2.2.1, x.2.2.2.2.2.2.2.1, x.2.2.2.2.2.2.2.2.1, x.2.2.2.2.2.2.2.2.2.1, x.2.2.2.2.2.2.2.2.2.2.1, x.2.2.2.2.2.2.2.2.2.2.2.1, (0 : Int))
theorem yCf : EV [q94, q95] lpN 177 Tryz.f177 yte yHg ydG yV := fun x => by kernel_rfl
def yqe : QF := ⟨177, yV, okN (n := 0) Tryz.func177 trivial yCf⟩
def ZS (x : yyO) : Option Int :=
 Option.bind (yF (x.1, x.2.1, x.2.2.1, x.2.2.2.1, x.2.2.2.2.1, x.2.2.2.2.2.1)) fun r1 => Option.bind (bif (!r1) then some true else Option.bind (Yo x.2.2.2.2.2.2) fun r3 => some (!r3)) fun u2 => bif u2 then some (1 : Int) else some (0 : Int)
theorem yCg : EV [q95, yz1] lpN 173 Tryz.f173 ytf yyP [(.int .i64)] ZS := fun x => by kernel_rfl
def yCh : QF := ⟨173, ZS, okN (n := 0) Tryz.func173 trivial yCg⟩
def wz (x : yyO) : Option Int :=
 Option.bind (ZS x) fun r1 => Option.bind (bif (r1 == (0 : Int)) then Option.bind (zs x) fun r3 => some (decide (r3 < (0 : Int))) else some false) fun u2 => bif u2 then some (2 : Int) else some r1
theorem yCi : EV [yCh, ylA] lpN 179 Tryz.f179 ytg yyP [(.int .i64)] wz := fun x => by kernel_rfl
def yGx : QF := ⟨179, wz, okN (n := 0) Tryz.func179 trivial yCi⟩
def jR (x : yyO) : Option ydF :=
 Option.bind (yq (x.1, x.2.1, x.2.2.1, x.2.2.2.1, x.2.2.2.2.1, x.2.2.2.2.2.1)) fun r1 => Option.bind (wz x) fun r2 => bif (r2 != (0 : Int)) then some (r1.1, r1.2.1, r1.2.2.1, r1.2.2.2.1, r1.2.2.2.2.1, r1.2.2.2.2.2, r2) else Option.bind (zs x) fun r3 => if (0 : Int) ≤ (0 : Int) then if (0 : Int) ≤ r3 then if r3 ≤ (List.length x.2.2.2.2.1 : Int) then if (List.length ([] : List yf) + List.length (List.drop (Int.toNat (0 : Int)) (List.take (Int.toNat r3) x.2.2.2.2.1))) * 40 < 140737488355328 then if (0 : Int) ≤ (Go.IntKind.wrap .i64 (r3 + (1 : Int))) then if (Go.IntKind.wrap .i64 (r3 + (1 : Int))) ≤ (List.length x.2.2.2.2.1 : Int) then if (List.length x.2.2.2.2.1 : Int) ≤ (List.length x.2.2.2.2.1 : Int) then if (List.length (([] : List yf) ++ (List.drop (Int.toNat (0 : Int)) (List.take (Int.toNat r3) x.2.2.2.2.1))) + List.length (List.drop (Int.toNat (Go.IntKind.wrap .i64 (r3 + (1 : Int)))) (List.take (Int.toNat (List.length x.2.2.2.2.1 : Int)) x.2.2.2.2.1))) * 40 < 140737488355328 then Option.bind (yV (x.1, x.2.1, x.2.2.1, x.2.2.2.1, x.2.2.2.2.1, x.2.2.2.2.2.1, r1.1, r1.2.1, r1.2.2.1, r1.2.2.2.1, ((([] : List yf) ++ (List.drop (Int.toNat (0 : Int)) (List.take (Int.toNat r3) x.2.2.2.2.1))) ++ (List.drop (Int.toNat (Go.IntKind.wrap .i64 (r3 + (1 : Int)))) (List.take (Int.toNat (List.length x.2.2.2.2.1 : Int)) x.2.2.2.2.1))), r1.2.2.2.2.2, true)) fun r4 => some r4 else none else none else none else none else none else none else none else none
theorem yIa : EV [q94, ylA, yqe, yGx] lpN 64 Tryz.f64 yG4 yyP ydG jR := fun x => by kernel_rfl
def q64 : QF := ⟨64, jR, okN (n := 0) Tryz.func64 trivial yIa⟩
abbrev qV : Type := yaQ
def vq (k0 : yiX → Option R) (again : qV → Option R) (t3 : qV) : Option R :=
 Option.bind (bif (decide (t3.2.2 < (List.length t3.1 : Int))) then some (decide (t3.2.2 < (4000 : Int))) else some false) fun u1 => bif u1 then if (0 : Int) ≤ t3.2.2 then if t3.2.2 < (List.length t3.1 : Int) then again (t3.1, (Go.bits .and .i64 (Go.IntKind.wrap .i64 ((Go.IntKind.wrap .i64 ((Go.IntKind.wrap .i64 (t3.2.1 * (137 : Int))) + (Go.IntKind.wrap .i64 (y0u t3.1 t3.2.2)))) + (11 : Int))) (1073741823 : Int)), (Go.IntKind.wrap .i64 (t3.2.2 + (1 : Int)))) else none else none else k0 (t3.1, t3.2.1)
def y6r k0 := zh (@vq R k0) zu
def WK (x : List za) : Option yaQ :=
 y6r (fun x2 => some (x2.1, (0 : Int), x2.2)) (x, (Go.IntKind.wrap .i64 ((941941 : Int) + (List.length x : Int))), (0 : Int))
def yor : List QF := []
def y8O (t : yaQ) : St := ⟨wP t.1 :: dd 2 (vI t.2.1 :: vI t.2.2 :: dd 27 []), []⟩
def ylW : Gk qV := fun κ => vq (fun t => κ (some 0) ⟨wP t.1 :: dd 2 (vI t.2 :: dd 28 []), []⟩)
def yos : Lp := lpC 3 (unG Qg y8O) @ylW lpN
theorem ywu : LF yor yos 112 3 Tryz.f112 0 y8O @ylW fun t => t := fun R κ again t => by kernel_rfl
theorem ywv : LK yor yos 112 Tryz.f112 0 := lkN (u := (unG Qg y8O)) (yo fun t => by kernel_rfl) ywu
theorem yCj : EV yor yos 112 Tryz.f112 yth [(.sl 5 yu)] Qg WK := fun x => by kernel_rfl
def yCk : QF := ⟨112, WK, okN (n := 1) Tryz.func112 ⟨ywv, trivial⟩ yCj⟩
def jS (x : yiX) : Option Int :=
 bif (decide ((Go.IntKind.wrap .i64 ((3 : Int) + (Go.IntKind.wrap .i64 (Int.tdiv (List.length x.1 : Int) (12 : Int))))) > x.2)) then some x.2 else some (Go.IntKind.wrap .i64 ((3 : Int) + (Go.IntKind.wrap .i64 (Int.tdiv (List.length x.1 : Int) (12 : Int)))))
theorem yCl : EV [] lpN 114 Tryz.f114 yti ylc [(.int .i64)] jS := fun x => by kernel_rfl
def yCm : QF := ⟨114, jS, okN (n := 0) Tryz.func114 trivial yCl⟩
def Zy (x : yaQ) : Option yiY :=
 bif (decide (x.2.1 < (List.length x.1 : Int))) then if (0 : Int) ≤ x.2.1 then if x.2.1 < (List.length x.1 : Int) then some ((Go.bits .and .i64 (Go.IntKind.wrap .i64 ((Go.bits .and .i64 (Go.bits .xor .i64 (Int.fdiv (Go.IntKind.wrap .i64 ((Go.IntKind.wrap .i64 (x.2.2 * (6364136223846793005 : Int))) + (1442695040888963407 : Int))) (2 ^ (min (Int.toNat (33 : Int)) (Go.IntKind.bits .i64)))) (Int.fdiv (Go.IntKind.wrap .i64 ((Go.IntKind.wrap .i64 (x.2.2 * (6364136223846793005 : Int))) + (1442695040888963407 : Int))) (2 ^ (min (Int.toNat (47 : Int)) (Go.IntKind.bits .i64))))) (255 : Int)) + (Go.IntKind.wrap .i64 (y0u x.1 x.2.1)))) (255 : Int)), x.1, (Go.IntKind.wrap .i64 (x.2.1 + (1 : Int))), (Go.IntKind.wrap .i64 ((Go.IntKind.wrap .i64 (x.2.2 * (6364136223846793005 : Int))) + (1442695040888963407 : Int)))) else none else none else some ((Go.bits .and .i64 (Go.bits .xor .i64 (Int.fdiv (Go.IntKind.wrap .i64 ((Go.IntKind.wrap .i64 (x.2.2 * (6364136223846793005 : Int))) + (1442695040888963407 : Int))) (2 ^ (min (Int.toNat (33 : Int)) (Go.IntKind.bits .i64)))) (Int.fdiv (Go.IntKind.wrap .i64 ((Go.IntKind.wrap .i64 (x.2.2 * (6364136223846793005 : Int))) + (1442695040888963407 : Int))) (2 ^ (min (Int.toNat (47 : Int)) (Go.IntKind.bits .i64))))) (255 : Int)), x.1, x.2.1, (Go.IntKind.wrap .i64 ((Go.IntKind.wrap .i64 (x.2.2 * (6364136223846793005 : Int))) + (1442695040888963407 : Int))))
theorem yCn : EV [] lpN 263 Tryz.f263 ytj Qg yqc Zy := fun x => by kernel_rfl
def yIb : QF := ⟨263, Zy, okN (n := 0) Tryz.func263 trivial yCn⟩
def yb (x : yld) : Option yiY :=
 bif (decide (x.2.2.2 ≤ (0 : Int))) then some ((0 : Int), x.1, x.2.1, x.2.2.1) else bif (decide (x.2.2.2 ≤ (256 : Int))) then Option.bind (Zy (x.1, x.2.1, x.2.2.1)) fun r1 => if x.2.2.2 = 0 then none else some ((Int.tmod r1.1 x.2.2.2), r1.2.1, r1.2.2.1, r1.2.2.2) else Option.bind (Zy (x.1, x.2.1, x.2.2.1)) fun r2 => Option.bind (Zy r2.2) fun r3 => Option.bind (Zy r3.2) fun r4 => if x.2.2.2 = 0 then none else some ((Int.tmod (Go.IntKind.wrap .i64 ((Go.IntKind.wrap .i64 ((Go.IntKind.wrap .i64 (r2.1 * (65536 : Int))) + (Go.IntKind.wrap .i64 (r3.1 * (256 : Int))))) + r4.1)) x.2.2.2), r4.2.1, r4.2.2.1, r4.2.2.2)
theorem yCo : EV [yIb] lpN 145 Tryz.f145 ytk yle yqc yb := fun x => by kernel_rfl
def y5o : QF := ⟨145, yb, okN (n := 0) Tryz.func145 trivial yCo⟩
def yz (x : yHh) : Option yiY :=
 Option.bind (yb (x.1, x.2.1, x.2.2.1, (List.length x.2.2.2 : Int))) fun r1 => if (0 : Int) ≤ r1.1 then if r1.1 < (List.length x.2.2.2 : Int) then some ((zL x.2.2.2 r1.1), r1.2.1, r1.2.2.1, r1.2.2.2) else none else none
theorem yIc : EV [y5o] lpN 90 Tryz.f90 yG5 yHi yqc yz := fun x => by kernel_rfl
def q90 : QF := ⟨90, yz, okN (n := 0) Tryz.func90 trivial yIc⟩
def w4 (x : yHj) : Option yFO :=
 Option.bind (yb (x.1, x.2.1, x.2.2.1, (List.length x.2.2.2 : Int))) fun r1 => if (0 : Int) ≤ r1.1 then if r1.1 < (List.length x.2.2.2 : Int) then some ((ygd x.2.2.2 r1.1), r1.2.1, r1.2.2.1, r1.2.2.2) else none else none
theorem yCp : EV [y5o] lpN 240 Tryz.f240 ytl yHk yFP w4 := fun x => by kernel_rfl
def yCq : QF := ⟨240, w4, okN (n := 0) Tryz.func240 trivial yCp⟩
def zT (x : yaQ) : Option yFO :=
 Option.bind (w4 (x.1, x.2.1, x.2.2, ([{ data := #[97] }, { data := #[98] }, { data := #[99] }, { data := #[100] }, { data := #[101, 53] }] : List QS))) fun r1 => some r1
theorem yCr : EV [yCq] lpN 236 Tryz.f236 ytm Qg yFP zT := fun x => by kernel_rfl
def yGy : QF := ⟨236, zT, okN (n := 0) Tryz.func236 trivial yCr⟩
def YR (x : yaQ) : Option yiY :=
 Option.bind (yb (x.1, x.2.1, x.2.2, (200 : Int))) fun r1 => Option.bind (yz (r1.2.1, r1.2.2.1, r1.2.2.2, ([(0 : Int), (1 : Int), (2 : Int), (7 : Int), (65535 : Int), (Go.IntKind.wrap .i64 ((1 : Int) + r1.1))] : List ye))) fun r2 => some r2
theorem yCs : EV [q90, y5o] lpN 241 Tryz.f241 ytn Qg yqc YR := fun x => by kernel_rfl
def yId : QF := ⟨241, YR, okN (n := 0) Tryz.func241 trivial yCs⟩
def ZT (x : yaQ) : Option yHl :=
 Option.bind (yz (x.1, x.2.1, x.2.2, ([(1 : Int), (1 : Int), (1 : Int), (2 : Int), (2 : Int), (3 : Int), (4 : Int), (4 : Int), (4 : Int), (4 : Int), (4 : Int), (4 : Int), (5 : Int), (6 : Int), (7 : Int), (7 : Int), (8 : Int), (9 : Int)] : List ye))) fun r1 => bif (decide (r1.1 < (7 : Int))) then Option.bind (w4 (r1.2.1, r1.2.2.1, r1.2.2.2, ([{ data := #[97] }, { data := #[97] }, { data := #[98] }, { data := #[99] }, { data := #[100] }] : List QS))) fun r2 => bif (r1.1 == (1 : Int)) then bif (r1.1 == (1 : Int)) then Option.bind (yz (r2.2.1, r2.2.2.1, r2.2.2.2, ([(1 : Int), (3 : Int), (4 : Int), (12 : Int), (5 : Int)] : List ye))) fun r3 => some (r1.1, r2.1, (⟨#[]⟩ : ByteArray), r3.1, (0 : Int), r3.2.1, r3.2.2.1, r3.2.2.2) else bif (r1.1 == (2 : Int)) then Option.bind (zT r2.2) fun r4 => Option.bind (yz (r4.2.1, r4.2.2.1, r4.2.2.2, ([(0 : Int), (0 : Int), (0 : Int), (1 : Int)] : List ye))) fun r5 => some (r1.1, r2.1, r4.1, (0 : Int), r5.1, r5.2.1, r5.2.2.1, r5.2.2.2) else bif (r1.1 == (4 : Int)) then Option.bind (yb (r2.2.1, r2.2.2.1, r2.2.2.2, (5 : Int))) fun r6 => Option.bind (YR r6.2) fun r7 => some (r1.1, r2.1, (⟨#[]⟩ : ByteArray), r6.1, r7.1, r7.2.1, r7.2.2.1, r7.2.2.2) else bif (r1.1 == (5 : Int)) then Option.bind (yb (r2.2.1, r2.2.2.1, r2.2.2.2, (5 : Int))) fun r8 => some (r1.1, r2.1, (⟨#[]⟩ : ByteArray), r8.1, (0 : Int), r8.2.1, r8.2.2.1, r8.2.2.2) else bif (r1.1 == (8 : Int)) then bif (r1.1 == (8 : Int)) then Option.bind (yb (r2.2.1, r2.2.2.1, r2.2.2.2, (6 : Int))) fun r9 => some (r1.1, r2.1, (⟨#[]⟩ : ByteArray), r9.1, (0 : Int), r9.2.1, r9.2.2.1, r9.2.2.2) else some (r1.1, r2.1, (⟨#[]⟩ : ByteArray), (0 : Int), (0 : Int), r2.2.1, r2.2.2.1, r2.2.2.2) else bif (r1.1 == (9 : Int)) then Option.bind (yb (r2.2.1, r2.2.2.1, r2.2.2.2, (6 : Int))) fun r10 => some (r1.1, r2.1, (⟨#[]⟩ : ByteArray), r10.1, (0 : Int), r10.2.1, r10.2.2.1, r10.2.2.2) else some (r1.1, r2.1, (⟨#[]⟩ : ByteArray), (0 : Int), (0 : Int), r2.2.1, r2.2.2.1, r2.2.2.2) else bif (r1.1 == (6 : Int)) then Option.bind (yz (r2.2.1, r2.2.2.1, r2.2.2.2, ([(1 : Int), (3 : Int), (4 : Int), (12 : Int), (5 : Int)] : List ye))) fun r11 => some (r1.1, r2.1, (⟨#[]⟩ : ByteArray), r11.1, (0 : Int), r11.2.1, r11.2.2.1, r11.2.2.2) else bif (r1.1 == (2 : Int)) then Option.bind (zT r2.2) fun r12 => Option.bind (yz (r12.2.1, r12.2.2.1, r12.2.2.2, ([(0 : Int), (0 : Int), (0 : Int), (1 : Int)] : List ye))) fun r13 => some (r1.1, r2.1, r12.1, (0 : Int), r13.1, r13.2.1, r13.2.2.1, r13.2.2.2) else bif (r1.1 == (4 : Int)) then Option.bind (yb (r2.2.1, r2.2.2.1, r2.2.2.2, (5 : Int))) fun r14 => Option.bind (YR r14.2) fun r15 => some (r1.1, r2.1, (⟨#[]⟩ : ByteArray), r14.1, r15.1, r15.2.1, r15.2.2.1, r15.2.2.2) else bif (r1.1 == (5 : Int)) then Option.bind (yb (r2.2.1, r2.2.2.1, r2.2.2.2, (5 : Int))) fun r16 => some (r1.1, r2.1, (⟨#[]⟩ : ByteArray), r16.1, (0 : Int), r16.2.1, r16.2.2.1, r16.2.2.2) else bif (r1.1 == (8 : Int)) then bif (r1.1 == (8 : Int)) then Option.bind (yb (r2.2.1, r2.2.2.1, r2.2.2.2, (6 : Int))) fun r17 => some (r1.1, r2.1, (⟨#[]⟩ : ByteArray), r17.1, (0 : Int), r17.2.1, r17.2.2.1, r17.2.2.2) else some (r1.1, r2.1, (⟨#[]⟩ : ByteArray), (0 : Int), (0 : Int), r2.2.1, r2.2.2.1, r2.2.2.2) else bif (r1.1 == (9 : Int)) then Option.bind (yb (r2.2.1, r2.2.2.1, r2.2.2.2, (6 : Int))) fun r18 => some (r1.1, r2.1, (⟨#[]⟩ : ByteArray), r18.1, (0 : Int), r18.2.1, r18.2.2.1, r18.2.2.2) else some (r1.1, r2.1, (⟨#[]⟩ : ByteArray), (0 : Int), (0 : Int), r2.2.1, r2.2.2.1, r2.2.2.2) else bif (r1.1 == (1 : Int)) then bif (r1.1 == (1 : Int)) then Option.bind (yz (r1.2.1, r1.2.2.1, r1.2.2.2, ([(1 : Int), (3 : Int), (4 : Int), (12 : Int), (5 : Int)] : List ye))) fun r19 => some (r1.1, (⟨#[]⟩ : ByteArray), (⟨#[]⟩ : ByteArray), r19.1, (0 : Int), r19.2.1, r19.2.2.1, r19.2.2.2) else bif (r1.1 == (2 : Int)) then Option.bind (zT r1.2) fun r20 => Option.bind (yz (r20.2.1, r20.2.2.1, r20.2.2.2, ([(0 : Int), (0 : Int), (0 : Int), (1 : Int)] : List ye))) fun r21 => some (r1.1, (⟨#[]⟩ : ByteArray), r20.1, (0 : Int), r21.1, r21.2.1, r21.2.2.1, r21.2.2.2) else bif (r1.1 == (4 : Int)) then Option.bind (yb (r1.2.1, r1.2.2.1, r1.2.2.2, (5 : Int))) fun r22 => Option.bind (YR r22.2) fun r23 => some (r1.1, (⟨#[]⟩ : ByteArray), (⟨#[]⟩ : ByteArray), r22.1, r23.1, r23.2.1, r23.2.2.1, r23.2.2.2) else bif (r1.1 == (5 : Int)) then Option.bind (yb (r1.2.1, r1.2.2.1, r1.2.2.2, (5 : Int))) fun r24 => some (r1.1, (⟨#[]⟩ : ByteArray), (⟨#[]⟩ : ByteArray), r24.1, (0 : Int), r24.2.1, r24.2.2.1, r24.2.2.2) else bif (r1.1 == (8 : Int)) then bif (r1.1 == (8 : Int)) then Option.bind (yb (r1.2.1, r1.2.2.1, r1.2.2.2, (6 : Int))) fun r25 => some (r1.1, (⟨#[]⟩ : ByteArray), (⟨#[]⟩ : ByteArray), r25.1, (0 : Int), r25.2.1, r25.2.2.1, r25.2.2.2) else some (r1.1, (⟨#[]⟩ : ByteArray), (⟨#[]⟩ : ByteArray), (0 : Int), (0 : Int), r1.2.1, r1.2.2.1, r1.2.2.2) else bif (r1.1 == (9 : Int)) then Option.bind (yb (r1.2.1, r1.2.2.1, r1.2.2.2, (6 : Int))) fun r26 => some (r1.1, (⟨#[]⟩ : ByteArray), (⟨#[]⟩ : ByteArray), r26.1, (0 : Int), r26.2.1, r26.2.2.1, r26.2.2.2) else some (r1.1, (⟨#[]⟩ : ByteArray), (⟨#[]⟩ : ByteArray), (0 : Int), (0 : Int), r1.2.1, r1.2.2.1, r1.2.2.2) else bif (r1.1 == (6 : Int)) then Option.bind (yz (r1.2.1, r1.2.2.1, r1.2.2.2, ([(1 : Int), (3 : Int), (4 : Int), (12 : Int), (5 : Int)] : List ye))) fun r27 => some (r1.1, (⟨#[]⟩ : ByteArray), (⟨#[]⟩ : ByteArray), r27.1, (0 : Int), r27.2.1, r27.2.2.1, r27.2.2.2) else bif (r1.1 == (2 : Int)) then Option.bind (zT r1.2) fun r28 => Option.bind (yz (r28.2.1, r28.2.2.1, r28.2.2.2, ([(0 : Int), (0 : Int), (0 : Int), (1 : Int)] : List ye))) fun r29 => some (r1.1, (⟨#[]⟩ : ByteArray), r28.1, (0 : Int), r29.1, r29.2.1, r29.2.2.1, r29.2.2.2) else bif (r1.1 == (4 : Int)) then Option.bind (yb (r1.2.1, r1.2.2.1, r1.2.2.2, (5 : Int))) fun r30 => Option.bind (YR r30.2) fun r31 => some (r1.1, (⟨#[]⟩ : ByteArray), (⟨#[]⟩ : ByteArray), r30.1, r31.1, r31.2.1, r31.2.2.1, r31.2.2.2) else bif (r1.1 == (5 : Int)) then Option.bind (yb (r1.2.1, r1.2.2.1, r1.2.2.2, (5 : Int))) fun r32 => some (r1.1, (⟨#[]⟩ : ByteArray), (⟨#[]⟩ : ByteArray), r32.1, (0 : Int), r32.2.1, r32.2.2.1, r32.2.2.2) else bif (r1.1 == (8 : Int)) then bif (r1.1 == (8 : Int)) then Option.bind (yb (r1.2.1, r1.2.2.1, r1.2.2.2, (6 : Int))) fun r33 => some (r1.1, (⟨#[]⟩ : ByteArray), (⟨#[]⟩ : ByteArray), r33.1, (0 : Int), r33.2.1, r33.2.2.1, r33.2.2.2) else some (r1.1, (⟨#[]⟩ : ByteArray), (⟨#[]⟩ : ByteArray), (0 : Int), (0 : Int), r1.2.1, r1.2.2.1, r1.2.2.2) else bif (r1.1 == (9 : Int)) then Option.bind (yb (r1.2.1, r1.2.2.1, r1.2.2.2, (6 : Int))) fun r34 => some (r1.1, (⟨#[]⟩ : ByteArray), (⟨#[]⟩ : ByteArray), r34.1, (0 : Int), r34.2.1, r34.2.2.1, r34.2.2.2) else some (r1.1, (⟨#[]⟩ : ByteArray), (⟨#[]⟩ : ByteArray), (0 : Int), (0 : Int), r1.2.1, r1.2.2.1, r1.2.2.2)
theorem yCt : EV [q90, y5o, yGy, yCq, yId] lpN 115 Tryz.f115 yto Qg yHm ZT := fun x => by kernel_rfl
def yIe : QF := ⟨115, ZT, okN (n := 0) Tryz.func115 trivial yCt⟩
def Jj (x : Unit) : Option ycq :=
 some (([(0 : Int)] : List ye), ([([] : List y7)] : List y0))
theorem yCu : EV [] lpN 312 Tryz.f312 ytp [] Qe Jj := fun x => by kernel_rfl
def yGz : QF := ⟨312, Jj, okN (n := 0) Tryz.func312 trivial yCu⟩
def jr (x : Unit) : Option (List y8) :=
 if (0 : Int) ≤ (24 : Int) then if (24 : Int) ≤ (24 : Int) then if (24 : Int) * ((24 : Nat) : Int) ≤ 140737488351232 then some (List.replicate (Int.toNat (24 : Int)) Z4) else none else none else none
theorem yCv : EV [] lpN 313 Tryz.f313 ytq [] [(.sl 113 yd)] jr := fun x => by kernel_rfl
def yGA : QF := ⟨313, jr, okN (n := 0) Tryz.func313 trivial yCv⟩
def vr (x : Unit) : Option y6q :=
 Option.bind (Jj ()) fun r1 => Option.bind (jr ()) fun r2 => some (r1.1, r1.2, ([] : List ya), r2, ([] : List yf), (1 : Int))
theorem yCw : EV [yGz, yGA] lpN 238 Tryz.f238 ytr [] jI vr := fun x => by kernel_rfl
def yIf : QF := ⟨238, vr, okN (n := 0) Tryz.func238 trivial yCw⟩
abbrev kq : Type := yFQ
def kr (k0 : yHn → Option R) (again : kq → Option R) (t4 : kq) : Option R :=
 bif (decide (t4.2.2.2.2.1 < (List.length t4.1 : Int))) then Option.bind (bif (!t4.2.2.2.1) then if (0 : Int) ≤ t4.2.2.2.2.1 then if t4.2.2.2.2.1 < (List.length t4.1 : Int) then some (decide ((yG t4.1 t4.2.2.2.2.1).1 > t4.2.1)) else none else none else some false) fun u2 => bif u2 then if (List.length t4.2.2.2.2.2 + List.length ([(t4.2.1, t4.2.2.1)] : List ya)) * 16 < 140737488355328 then if (0 : Int) ≤ t4.2.2.2.2.1 then if t4.2.2.2.2.1 < (List.length t4.1 : Int) then if (List.length (t4.2.2.2.2.2 ++ ([(t4.2.1, t4.2.2.1)] : List ya)) + List.length ([((yG t4.1 t4.2.2.2.2.1).1, (yG t4.1 t4.2.2.2.2.1).2)] : List ya)) * 16 < 140737488355328 then again (t4.1, t4.2.1, t4.2.2.1, true, (Go.IntKind.wrap .i64 (t4.2.2.2.2.1 + (1 : Int))), ((t4.2.2.2.2.2 ++ ([(t4.2.1, t4.2.2.1)] : List ya)) ++ ([((yG t4.1 t4.2.2.2.2.1).1, (yG t4.1 t4.2.2.2.2.1).2)] : List ya))) else none else none else none else none else if (0 : Int) ≤ t4.2.2.2.2.1 then if t4.2.2.2.2.1 < (List.length t4.1 : Int) then if (List.length t4.2.2.2.2.2 + List.length ([((yG t4.1 t4.2.2.2.2.1).1, (yG t4.1 t4.2.2.2.2.1).2)] : List ya)) * 16 < 140737488355328 then again (t4.1, t4.2.1, t4.2.2.1, t4.2.2.2.1, (Go.IntKind.wrap .i64 (t4.2.2.2.2.1 + (1 : Int))), (t4.2.2.2.2.2 ++ ([((yG t4.1 t4.2.2.2.2.1).1, (yG t4.1 t4.2.2.2.2.1).2)] : List ya))) else none else none else none else k0 (t4.1, t4.2.1, t4.2.2.1, t4.2.2.2.1, t4.2.2.2.2.2)
def y0W k0 := zh (@kr R k0) zu
def Y7 (x : yzv) : Option yyH :=
 Option.bind (zP (x.1, x.2.1)) fun r1 => y0W (fun x3 => bif (!x3.2.2.2.1) then if (List.length x3.2.2.2.2 + List.length ([(x3.2.1, x3.2.2.1)] : List ya)) * 16 < 140737488355328 then Option.bind (zP (x3.1, x3.2.1)) fun r4 => Option.bind (bif (decide (r4 ≥ (0 : Int))) then some true else Option.bind (Zw (x3.2.2.2.2 ++ ([(x3.2.1, x3.2.2.1)] : List ya))) fun r6 => some (!r6)) fun u5 => bif u5 then if (List.length ([] : List ya) + List.length x3.1) * 16 < 140737488355328 then some ((([] : List ya) ++ x3.1), false) else none else some ((x3.2.2.2.2 ++ ([(x3.2.1, x3.2.2.1)] : List ya)), true) else none else Option.bind (zP (x3.1, x3.2.1)) fun r7 => Option.bind (bif (decide (r7 ≥ (0 : Int))) then some true else Option.bind (Zw x3.2.2.2.2) fun r9 => some (!r9)) fun u8 => bif u8 then if (List.length ([] : List ya) + List.length x3.1) * 16 < 140737488355328 then some ((([] : List ya) ++ x3.1), false) else none else some (x3.2.2.2.2, true)) (x.1, x.2.1, x.2.2, (decide (r1 ≥ (0 : Int))), (0 : Int), ([] : List ya))
def yot : List QF := [yC0, yqd]
def y8P (t : yFQ) : St := ⟨zk t.1 :: vI t.2.1 :: vI t.2.2.1 :: dd 5 (.own 10000000 :: vB t.2.2.2.1 :: vI t.2.2.2.2.1 :: dd 56 []), [(10000000, .root true 146 ym t.2.2.2.2.2)]⟩
def ylX : Gk kq := fun κ => kr (fun t => κ (some 0) ⟨zk t.1 :: vI t.2.1 :: vI t.2.2.1 :: dd 5 (.own 10000000 :: vB t.2.2.2.1 :: dd 57 []), [(10000000, .root true 146 ym t.2.2.2.2)]⟩)
def yov : Lp := lpC 4 (unG yFR y8P) @ylX lpN
theorem yww : LF yot yov 175 4 Tryz.f175 0 y8P @ylX fun t => t := fun R κ again t => by kernel_rfl
theorem ywx : LK yot yov 175 Tryz.f175 0 := lkN (u := (unG yFR y8P)) (yo fun t => by kernel_rfl) yww
theorem yCx : EV yot yov 175 Tryz.f175 yts yzw yF9 Y7 := fun x => by kernel_rfl
def yCy : QF := ⟨175, Y7, okN (n := 1) Tryz.func175 ⟨ywx, trivial⟩ yCx⟩
abbrev Jx : Type := yzy
def Jy (k0 : yzy → Option R) (again : Jx → Option R) (t3 : Jx) : Option R :=
 Option.bind (bif (decide (t3.1 > (0 : Int))) then if (0 : Int) ≤ (Go.IntKind.wrap .i64 (t3.1 - (1 : Int))) then if (Go.IntKind.wrap .i64 (t3.1 - (1 : Int))) < (List.length t3.2.2.2.2.2 : Int) then some (!(Go.Op.bytesLess (ByteArray.toList ((yl t3.2.2.2.2.2 (Go.IntKind.wrap .i64 (t3.1 - (1 : Int)))).1)) (ByteArray.toList t3.2.1) || (ByteArray.toList ((yl t3.2.2.2.2.2 (Go.IntKind.wrap .i64 (t3.1 - (1 : Int)))).1)) == (ByteArray.toList t3.2.1))) else none else none else some false) fun u1 => bif u1 then if (0 : Int) ≤ (Go.IntKind.wrap .i64 (t3.1 - (1 : Int))) then if (Go.IntKind.wrap .i64 (t3.1 - (1 : Int))) < (List.length t3.2.2.2.2.2 : Int) then if (0 : Int) ≤ t3.1 then if t3.1 < (List.length t3.2.2.2.2.2 : Int) then again ((Go.IntKind.wrap .i64 (t3.1 - (1 : Int))), t3.2.1, t3.2.2.1, t3.2.2.2.1, t3.2.2.2.2.1, (List.set t3.2.2.2.2.2 (Int.toNat t3.1) ((yl t3.2.2.2.2.2 (Go.IntKind.wrap .i64 (t3.1 - (1 : Int)))).1, (yl t3.2.2.2.2.2 (Go.IntKind.wrap .i64 (t3.1 - (1 : Int)))).2.1, (yl t3.2.2.2.2.2 (Go.IntKind.wrap .i64 (t3.1 - (1 : Int)))).2.2.1, (yl t3.2.2.2.2.2 (Go.IntKind.wrap .i64 (t3.1 - (1 : Int)))).2.2.2))) else none else none else none else none else k0 t3
def qL k0 := zh (@Jy R k0) zu
def Zl (x : yzq) : Option (List yf) :=
 if (List.length ([] : List yf) + List.length x.1) * 40 < 140737488355328 then if (List.length (([] : List yf) ++ x.1) + List.length ([x.2] : List yf)) * 40 < 140737488355328 then qL (fun x2 => if (0 : Int) ≤ x2.1 then if x2.1 < (List.length x2.2.2.2.2.2 : Int) then some (List.set x2.2.2.2.2.2 (Int.toNat x2.1) (x2.2.1, x2.2.2.1, x2.2.2.2.1, x2.2.2.2.2.1)) else none else none) ((Go.IntKind.wrap .i64 (((List.length ((([] : List yf) ++ x.1) ++ ([x.2] : List yf)) : Nat) : Int) - (1 : Int))), x.2.1, x.2.2.1, x.2.2.2.1, x.2.2.2.2, ((([] : List yf) ++ x.1) ++ ([x.2] : List yf))) else none else none
def yow : List QF := []
def y8Q (t : yzy) : St := ⟨dd 3 (.box 3 0 :: .dead :: .own 10000000 :: vI t.1 :: dd 37 []), [(3, .box [vS t.2.1, vI t.2.2.1, vI t.2.2.2.1, vB t.2.2.2.2.1]), (10000000, .root true 46 yt t.2.2.2.2.2)]⟩
def ylY : Gk Jx := fun κ => Jy (fun t => κ (some 0) ⟨dd 3 (.box 3 0 :: .dead :: .own 10000000 :: vI t.1 :: dd 37 []), [(3, .box [vS t.2.1, vI t.2.2.1, vI t.2.2.2.1, vB t.2.2.2.2.1]), (10000000, .root true 46 yt t.2.2.2.2.2)]⟩)
def yox : Lp := lpC 3 (unG yFS y8Q) @ylY lpN
theorem ywy : LF yow yox 176 3 Tryz.f176 0 y8Q @ylY fun t => t := fun R κ again t => by kernel_rfl
theorem ywz : LK yow yox 176 Tryz.f176 0 := lkN (u := (unG yFS y8Q)) (yo fun t => by kernel_rfl) ywy
theorem yCz : EV yow yox 176 Tryz.f176 ytt yzr [(.sl 46 yt)] Zl := fun x => by kernel_rfl
def yGB : QF := ⟨176, Zl, okN (n := 1) Tryz.func176 ⟨ywz, trivial⟩ yCz⟩
def wA (x : yyW) : Option ydF :=
 Option.bind (ZS (x.1, x.2.1, x.2.2.1, x.2.2.2.1, x.2.2.2.2.1, x.2.2.2.2.2.1, x.2.2.2.2.2.2.1)) fun r1 => bif (r1 != (0 : Int)) then Option.bind (yq (x.1, x.2.1, x.2.2.1, x.2.2.2.1, x.2.2.2.2.1, x.2.2.2.2.2.1)) fun r2 => some (r2.1, r2.2.1, r2.2.2.1, r2.2.2.2.1, r2.2.2.2.2.1, r2.2.2.2.2.2, r1) else Option.bind (zs (x.1, x.2.1, x.2.2.1, x.2.2.2.1, x.2.2.2.2.1, x.2.2.2.2.2.1, x.2.2.2.2.2.2.1)) fun r3 => bif (decide (r3 ≥ (0 : Int))) then Option.bind (yq (x.1, x.2.1, x.2.2.1, x.2.2.2.1, x.2.2.2.2.1, x.2.2.2.2.2.1)) fun r4 => some (r4.1, r4.2.1, r4.2.2.1, r4.2.2.2.1, r4.2.2.2.2.1, r4.2.2.2.2.2, (3 : Int)) else Option.bind (yB (x.2.2.2.2.2.2.2, (1 : Int), (12 : Int))) fun r5 => bif (!r5) then Option.bind (yq (x.1, x.2.1, x.2.2.1, x.2.2.2.1, x.2.2.2.2.1, x.2.2.2.2.2.1)) fun r6 => some (r6.1, r6.2.1, r6.2.2.1, r6.2.2.2.1, r6.2.2.2.2.1, r6.2.2.2.2.2, (4 : Int)) else Option.bind (yq (x.1, x.2.1, x.2.2.1, x.2.2.2.1, x.2.2.2.2.1, x.2.2.2.2.2.1)) fun r7 => Option.bind (Y7 (x.2.2.1, x.2.2.2.2.2.1, (0 : Int))) fun r8 => Option.bind (Zl (x.2.2.2.2.1, x.2.2.2.2.2.2.1, x.2.2.2.2.2.1, x.2.2.2.2.2.2.2, false)) fun r9 => Option.bind (yV (x.1, x.2.1, x.2.2.1, x.2.2.2.1, x.2.2.2.2.1, x.2.2.2.2.2.1, r7.1, r7.2.1, r8.1, r7.2.2.2.1, r9, (Go.IntKind.wrap .i64 (x.2.2.2.2.2.1 + (1 : Int))), r8.2)) fun r10 => some r10
theorem yIg : EV [q94, q96, yCh, ylA, yCy, yGB, yqe] lpN 59 Tryz.f59 yG6 yyX ydG wA := fun x => by kernel_rfl
def q59 : QF := ⟨59, wA, okN (n := 0) Tryz.func59 trivial yIg⟩
def KG (x : yHo) : Option ydF :=
 Option.bind (ZS (x.1, x.2.1, x.2.2.1, x.2.2.2.1, x.2.2.2.2.1, x.2.2.2.2.2.1, x.2.2.2.2.2.2.1)) fun r1 => Option.bind (bif (r1 != (0 : Int)) then some true else Option.bind (Yo x.2.2.2.2.2.2.2.1) fun r3 => some (!r3)) fun u2 => bif u2 then Option.bind (yq (x.1, x.2.1, x.2.2.1, x.2.2.2.1, x.2.2.2.2.1, x.2.2.2.2.2.1)) fun r4 => some (r4.1, r4.2.1, r4.2.2.1, r4.2.2.2.1, r4.2.2.2.2.1, r4.2.2.2.2.2, (1 : Int)) else Option.bind (zs (x.1, x.2.1, x.2.2.1, x.2.2.2.1, x.2.2.2.2.1, x.2.2.2.2.2.1, x.2.2.2.2.2.2.1)) fun r5 => bif (decide (r5 < (0 : Int))) then Option.bind (yq (x.1, x.2.1, x.2.2.1, x.2.2.2.1, x.2.2.2.2.1, x.2.2.2.2.2.1)) fun r6 => some (r6.1, r6.2.1, r6.2.2.1, r6.2.2.2.1, r6.2.2.2.2.1, r6.2.2.2.2.2, (2 : Int)) else Option.bind (zs (x.1, x.2.1, x.2.2.1, x.2.2.2.1, x.2.2.2.2.1, x.2.2.2.2.2.1, x.2.2.2.2.2.2.2.1)) fun r7 => bif (decide (r7 ≥ (0 : Int))) then Option.bind (yq (x.1, x.2.1, x.2.2.1, x.2.2.2.1, x.2.2.2.2.1, x.2.2.2.2.2.1)) fun r8 => some (r8.1, r8.2.1, r8.2.2.1, r8.2.2.2.1, r8.2.2.2.2.1, r8.2.2.2.2.2, (3 : Int)) else Option.bind (yq (x.1, x.2.1, x.2.2.1, x.2.2.2.1, x.2.2.2.2.1, x.2.2.2.2.2.1)) fun r9 => Option.bind (zs (x.1, x.2.1, x.2.2.1, x.2.2.2.1, x.2.2.2.2.1, x.2.2.2.2.2.1, x.2.2.2.2.2.2.1)) fun r10 => if (0 : Int) ≤ r10 then if r10 < (List.length x.2.2.2.2.1 : Int) then Option.bind (Y7 (x.2.2.1, x.2.2.2.2.2.1, (yl x.2.2.2.2.1 r10).2.1)) fun r11 => if (0 : Int) ≤ r10 then if r10 < (List.length x.2.2.2.2.1 : Int) then Option.bind (Y7 (r11.1, (Go.IntKind.wrap .i64 (x.2.2.2.2.2.1 + (1 : Int))), (yl x.2.2.2.2.1 r10).2.1)) fun r12 => if (0 : Int) ≤ r10 then if r10 < (List.length r9.2.2.2.2.1 : Int) then if (0 : Int) ≤ r10 then if r10 < (List.length x.2.2.2.2.1 : Int) then Option.bind (Zl ((List.set r9.2.2.2.2.1 (Int.toNat r10) ((yl r9.2.2.2.2.1 r10).1, x.2.2.2.2.2.1, (yl r9.2.2.2.2.1 r10).2.2)), x.2.2.2.2.2.2.2.1, (Go.IntKind.wrap .i64 (x.2.2.2.2.2.1 + (1 : Int))), (yl x.2.2.2.2.1 r10).2.2.1, x.2.2.2.2.2.2.2.2)) fun r13 => Option.bind (bif r11.2 then some r12.2 else some false) fun u14 => Option.bind (yV (x.1, x.2.1, x.2.2.1, x.2.2.2.1, x.2.2.2.2.1, x.2.2.2.2.2.1, r9.1, r9.2.1, r12.1, r9.2.2.2.1, r13, (Go.IntKind.wrap .i64 (x.2.2.2.2.2.1 + (2 : Int))), u14)) fun r15 => some r15 else none else none else none else none else none else none else none else none
theorem yIh : EV [q94, yCh, ylA, yCy, yGB, yqe, yz1] lpN 61 Tryz.f61 yG7 yHp ydG KG := fun x => by kernel_rfl
def q61 : QF := ⟨61, KG, okN (n := 0) Tryz.func61 trivial yIh⟩
abbrev wB : Type := yFT
def wC (k0 : yHq → Option R) (k1 : List y8 → Option R) (again : wB → Option R) (t3 : wB) : Option R :=
 Option.bind (bif (decide (t3.2.2.1 < (List.length t3.1 : Int))) then Option.bind (ZR t3.1) fun r3 => some r3 else some false) fun u2 => Option.bind (bif u2 then Option.bind (zw t3.2.1) fun r5 => some r5 else some false) fun u4 => bif u4 then if (0 : Int) ≤ t3.2.2.1 then if t3.2.2.1 < (List.length t3.1 : Int) then bif (!((yp t3.1 t3.2.2.1).2.1)) then if (0 : Int) ≤ t3.2.2.1 then if t3.2.2.1 < (List.length t3.2.2.2 : Int) then if (0 : Int) ≤ t3.2.2.1 then if t3.2.2.1 < ((List.length (List.set t3.2.2.2 (Int.toNat t3.2.2.1) ((yp t3.2.2.2 t3.2.2.1).1, true, (yp t3.2.2.2 t3.2.2.1).2.2)) : Nat) : Int) then k0 (t3.2.2.1, true, (List.set (List.set t3.2.2.2 (Int.toNat t3.2.2.1) ((yp t3.2.2.2 t3.2.2.1).1, true, (yp t3.2.2.2 t3.2.2.1).2.2)) (Int.toNat t3.2.2.1) ((yp (List.set t3.2.2.2 (Int.toNat t3.2.2.1) ((yp t3.2.2.2 t3.2.2.1).1, true, (yp t3.2.2.2 t3.2.2.1).2.2)) t3.2.2.1).1, (yp (List.set t3.2.2.2 (Int.toNat t3.2.2.1) ((yp t3.2.2.2 t3.2.2.1).1, true, (yp t3.2.2.2 t3.2.2.1).2.2)) t3.2.2.1).2.1, t3.2.1))) else none else none else none else none else again (t3.1, t3.2.1, (Go.IntKind.wrap .i64 (t3.2.2.1 + (1 : Int))), t3.2.2.2) else none else none else k1 t3.2.2.2
def Qr k0 k1 := zh (@wC R k0 k1) zu
def Ys (x : yyU) : Option yzz :=
 Option.bind (YQ x.1) fun r1 => Qr (fun x6 => some (x6.2.2, x6.1, x6.2.1)) (fun x7 => some (x7, (0 : Int), false)) (x.1, x.2, (0 : Int), r1)
def yoy : List QF := [yz0, yBF, yC3]
def y8R (t : yFT) : St := ⟨yI t.1 :: vI t.2.1 :: dd 5 (.own 10000000 :: vI t.2.2.1 :: dd 34 []), [(10000000, .root true 113 yd t.2.2.2)]⟩
def ylZ : Gk wB := fun κ => wC (fun t => κ none ⟨dd 4 (.own 10000000 :: vI t.1 :: vB t.2.1 :: .own 10000000 :: dd 35 []), [(10000000, .root true 113 yd t.2.2)]⟩) (fun t => κ (some 0) ⟨dd 7 (.own 10000000 :: dd 35 []), [(10000000, .root true 113 yd t)]⟩)
def yoz : Lp := lpC 3 (unG yFU y8R) @ylZ lpN
theorem ywA : LF yoy yoz 103 3 Tryz.f103 0 y8R @ylZ fun t => t := fun R κ again t => by kernel_rfl
theorem ywB : LK yoy yoz 103 Tryz.f103 0 := lkN (u := (unG yFU y8R)) (yo fun t => by kernel_rfl) ywA
theorem yCA : EV yoy yoz 103 Tryz.f103 ytu yyV yzA Ys := fun x => by kernel_rfl
def yCB : QF := ⟨103, Ys, okN (n := 1) Tryz.func103 ⟨ywB, trivial⟩ yCA⟩
def Za (x : yyW) : Option Int :=
 Option.bind (wz (x.1, x.2.1, x.2.2.1, x.2.2.2.1, x.2.2.2.2.1, x.2.2.2.2.2.1, x.2.2.2.2.2.2.1)) fun r1 => bif (r1 != (0 : Int)) then some r1 else Option.bind (zs (x.1, x.2.1, x.2.2.1, x.2.2.2.1, x.2.2.2.2.1, x.2.2.2.2.2.1, x.2.2.2.2.2.2.1)) fun r2 => if (0 : Int) ≤ r2 then if r2 < (List.length x.2.2.2.2.1 : Int) then bif (yl x.2.2.2.2.1 r2).2.2.2 then some (5 : Int) else Option.bind (zs (x.1, x.2.1, x.2.2.1, x.2.2.2.1, x.2.2.2.2.1, x.2.2.2.2.2.1, x.2.2.2.2.2.2.1)) fun r3 => if (0 : Int) ≤ r3 then if r3 < (List.length x.2.2.2.2.1 : Int) then Option.bind (yB (x.2.2.2.2.2.2.2, (0 : Int), (Go.IntKind.wrap .i64 ((yl x.2.2.2.2.1 r3).2.2.1 - (1 : Int))))) fun r4 => bif (!r4) then some (4 : Int) else some (0 : Int) else none else none else none else none
theorem yCC : EV [q96, ylA, yGx] lpN 181 Tryz.f181 ytv yyX [(.int .i64)] Za := fun x => by kernel_rfl
def yCD : QF := ⟨181, Za, okN (n := 0) Tryz.func181 trivial yCC⟩
abbrev Wp : Type := yqB
def Wq (k0 : Int → Option R) (again : Wp → Option R) (t3 : Wp) : Option R :=
 bif (decide (t3.2.2.2.1 < (List.length t3.2.2.2.2.1 : Int))) then if (0 : Int) ≤ t3.2.2.2.1 then if t3.2.2.2.1 < (List.length t3.2.2.2.2.1 : Int) then Option.bind (ww (t3.1, t3.2.1)) fun r1 => bif (decide ((zL t3.2.2.2.2.1 t3.2.2.2.1) ≤ r1)) then again (t3.1, t3.2.1, t3.2.2.2.1, (Go.IntKind.wrap .i64 (t3.2.2.2.1 + (1 : Int))), t3.2.2.2.2.1, t3.2.2.2.2.2) else again (t3.1, t3.2.1, t3.2.2.1, (Go.IntKind.wrap .i64 (t3.2.2.2.1 + (1 : Int))), t3.2.2.2.2.1, t3.2.2.2.2.2) else none else none else k0 t3.2.2.1
def y0k k0 := zh (@Wq R k0) zu
def Jk (x : yqD) : Option Int :=
 y0k (fun x2 => some x2) (x.2.2.1, x.2.2.2, (-1 : Int), (0 : Int), x.1, x.2.1)
def yoA : List QF := [yGt]
def y8S (t : yqB) : St := ⟨.dead :: vI t.1 :: vI t.2.1 :: .box 3 0 :: dd 3 (vI t.2.2.1 :: vI t.2.2.2.1 :: dd 18 []), [(3, .box [zc t.2.2.2.2.1, yw t.2.2.2.2.2])]⟩
def ym0 : Gk Wp := fun κ => Wq (fun t => κ (some 0) ⟨dd 7 (vI t :: dd 19 []), []⟩)
def yoB : Lp := lpC 3 (unG yqC y8S) @ym0 lpN
theorem ywC : LF yoA yoB 227 3 Tryz.f227 0 y8S @ym0 fun t => t := fun R κ again t => by kernel_rfl
theorem ywD : LK yoA yoB 227 Tryz.f227 0 := lkN (u := (unG yqC y8S)) (yo fun t => by kernel_rfl) ywC
theorem yCE : EV yoA yoB 227 Tryz.f227 ytw yqE [(.int .i64)] Jk := fun x => by kernel_rfl
def yGC : QF := ⟨227, Jk, okN (n := 1) Tryz.func227 ⟨ywD, trivial⟩ yCE⟩
def yY (x : List y9) : Option (List y7) :=
 bif ((List.length x : Int) == (0 : Int)) then some ([] : List y7) else if (List.length ([] : List y9) + List.length x) * 40 < 140737488355328 then some ([(([] : List y9) ++ x)] : List y7) else none
theorem yCF : EV [] lpN 234 Tryz.f234 ytx [(.sl 64 yi)] [(.sl 58 yn)] yY := fun x => by kernel_rfl
def yz2 : QF := ⟨234, yY, okN (n := 0) Tryz.func234 trivial yCF⟩
abbrev qW : Type := yqF
def Wb (k0 : yqH → Option R) (k1 : yla → Option R) (again : qW → Option R) (t2 : qW) : Option R :=
 bif (decide (t2.2.2.2.1 < (List.length t2.1 : Int))) then if (0 : Int) ≤ t2.2.2.2.1 then if t2.2.2.2.1 < (List.length t2.1 : Int) then Option.bind (bif ((y6 t2.1 t2.2.2.2.1).1 == t2.2.1) then if (0 : Int) ≤ t2.2.2.2.1 then if t2.2.2.2.1 < (List.length t2.1 : Int) then some ((y6 t2.1 t2.2.2.2.1).2.1 == t2.2.2.1) else none else none else some false) fun u1 => bif u1 then if (0 : Int) ≤ t2.2.2.2.1 then if t2.2.2.2.1 < (List.length t2.1 : Int) then k0 (true, (y6 t2.1 t2.2.2.2.1).1, (y6 t2.1 t2.2.2.2.1).2.1, (y6 t2.1 t2.2.2.2.1).2.2.1, (y6 t2.1 t2.2.2.2.1).2.2.2.1, (y6 t2.1 t2.2.2.2.1).2.2.2.2) else none else none else again (t2.1, t2.2.1, t2.2.2.1, (Go.IntKind.wrap .i64 (t2.2.2.2.1 + (1 : Int))), t2.2.2.2.2.1, t2.2.2.2.2.2.1, t2.2.2.2.2.2.2.1, t2.2.2.2.2.2.2.2.1, t2.2.2.2.2.2.2.2.2) else none else none else k1 t2.2.2.2.2
def y1T k0 k1 := zh (@Wb R k0 k1) zu
def WL (x : yzB) : Option yf1 :=
 y1T (fun x2 => some (x2.2.1, x2.2.2.1, x2.2.2.2.1, x2.2.2.2.2.1, x2.2.2.2.2.2, x2.1)) (fun x3 => some ((0 : Int), (0 : Int), (0 : Int), (0 : Int), (0 : Int), false)) (x.1, x.2.1, x.2.2, (0 : Int), (0 : Int), (0 : Int), (0 : Int), (0 : Int), (0 : Int))
def yoC : List QF := []
def y8T (t : yqF) : St := ⟨qx t.1 :: vI t.2.1 :: vI t.2.2.1 :: dd 3 (.box 6 0 :: .dead :: vI t.2.2.2.1 :: dd 27 []), [(6, .box [vI t.2.2.2.2.1, vI t.2.2.2.2.2.1, vI t.2.2.2.2.2.2.1, vI t.2.2.2.2.2.2.2.1, vI t.2.2.2.2.2.2.2.2])]⟩
def ym1 : Gk qW := fun κ => Wb (fun t => κ none ⟨dd 6 (.box 6 0 :: vB t.1 :: dd 28 []), [(6, .box [vI t.2.1, vI t.2.2.1, vI t.2.2.2.1, vI t.2.2.2.2.1, vI t.2.2.2.2.2])]⟩) (fun t => κ (some 0) ⟨dd 6 (.box 6 0 :: dd 29 []), [(6, .box [vI t.1, vI t.2.1, vI t.2.2.1, vI t.2.2.2.1, vI t.2.2.2.2])]⟩)
def yoD : Lp := lpC 2 (unG yqG y8T) @ym1 lpN
theorem ywE : LF yoC yoD 305 2 Tryz.f305 0 y8T @ym1 fun t => t := fun R κ again t => by kernel_rfl
theorem ywF : LK yoC yoD 305 Tryz.f305 0 := lkN (u := (unG yqG y8T)) (yo fun t => by kernel_rfl) ywE
theorem yCG : EV yoC yoD 305 Tryz.f305 yty yzC yf2 WL := fun x => by kernel_rfl
def yGD : QF := ⟨305, WL, okN (n := 1) Tryz.func305 ⟨ywF, trivial⟩ yCG⟩
def YW (x : yzD) : Option yzF :=
 Option.bind (zo x.1) fun r1 => bif (decide ((Go.IntKind.wrap .i64 ((List.length r1 : Int) - (1 : Int))) ≥ (0 : Int))) then if (0 : Int) ≤ (Go.IntKind.wrap .i64 ((List.length r1 : Int) - (1 : Int))) then if (Go.IntKind.wrap .i64 ((List.length r1 : Int) - (1 : Int))) < (List.length r1 : Int) then Option.bind (WL ((yr r1 (Go.IntKind.wrap .i64 ((List.length r1 : Int) - (1 : Int)))), x.2.1, x.2.2.1)) fun r2 => Option.bind (bif (decide ((Go.IntKind.wrap .i64 ((List.length r1 : Int) - (1 : Int))) ≥ (0 : Int))) then if (0 : Int) ≤ (Go.IntKind.wrap .i64 ((List.length r1 : Int) - (1 : Int))) then if (Go.IntKind.wrap .i64 ((List.length r1 : Int) - (1 : Int))) < (List.length r1 : Int) then Option.bind (bif (decide (((List.length (yr r1 (Go.IntKind.wrap .i64 ((List.length r1 : Int) - (1 : Int)))) : Nat) : Int) < (4 : Int))) then some true else some r2.2.2.2.2.2) fun u4 => some u4 else none else none else some false) fun u3 => bif u3 then if (0 : Int) ≤ (Go.IntKind.wrap .i64 ((List.length r1 : Int) - (1 : Int))) then if (Go.IntKind.wrap .i64 ((List.length r1 : Int) - (1 : Int))) < (List.length r1 : Int) then Option.bind (zC ((yr r1 (Go.IntKind.wrap .i64 ((List.length r1 : Int) - (1 : Int)))), x.2.1, x.2.2.1, x.2.2.2.1, x.2.2.2.2.1, x.2.2.2.2.2)) fun r5 => if (0 : Int) ≤ (Go.IntKind.wrap .i64 ((List.length r1 : Int) - (1 : Int))) then if (Go.IntKind.wrap .i64 ((List.length r1 : Int) - (1 : Int))) < (List.length r1 : Int) then Option.bind (zv (List.set r1 (Int.toNat (Go.IntKind.wrap .i64 ((List.length r1 : Int) - (1 : Int)))) r5)) fun r6 => bif r6 then some ((List.set r1 (Int.toNat (Go.IntKind.wrap .i64 ((List.length r1 : Int) - (1 : Int)))) r5), true) else Option.bind (yE x.1) fun r7 => Option.bind (zC (r7, x.2)) fun r8 => Option.bind (Y6 r8) fun r9 => bif (decide ((List.length r9 : Int) > (8 : Int))) then Option.bind (zo x.1) fun r10 => some (r10, false) else Option.bind (yY r9) fun r11 => Option.bind (zv r11) fun r12 => bif (!r12) then Option.bind (zo x.1) fun r13 => some (r13, false) else Option.bind (yY r9) fun r14 => some (r14, true) else none else none else none else none else if (List.length r1 + List.length ([([x.2] : List y9)] : List y7)) * 24 < 140737488355328 then Option.bind (zv (r1 ++ ([([x.2] : List y9)] : List y7))) fun r15 => bif r15 then some ((r1 ++ ([([x.2] : List y9)] : List y7)), true) else Option.bind (yE x.1) fun r16 => Option.bind (zC (r16, x.2)) fun r17 => Option.bind (Y6 r17) fun r18 => bif (decide ((List.length r18 : Int) > (8 : Int))) then Option.bind (zo x.1) fun r19 => some (r19, false) else Option.bind (yY r18) fun r20 => Option.bind (zv r20) fun r21 => bif (!r21) then Option.bind (zo x.1) fun r22 => some (r22, false) else Option.bind (yY r18) fun r23 => some (r23, true) else none else none else none else Option.bind (bif (decide ((Go.IntKind.wrap .i64 ((List.length r1 : Int) - (1 : Int))) ≥ (0 : Int))) then if (0 : Int) ≤ (Go.IntKind.wrap .i64 ((List.length r1 : Int) - (1 : Int))) then if (Go.IntKind.wrap .i64 ((List.length r1 : Int) - (1 : Int))) < (List.length r1 : Int) then Option.bind (bif (decide (((List.length (yr r1 (Go.IntKind.wrap .i64 ((List.length r1 : Int) - (1 : Int)))) : Nat) : Int) < (4 : Int))) then some true else some false) fun u25 => some u25 else none else none else some false) fun u24 => bif u24 then if (0 : Int) ≤ (Go.IntKind.wrap .i64 ((List.length r1 : Int) - (1 : Int))) then if (Go.IntKind.wrap .i64 ((List.length r1 : Int) - (1 : Int))) < (List.length r1 : Int) then Option.bind (zC ((yr r1 (Go.IntKind.wrap .i64 ((List.length r1 : Int) - (1 : Int)))), x.2.1, x.2.2.1, x.2.2.2.1, x.2.2.2.2.1, x.2.2.2.2.2)) fun r26 => if (0 : Int) ≤ (Go.IntKind.wrap .i64 ((List.length r1 : Int) - (1 : Int))) then if (Go.IntKind.wrap .i64 ((List.length r1 : Int) - (1 : Int))) < (List.length r1 : Int) then Option.bind (zv (List.set r1 (Int.toNat (Go.IntKind.wrap .i64 ((List.length r1 : Int) - (1 : Int)))) r26)) fun r27 => bif r27 then some ((List.set r1 (Int.toNat (Go.IntKind.wrap .i64 ((List.length r1 : Int) - (1 : Int)))) r26), true) else Option.bind (yE x.1) fun r28 => Option.bind (zC (r28, x.2)) fun r29 => Option.bind (Y6 r29) fun r30 => bif (decide ((List.length r30 : Int) > (8 : Int))) then Option.bind (zo x.1) fun r31 => some (r31, false) else Option.bind (yY r30) fun r32 => Option.bind (zv r32) fun r33 => bif (!r33) then Option.bind (zo x.1) fun r34 => some (r34, false) else Option.bind (yY r30) fun r35 => some (r35, true) else none else none else none else none else if (List.length r1 + List.length ([([x.2] : List y9)] : List y7)) * 24 < 140737488355328 then Option.bind (zv (r1 ++ ([([x.2] : List y9)] : List y7))) fun r36 => bif r36 then some ((r1 ++ ([([x.2] : List y9)] : List y7)), true) else Option.bind (yE x.1) fun r37 => Option.bind (zC (r37, x.2)) fun r38 => Option.bind (Y6 r38) fun r39 => bif (decide ((List.length r39 : Int) > (8 : Int))) then Option.bind (zo x.1) fun r40 => some (r40, false) else Option.bind (yY r39) fun r41 => Option.bind (zv r41) fun r42 => bif (!r42) then Option.bind (zo x.1) fun r43 => some (r43, false) else Option.bind (yY r39) fun r44 => some (r44, true) else none
theorem yCH : EV [yBI, yyY, ynZ, yz2, yGr, yGD, yGv] lpN 228 Tryz.f228 ytz yzE yzG YW := fun x => by kernel_rfl
def yGE : QF := ⟨228, YW, okN (n := 0) Tryz.func228 trivial yCH⟩
def w5 (x : yzH) : Option ycq :=
 if (0 : Int) ≤ (0 : Int) then if (0 : Int) ≤ x.2.2.1 then if x.2.2.1 ≤ (List.length x.1 : Int) then if (List.length ([] : List ye) + List.length (List.drop (Int.toNat (0 : Int)) (List.take (Int.toNat x.2.2.1) x.1))) * 8 < 140737488355328 then if (List.length (([] : List ye) ++ (List.drop (Int.toNat (0 : Int)) (List.take (Int.toNat x.2.2.1) x.1))) + List.length x.2.2.2.1) * 8 < 140737488355328 then if (0 : Int) ≤ (Go.IntKind.wrap .i64 (x.2.2.1 + (1 : Int))) then if (Go.IntKind.wrap .i64 (x.2.2.1 + (1 : Int))) ≤ (List.length x.1 : Int) then if (List.length x.1 : Int) ≤ (List.length x.1 : Int) then if (List.length ((([] : List ye) ++ (List.drop (Int.toNat (0 : Int)) (List.take (Int.toNat x.2.2.1) x.1))) ++ x.2.2.2.1) + List.length (List.drop (Int.toNat (Go.IntKind.wrap .i64 (x.2.2.1 + (1 : Int)))) (List.take (Int.toNat (List.length x.1 : Int)) x.1))) * 8 < 140737488355328 then if (0 : Int) ≤ (0 : Int) then if (0 : Int) ≤ x.2.2.1 then if x.2.2.1 ≤ (List.length x.2.1 : Int) then if (List.length ([] : List y0) + List.length (List.drop (Int.toNat (0 : Int)) (List.take (Int.toNat x.2.2.1) x.2.1))) * 24 < 140737488355328 then if (List.length (([] : List y0) ++ (List.drop (Int.toNat (0 : Int)) (List.take (Int.toNat x.2.2.1) x.2.1))) + List.length x.2.2.2.2) * 24 < 140737488355328 then if (0 : Int) ≤ (Go.IntKind.wrap .i64 (x.2.2.1 + (1 : Int))) then if (Go.IntKind.wrap .i64 (x.2.2.1 + (1 : Int))) ≤ (List.length x.2.1 : Int) then if (List.length x.2.1 : Int) ≤ (List.length x.2.1 : Int) then if (List.length ((([] : List y0) ++ (List.drop (Int.toNat (0 : Int)) (List.take (Int.toNat x.2.2.1) x.2.1))) ++ x.2.2.2.2) + List.length (List.drop (Int.toNat (Go.IntKind.wrap .i64 (x.2.2.1 + (1 : Int)))) (List.take (Int.toNat (List.length x.2.1 : Int)) x.2.1))) * 24 < 140737488355328 then some ((((([] : List ye) ++ (List.drop (Int.toNat (0 : Int)) (List.take (Int.toNat x.2.2.1) x.1))) ++ x.2.2.2.1) ++ (List.drop (Int.toNat (Go.IntKind.wrap .i64 (x.2.2.1 + (1 : Int)))) (List.take (Int.toNat (List.length x.1 : Int)) x.1))), (((([] : List y0) ++ (List.drop (Int.toNat (0 : Int)) (List.take (Int.toNat x.2.2.1) x.2.1))) ++ x.2.2.2.2) ++ (List.drop (Int.toNat (Go.IntKind.wrap .i64 (x.2.2.1 + (1 : Int)))) (List.take (Int.toNat (List.length x.2.1 : Int)) x.2.1)))) else none else none else none else none else none else none else none else none else none else none else none else none else none else none else none else none else none else none
theorem yCI : EV [] lpN 229 Tryz.f229 ytA yzI Qe w5 := fun x => by kernel_rfl
def yIi : QF := ⟨229, w5, okN (n := 0) Tryz.func229 trivial yCI⟩
abbrev qb : Type := yq9
def kt (k0 : Int → Option R) (k1 : Unit → Option R) (again : qb → Option R) (t2 : qb) : Option R :=
 bif (decide ((Go.IntKind.wrap .i64 (t2.1 + (1 : Int))) < (List.length t2.2.2 : Int))) then if (0 : Int) ≤ t2.1 then if t2.1 < (List.length t2.2.2 : Int) then Option.bind (yE (yg t2.2.2 t2.1)) fun r1 => if (0 : Int) ≤ (Go.IntKind.wrap .i64 (t2.1 + (1 : Int))) then if (Go.IntKind.wrap .i64 (t2.1 + (1 : Int))) < (List.length t2.2.2 : Int) then Option.bind (yE (yg t2.2.2 (Go.IntKind.wrap .i64 (t2.1 + (1 : Int))))) fun r2 => bif (decide ((Go.IntKind.wrap .i64 ((List.length r1 : Int) + (List.length r2 : Int))) ≤ (6 : Int))) then k0 t2.1 else again ((Go.IntKind.wrap .i64 (t2.1 + (1 : Int))), t2.2.1, t2.2.2) else none else none else none else none else k1 ()
def y0X k0 k1 := zh (@kt R k0 k1) zu
def wD (x : ycq) : Option Int :=
 y0X (fun x3 => some x3) (fun x4 => some (-1 : Int)) ((0 : Int), x.1, x.2)
def yoE : List QF := [ynZ]
def y8U (t : yq9) : St := ⟨.dead :: .box 1 0 :: .dead :: vI t.1 :: dd 26 [], [(1, .box [zc t.2.1, yw t.2.2])]⟩
def ym2 : Gk qb := fun κ => kt (fun t => κ none ⟨dd 2 (vI t :: dd 27 []), []⟩) (fun t => κ (some 0) ⟨dd 30 [], []⟩)
def yoF : Lp := lpC 2 (unG yqa y8U) @ym2 lpN
theorem ywG : LF yoE yoF 310 2 Tryz.f310 0 y8U @ym2 fun t => t := fun R κ again t => by kernel_rfl
theorem ywH : LK yoE yoF 310 Tryz.f310 0 := lkN (u := (unG yqa y8U)) (yo fun t => by kernel_rfl) ywG
theorem yCJ : EV yoE yoF 310 Tryz.f310 ytB Qe [(.int .i64)] wD := fun x => by kernel_rfl
def yIj : QF := ⟨310, wD, okN (n := 1) Tryz.func310 ⟨ywH, trivial⟩ yCJ⟩
abbrev qc : Type := yq9
def ku (k0 : ycq → Option R) (again : qc → Option R) (t2 : qc) : Option R :=
 bif (decide (t2.1 ≥ (0 : Int))) then if (0 : Int) ≤ t2.1 then if t2.1 < (List.length t2.2.2 : Int) then Option.bind (yE (yg t2.2.2 t2.1)) fun r2 => if (0 : Int) ≤ (Go.IntKind.wrap .i64 (t2.1 + (1 : Int))) then if (Go.IntKind.wrap .i64 (t2.1 + (1 : Int))) < (List.length t2.2.2 : Int) then Option.bind (yE (yg t2.2.2 (Go.IntKind.wrap .i64 (t2.1 + (1 : Int))))) fun r3 => if (List.length r2 + List.length r3) * 40 < 140737488355328 then if (0 : Int) ≤ (0 : Int) then if (0 : Int) ≤ (Go.IntKind.wrap .i64 (t2.1 + (1 : Int))) then if (Go.IntKind.wrap .i64 (t2.1 + (1 : Int))) ≤ (List.length t2.2.1 : Int) then if (List.length ([] : List ye) + List.length (List.drop (Int.toNat (0 : Int)) (List.take (Int.toNat (Go.IntKind.wrap .i64 (t2.1 + (1 : Int)))) t2.2.1))) * 8 < 140737488355328 then if (0 : Int) ≤ (Go.IntKind.wrap .i64 (t2.1 + (2 : Int))) then if (Go.IntKind.wrap .i64 (t2.1 + (2 : Int))) ≤ (List.length t2.2.1 : Int) then if (List.length t2.2.1 : Int) ≤ (List.length t2.2.1 : Int) then if (List.length (([] : List ye) ++ (List.drop (Int.toNat (0 : Int)) (List.take (Int.toNat (Go.IntKind.wrap .i64 (t2.1 + (1 : Int)))) t2.2.1))) + List.length (List.drop (Int.toNat (Go.IntKind.wrap .i64 (t2.1 + (2 : Int)))) (List.take (Int.toNat (List.length t2.2.1 : Int)) t2.2.1))) * 8 < 140737488355328 then if (0 : Int) ≤ (0 : Int) then if (0 : Int) ≤ t2.1 then if t2.1 ≤ (List.length t2.2.2 : Int) then if (List.length ([] : List y0) + List.length (List.drop (Int.toNat (0 : Int)) (List.take (Int.toNat t2.1) t2.2.2))) * 24 < 140737488355328 then Option.bind (yY (r2 ++ r3)) fun r4 => if (List.length (([] : List y0) ++ (List.drop (Int.toNat (0 : Int)) (List.take (Int.toNat t2.1) t2.2.2))) + List.length ([r4] : List y0)) * 24 < 140737488355328 then if (0 : Int) ≤ (Go.IntKind.wrap .i64 (t2.1 + (2 : Int))) then if (Go.IntKind.wrap .i64 (t2.1 + (2 : Int))) ≤ (List.length t2.2.2 : Int) then if (List.length t2.2.2 : Int) ≤ (List.length t2.2.2 : Int) then if (List.length ((([] : List y0) ++ (List.drop (Int.toNat (0 : Int)) (List.take (Int.toNat t2.1) t2.2.2))) ++ ([r4] : List y0)) + List.length (List.drop (Int.toNat (Go.IntKind.wrap .i64 (t2.1 + (2 : Int)))) (List.take (Int.toNat (List.length t2.2.2 : Int)) t2.2.2))) * 24 < 140737488355328 then Option.bind (wD (((([] : List ye) ++ (List.drop (Int.toNat (0 : Int)) (List.take (Int.toNat (Go.IntKind.wrap .i64 (t2.1 + (1 : Int)))) t2.2.1))) ++ (List.drop (Int.toNat (Go.IntKind.wrap .i64 (t2.1 + (2 : Int)))) (List.take (Int.toNat (List.length t2.2.1 : Int)) t2.2.1))), (((([] : List y0) ++ (List.drop (Int.toNat (0 : Int)) (List.take (Int.toNat t2.1) t2.2.2))) ++ ([r4] : List y0)) ++ (List.drop (Int.toNat (Go.IntKind.wrap .i64 (t2.1 + (2 : Int)))) (List.take (Int.toNat (List.length t2.2.2 : Int)) t2.2.2))))) fun r5 => again (r5, ((([] : List ye) ++ (List.drop (Int.toNat (0 : Int)) (List.take (Int.toNat (Go.IntKind.wrap .i64 (t2.1 + (1 : Int)))) t2.2.1))) ++ (List.drop (Int.toNat (Go.IntKind.wrap .i64 (t2.1 + (2 : Int)))) (List.take (Int.toNat (List.length t2.2.1 : Int)) t2.2.1))), (((([] : List y0) ++ (List.drop (Int.toNat (0 : Int)) (List.take (Int.toNat t2.1) t2.2.2))) ++ ([r4] : List y0)) ++ (List.drop (Int.toNat (Go.IntKind.wrap .i64 (t2.1 + (2 : Int)))) (List.take (Int.toNat (List.length t2.2.2 : Int)) t2.2.2)))) else none else none else none else none else none else none else none else none else none else none else none else none else none else none else none else none else none else none else none else none else none else none else k0 t2.2
def y0Y k0 := zh (@ku R k0) zu
def Zz (x : ycq) : Option ycq :=
 Option.bind (wD x) fun r1 => y0Y (fun x6 => some x6) (r1, x)
def yoG : List QF := [ynZ, yz2, yIj]
def y8V (t : yq9) : St := ⟨.dead :: .box 1 0 :: .box 2 0 :: vI t.1 :: dd 56 [], [(1, .box [.own 10000000, .own 10000001]), (2, .box [.nils, .nils]), (10000000, .root true 3 yh t.2.1), (10000001, .root true 140 yj t.2.2)]⟩
def ym3 : Gk qc := fun κ => ku (fun t => κ (some 0) ⟨.dead :: .box 1 0 :: .box 2 0 :: dd 57 [], [(1, .box [.own 10000000, .own 10000001]), (2, .box [.nils, .nils]), (10000000, .root true 3 yh t.1), (10000001, .root true 140 yj t.2)]⟩)
def yoH : Lp := lpC 2 (unG yqa y8V) @ym3 lpN
theorem ywI : LF yoG yoH 235 2 Tryz.f235 0 y8V @ym3 fun t => t := fun R κ again t => by kernel_rfl
theorem ywJ : LK yoG yoH 235 Tryz.f235 0 := lkN (u := (unG yqa y8V)) (yo fun t => by kernel_rfl) ywI
theorem yCK : EV yoG yoH 235 Tryz.f235 ytC Qe Qe Zz := fun x => by kernel_rfl
def yIk : QF := ⟨235, Zz, okN (n := 1) Tryz.func235 ⟨ywJ, trivial⟩ yCK⟩
def zR (x : yzJ) : Option yzL :=
 Option.bind (Zu (x.1, x.2.1)) fun r1 => Option.bind (Yn (x.1, x.2.1)) fun r2 => Option.bind (bif (!r2) then some true else Option.bind (jM x.2.2) fun r4 => some (!r4)) fun u3 => bif u3 then some (r1.1, r1.2, false) else Option.bind (Jk (x.1, x.2.1, x.2.2.1, x.2.2.2.1)) fun r5 => if (0 : Int) ≤ r5 then if r5 < (List.length x.2.1 : Int) then Option.bind (YW ((yg x.2.1 r5), x.2.2.1, x.2.2.2.1, x.2.2.2.2.1, x.2.2.2.2.2.1, x.2.2.2.2.2.2)) fun r6 => if (0 : Int) ≤ r5 then if r5 < (List.length x.1 : Int) then Option.bind (w5 (r1.1, r1.2, r5, ([(zL x.1 r5)] : List ye), ([r6.1] : List y0))) fun r7 => bif (!r6.2) then if (0 : Int) ≤ r5 then if r5 < (List.length x.2.1 : Int) then Option.bind (yE (yg x.2.1 r5)) fun r8 => Option.bind (zC (r8, x.2.2)) fun r9 => Option.bind (Y6 r9) fun r10 => if (0 : Int) ≤ r5 then if r5 < (List.length x.1 : Int) then if (0 : Int) ≤ (Go.IntKind.wrap .i64 (Int.tdiv (Go.IntKind.wrap .i64 ((List.length r10 : Int) + (1 : Int))) (2 : Int))) then if (Go.IntKind.wrap .i64 (Int.tdiv (Go.IntKind.wrap .i64 ((List.length r10 : Int) + (1 : Int))) (2 : Int))) < (List.length r10 : Int) then Option.bind (wx ((y6 r10 (Go.IntKind.wrap .i64 (Int.tdiv (Go.IntKind.wrap .i64 ((List.length r10 : Int) + (1 : Int))) (2 : Int)))).1, (y6 r10 (Go.IntKind.wrap .i64 (Int.tdiv (Go.IntKind.wrap .i64 ((List.length r10 : Int) + (1 : Int))) (2 : Int)))).2.1, (y6 r10 (Go.IntKind.wrap .i64 (Int.tdiv (Go.IntKind.wrap .i64 ((List.length r10 : Int) + (1 : Int))) (2 : Int)))).2.2.1, (y6 r10 (Go.IntKind.wrap .i64 (Int.tdiv (Go.IntKind.wrap .i64 ((List.length r10 : Int) + (1 : Int))) (2 : Int)))).2.2.2.1, (y6 r10 (Go.IntKind.wrap .i64 (Int.tdiv (Go.IntKind.wrap .i64 ((List.length r10 : Int) + (1 : Int))) (2 : Int)))).2.2.2.2)) fun r11 => if (0 : Int) ≤ (0 : Int) then if (0 : Int) ≤ (Go.IntKind.wrap .i64 (Int.tdiv (Go.IntKind.wrap .i64 ((List.length r10 : Int) + (1 : Int))) (2 : Int))) then if (Go.IntKind.wrap .i64 (Int.tdiv (Go.IntKind.wrap .i64 ((List.length r10 : Int) + (1 : Int))) (2 : Int))) ≤ (List.length r10 : Int) then Option.bind (yY (List.drop (Int.toNat (0 : Int)) (List.take (Int.toNat (Go.IntKind.wrap .i64 (Int.tdiv (Go.IntKind.wrap .i64 ((List.length r10 : Int) + (1 : Int))) (2 : Int)))) r10))) fun r12 => if (0 : Int) ≤ (Go.IntKind.wrap .i64 (Int.tdiv (Go.IntKind.wrap .i64 ((List.length r10 : Int) + (1 : Int))) (2 : Int))) then if (Go.IntKind.wrap .i64 (Int.tdiv (Go.IntKind.wrap .i64 ((List.length r10 : Int) + (1 : Int))) (2 : Int))) ≤ (List.length r10 : Int) then if (List.length r10 : Int) ≤ (List.length r10 : Int) then Option.bind (yY (List.drop (Int.toNat (Go.IntKind.wrap .i64 (Int.tdiv (Go.IntKind.wrap .i64 ((List.length r10 : Int) + (1 : Int))) (2 : Int)))) (List.take (Int.toNat (List.length r10 : Int)) r10))) fun r13 => Option.bind (w5 (r1.1, r1.2, r5, ([(zL x.1 r5), r11] : List ye), ([r12, r13] : List y0))) fun r14 => Option.bind (Zz r14) fun r15 => Option.bind (Yn r15) fun r16 => bif (!r16) then some (r1.1, r1.2, false) else some (r15.1, r15.2, true) else none else none else none else none else none else none else none else none else none else none else none else none else Option.bind (bif (decide (r5 > (0 : Int))) then Option.bind (yE r6.1) fun r18 => some ((List.length r18 : Int) == (0 : Int)) else some false) fun u17 => bif u17 then Option.bind (w5 (r1.1, r1.2, r5, ([] : List ye), ([] : List y0))) fun r19 => Option.bind (Zz r19) fun r20 => Option.bind (Yn r20) fun r21 => bif (!r21) then some (r1.1, r1.2, false) else some (r20.1, r20.2, true) else Option.bind (Zz r7) fun r22 => Option.bind (Yn r22) fun r23 => bif (!r23) then some (r1.1, r1.2, false) else some (r22.1, r22.2, true) else none else none else none else none
theorem yCL : EV [yBD, yGw, yyZ, yGC, yGE, yIi, yBI, yyY, ynZ, yGu, yz2, yIk] lpN 104 Tryz.f104 ytD yzK yzM zR := fun x => by kernel_rfl
def yz3 : QF := ⟨104, zR, okN (n := 0) Tryz.func104 trivial yCL⟩
abbrev kv : Type := yqI
def kw (k0 : yqH → Option R) (k1 : yla → Option R) (again : kv → Option R) (t2 : kv) : Option R :=
 bif (decide (t2.2.2.1 ≥ (0 : Int))) then if (0 : Int) ≤ t2.2.2.1 then if t2.2.2.1 < (List.length t2.2.2.2.1 : Int) then Option.bind (WL ((yr t2.2.2.2.1 t2.2.2.1), t2.1, t2.2.1)) fun r1 => Option.bind (bif r1.2.2.2.2.2 then some (r1.2.2.1 == (0 : Int)) else some false) fun u2 => bif u2 then k0 (false, (0 : Int), (0 : Int), (0 : Int), (0 : Int), (0 : Int)) else bif r1.2.2.2.2.2 then k0 (true, r1.1, r1.2.1, r1.2.2.1, r1.2.2.2.1, r1.2.2.2.2.1) else again (t2.1, t2.2.1, (Go.IntKind.wrap .i64 (t2.2.2.1 - (1 : Int))), t2.2.2.2.1, t2.2.2.2.2.1, t2.2.2.2.2.2.1, t2.2.2.2.2.2.2.1, t2.2.2.2.2.2.2.2.1, t2.2.2.2.2.2.2.2.2) else none else none else k1 t2.2.2.2.2
def y0Z k0 k1 := zh (@kw R k0 k1) zu
def kx (x : yzN) : Option yf1 :=
 y0Z (fun x3 => some (x3.2.1, x3.2.2.1, x3.2.2.2.1, x3.2.2.2.2.1, x3.2.2.2.2.2, x3.1)) (fun x4 => some ((0 : Int), (0 : Int), (0 : Int), (0 : Int), (0 : Int), false)) (x.2.1, x.2.2, (Go.IntKind.wrap .i64 ((List.length x.1 : Int) - (1 : Int))), x.1, (0 : Int), (0 : Int), (0 : Int), (0 : Int), (0 : Int))
def yoI : List QF := [yGD]
def y8W (t : yqI) : St := ⟨.dead :: vI t.1 :: vI t.2.1 :: .box 3 0 :: dd 2 (.box 6 0 :: .dead :: vI t.2.2.1 :: dd 31 []), [(3, .box [Yc t.2.2.2.1]), (6, .box [vI t.2.2.2.2.1, vI t.2.2.2.2.2.1, vI t.2.2.2.2.2.2.1, vI t.2.2.2.2.2.2.2.1, vI t.2.2.2.2.2.2.2.2])]⟩
def ym4 : Gk kv := fun κ => kw (fun t => κ none ⟨dd 6 (.box 6 0 :: vB t.1 :: dd 32 []), [(6, .box [vI t.2.1, vI t.2.2.1, vI t.2.2.2.1, vI t.2.2.2.2.1, vI t.2.2.2.2.2])]⟩) (fun t => κ (some 0) ⟨dd 6 (.box 6 0 :: dd 33 []), [(6, .box [vI t.1, vI t.2.1, vI t.2.2.1, vI t.2.2.2.1, vI t.2.2.2.2])]⟩)
def yoJ : Lp := lpC 2 (unG yqJ y8W) @ym4 lpN
theorem ywK : LF yoI yoJ 336 2 Tryz.f336 0 y8W @ym4 fun t => t := fun R κ again t => by kernel_rfl
theorem ywL : LK yoI yoJ 336 Tryz.f336 0 := lkN (u := (unG yqJ y8W)) (yo fun t => by kernel_rfl) ywK
theorem yCM : EV yoI yoJ 336 Tryz.f336 ytE yzO yf2 kx := fun x => by kernel_rfl
def yIl : QF := ⟨336, kx, okN (n := 1) Tryz.func336 ⟨ywL, trivial⟩ yCM⟩
def jT (x : yqD) : Option yf1 :=
 Option.bind (Jk x) fun r1 => Option.bind (yB (r1, (0 : Int), (Go.IntKind.wrap .i64 ((List.length x.2.1 : Int) - (1 : Int))))) fun r2 => bif (!r2) then some ((0 : Int), (0 : Int), (0 : Int), (0 : Int), (0 : Int), false) else if (0 : Int) ≤ r1 then if r1 < (List.length x.2.1 : Int) then Option.bind (kx ((yg x.2.1 r1), x.2.2.1, x.2.2.2)) fun r3 => some r3 else none else none
theorem yCN : EV [q96, yGC, yIl] lpN 283 Tryz.f283 ytF yqE yf2 jT := fun x => by kernel_rfl
def yCO : QF := ⟨283, jT, okN (n := 0) Tryz.func283 trivial yCN⟩
def Zb (x : yyU) : Option (List y8) :=
 Option.bind (YQ x.1) fun r1 => Option.bind (ZR x.1) fun r2 => Option.bind (bif r2 then Option.bind (yB (x.2, (0 : Int), (Go.IntKind.wrap .i64 ((List.length x.1 : Int) - (1 : Int))))) fun r4 => some r4 else some false) fun u3 => Option.bind (bif u3 then if (0 : Int) ≤ x.2 then if x.2 < (List.length x.1 : Int) then some ((yp x.1 x.2).2.1) else none else none else some false) fun u5 => bif u5 then if (0 : Int) ≤ x.2 then if x.2 < (List.length x.1 : Int) then if (0 : Int) ≤ x.2 then if x.2 < (List.length r1 : Int) then some (List.set r1 (Int.toNat x.2) ((Int.tmod (Go.IntKind.wrap .i64 ((yp x.1 x.2).1 + (1 : Int))) (1000 : Int)), false, (0 : Int))) else none else none else none else none else some r1
theorem yCP : EV [q96, yBF, yC3] lpN 105 Tryz.f105 ytG yyV [(.sl 113 yd)] Zb := fun x => by kernel_rfl
def yCQ : QF := ⟨105, Zb, okN (n := 0) Tryz.func105 trivial yCP⟩
def Wc (x : yzP) : Option y6q :=
 Option.bind (bif x.2.2.2.2.2.2.2.2.2.2.2 then some (x.2.2.2.2.2.2.2.2.1 == (1 : Int)) else some false) fun u1 => bif u1 then Option.bind (Zb (x.2.2.2.1, x.2.2.2.2.2.2.2.2.2.1)) fun r2 => some (x.1, x.2.1, x.2.2.1, r2, x.2.2.2.2.1, x.2.2.2.2.2.1) else some (x.1, x.2.1, x.2.2.1, x.2.2.2.1, x.2.2.2.2.1, x.2.2.2.2.2.1)
theorem yCR : EV [yCQ] lpN 284 Tryz.f284 ytH yzQ jI Wc := fun x => by kernel_rfl
def yIm : QF := ⟨284, Wc, okN (n := 0) Tryz.func284 trivial yCR⟩
def zK (x : yiZ) : Option yn2 :=
 Option.bind (jT (x.1, x.2.1, x.2.2.2.2.2.2.1, x.2.2.2.2.2.2.2.1)) fun r1 => Option.bind (zR (x.1, x.2.1, x.2.2.2.2.2.2)) fun r2 => bif (!r2.2.2) then some (false, x.1, x.2.1, x.2.2.1, x.2.2.2.1, x.2.2.2.2.1, x.2.2.2.2.2.1) else Option.bind (Wc (r2.1, r2.2.1, x.2.2.1, x.2.2.2.1, x.2.2.2.2.1, x.2.2.2.2.2.1, r1)) fun r3 => some (true, r3)
theorem yCS : EV [yz3, yCO, yIm] lpN 183 Tryz.f183 ytI yj0 yzs zK := fun x => by kernel_rfl
def yCT : QF := ⟨183, zK, okN (n := 0) Tryz.func183 trivial yCS⟩
def WM (x : yzR) : Option ydF :=
 Option.bind (yq (x.1, x.2.1, x.2.2.1, x.2.2.2.1, x.2.2.2.2.1, x.2.2.2.2.2.1)) fun r1 => Option.bind (Za (x.1, x.2.1, x.2.2.1, x.2.2.2.1, x.2.2.2.2.1, x.2.2.2.2.2.1, x.2.2.2.2.2.2.1, x.2.2.2.2.2.2.2.1)) fun r2 => Option.bind (bif (r2 == (0 : Int)) then Option.bind (zw x.2.2.2.2.2.2.2.2) fun r4 => some (!r4) else some false) fun u3 => bif u3 then bif ((4 : Int) != (0 : Int)) then some (r1.1, r1.2.1, r1.2.2.1, r1.2.2.2.1, r1.2.2.2.2.1, r1.2.2.2.2.2, (4 : Int)) else Option.bind (Ys (x.2.2.2.1, x.2.2.2.2.2.2.2.2)) fun r5 => bif r5.2.2 then Option.bind (zs (x.1, x.2.1, x.2.2.1, x.2.2.2.1, x.2.2.2.2.1, x.2.2.2.2.2.1, x.2.2.2.2.2.2.1)) fun r6 => if (0 : Int) ≤ r6 then if r6 < (List.length x.2.2.2.2.1 : Int) then if (0 : Int) ≤ r5.2.1 then if r5.2.1 < (List.length r5.1 : Int) then Option.bind (zK (r1.1, r1.2.1, r1.2.2.1, r5.1, r1.2.2.2.2.1, r1.2.2.2.2.2, x.2.2.2.2.2.2.2.1, (yl x.2.2.2.2.1 r6).2.1, (1 : Int), r5.2.1, (yp r5.1 r5.2.1).1)) fun r7 => Option.bind (yV (x.1, x.2.1, x.2.2.1, x.2.2.2.1, x.2.2.2.2.1, x.2.2.2.2.2.1, r7.2.1, r7.2.2.1, r7.2.2.2.1, r7.2.2.2.2.1, r7.2.2.2.2.2.1, r7.2.2.2.2.2.2, r7.1)) fun r8 => some r8 else none else none else none else none else Option.bind (yV (x.1, x.2.1, x.2.2.1, x.2.2.2.1, x.2.2.2.2.1, x.2.2.2.2.2.1, r1.1, r1.2.1, r1.2.2.1, r5.1, r1.2.2.2.2.1, r1.2.2.2.2.2, false)) fun r9 => some r9 else bif (r2 != (0 : Int)) then some (r1.1, r1.2.1, r1.2.2.1, r1.2.2.2.1, r1.2.2.2.2.1, r1.2.2.2.2.2, r2) else Option.bind (Ys (x.2.2.2.1, x.2.2.2.2.2.2.2.2)) fun r10 => bif r10.2.2 then Option.bind (zs (x.1, x.2.1, x.2.2.1, x.2.2.2.1, x.2.2.2.2.1, x.2.2.2.2.2.1, x.2.2.2.2.2.2.1)) fun r11 => if (0 : Int) ≤ r11 then if r11 < (List.length x.2.2.2.2.1 : Int) then if (0 : Int) ≤ r10.2.1 then if r10.2.1 < (List.length r10.1 : Int) then Option.bind (zK (r1.1, r1.2.1, r1.2.2.1, r10.1, r1.2.2.2.2.1, r1.2.2.2.2.2, x.2.2.2.2.2.2.2.1, (yl x.2.2.2.2.1 r11).2.1, (1 : Int), r10.2.1, (yp r10.1 r10.2.1).1)) fun r12 => Option.bind (yV (x.1, x.2.1, x.2.2.1, x.2.2.2.1, x.2.2.2.2.1, x.2.2.2.2.2.1, r12.2.1, r12.2.2.1, r12.2.2.2.1, r12.2.2.2.2.1, r12.2.2.2.2.2.1, r12.2.2.2.2.2.2, r12.1)) fun r13 => some r13 else none else none else none else none else Option.bind (yV (x.1, x.2.1, x.2.2.1, x.2.2.2.1, x.2.2.2.2.1, x.2.2.2.2.2.1, r1.1, r1.2.1, r1.2.2.1, r10.1, r1.2.2.2.2.1, r1.2.2.2.2.2, false)) fun r14 => some r14
theorem yIn : EV [q94, yCB, ylA, yqe, yCD, yz0, yCT] lpN 66 Tryz.f66 yG8 yzS ydG WM := fun x => by kernel_rfl
def q66 : QF := ⟨66, WM, okN (n := 0) Tryz.func66 trivial yIn⟩
abbrev ky : Type := yqK
def kz (k0 : List ye → Option R) (again : ky → Option R) (t3 : ky) : Option R :=
 Option.bind (bif (decide (t3.2.1 ≥ (0 : Int))) then some (decide ((List.length t3.2.2 : Int) ≤ (List.length t3.1 : Int))) else some false) fun u2 => bif u2 then if (0 : Int) ≤ t3.2.1 then if t3.2.1 < (List.length t3.1 : Int) then if (List.length t3.2.2 + List.length ([(yG t3.1 t3.2.1).1] : List ye)) * 8 < 140737488355328 then if (0 : Int) ≤ t3.2.1 then if t3.2.1 < (List.length t3.1 : Int) then Option.bind (zP (t3.1, (yG t3.1 t3.2.1).2)) fun r3 => again (t3.1, r3, (t3.2.2 ++ ([(yG t3.1 t3.2.1).1] : List ye))) else none else none else none else none else none else k0 t3.2.2
def y10 k0 := zh (@kz R k0) zu
def wE (x : yiV) : Option (List ye) :=
 Option.bind (zP x) fun r1 => y10 (fun x4 => some x4) (x.1, r1, ([] : List ye))
def yoK : List QF := [yqd]
def y8X (t : yqK) : St := ⟨zk t.1 :: dd 4 (.own 10000000 :: vI t.2.1 :: dd 29 []), [(10000000, .root true 3 yh t.2.2)]⟩
def ym5 : Gk ky := fun κ => kz (fun t => κ (some 0) ⟨dd 5 (.own 10000000 :: dd 30 []), [(10000000, .root true 3 yh t)]⟩)
def yoL : Lp := lpC 3 (unG yqL y8X) @ym5 lpN
theorem ywM : LF yoK yoL 324 3 Tryz.f324 0 y8X @ym5 fun t => t := fun R κ again t => by kernel_rfl
theorem ywN : LK yoK yoL 324 Tryz.f324 0 := lkN (u := (unG yqL y8X)) (yo fun t => by kernel_rfl) ywM
theorem yCU : EV yoK yoL 324 Tryz.f324 ytJ yiW [(.sl 3 yh)] wE := fun x => by kernel_rfl
def yGF : QF := ⟨324, wE, okN (n := 1) Tryz.func324 ⟨ywN, trivial⟩ yCU⟩
abbrev qd : Type := yqM
def w6 (k0 : List y9 → Option R) (again : qd → Option R) (t4 : qd) : Option R :=
 bif (decide (t4.2.1 < (List.length t4.2.2.2 : Int))) then if (0 : Int) ≤ t4.2.1 then if t4.2.1 < (List.length t4.2.2.2 : Int) then bif ((y6 t4.2.2.2 t4.2.1).1 == t4.1) then if (0 : Int) ≤ t4.2.1 then if t4.2.1 < (List.length t4.2.2.2 : Int) then if (List.length t4.2.2.1 + List.length ([((y6 t4.2.2.2 t4.2.1).1, (y6 t4.2.2.2 t4.2.1).2.1, (y6 t4.2.2.2 t4.2.1).2.2.1, (y6 t4.2.2.2 t4.2.1).2.2.2.1, (y6 t4.2.2.2 t4.2.1).2.2.2.2)] : List y9)) * 40 < 140737488355328 then again (t4.1, (Go.IntKind.wrap .i64 (t4.2.1 + (1 : Int))), (t4.2.2.1 ++ ([((y6 t4.2.2.2 t4.2.1).1, (y6 t4.2.2.2 t4.2.1).2.1, (y6 t4.2.2.2 t4.2.1).2.2.1, (y6 t4.2.2.2 t4.2.1).2.2.2.1, (y6 t4.2.2.2 t4.2.1).2.2.2.2)] : List y9)), t4.2.2.2) else none else none else none else again (t4.1, (Go.IntKind.wrap .i64 (t4.2.1 + (1 : Int))), t4.2.2.1, t4.2.2.2) else none else none else k0 t4.2.2.1
def y11 k0 := zh (@w6 R k0) zu
def kA (x : yyD) : Option (List y9) :=
 Option.bind (yP (x.1, x.2.1)) fun r1 => y11 (fun x2 => some x2) (x.2.2, (0 : Int), ([] : List y9), r1)
def yoM : List QF := [yo2]
def y8Y (t : yqM) : St := ⟨.dead :: vI t.1 :: dd 3 (.own 10000000 :: .own 10000001 :: vI t.2.1 :: dd 24 []), [(10000000, .root true 64 yi t.2.2.1), (10000001, .root true 64 yi t.2.2.2)]⟩
def ym6 : Gk qd := fun κ => w6 (fun t => κ (some 0) ⟨dd 5 (.own 10000000 :: dd 26 []), [(10000000, .root true 64 yi t)]⟩)
def yoN : Lp := lpC 4 (unG yqN y8Y) @ym6 lpN
theorem ywO : LF yoM yoN 350 4 Tryz.f350 0 y8Y @ym6 fun t => t := fun R κ again t => by kernel_rfl
theorem ywP : LK yoM yoN 350 Tryz.f350 0 := lkN (u := (unG yqN y8Y)) (yo fun t => by kernel_rfl) ywO
theorem yCV : EV yoM yoN 350 Tryz.f350 ytK yyE [(.sl 64 yi)] kA := fun x => by kernel_rfl
def yIo : QF := ⟨350, kA, okN (n := 1) Tryz.func350 ⟨ywP, trivial⟩ yCV⟩
abbrev qX : Type := yqO
def Wd (k0 : Bool → Option R) (k1 : Unit → Option R) (again : qX → Option R) (t2 : qX) : Option R :=
 bif (decide (t2.2.2 < (List.length t2.1 : Int))) then if (0 : Int) ≤ t2.2.2 then if t2.2.2 < (List.length t2.1 : Int) then bif ((zL t2.1 t2.2.2) == t2.2.1) then k0 true else again (t2.1, t2.2.1, (Go.IntKind.wrap .i64 (t2.2.2 + (1 : Int)))) else none else none else k1 ()
def y1U k0 k1 := zh (@Wd R k0 k1) zu
def vK (x : yzT) : Option Bool :=
 y1U (fun x1 => some x1) (fun x2 => some false) (x.1, x.2, (0 : Int))
def yoO : List QF := []
def y8Z (t : yqO) : St := ⟨zc t.1 :: vI t.2.1 :: dd 3 (vI t.2.2 :: dd 12 []), []⟩
def ym7 : Gk qX := fun κ => Wd (fun t => κ none ⟨dd 4 (vB t :: dd 13 []), []⟩) (fun t => κ (some 0) ⟨dd 18 [], []⟩)
def yoP : Lp := lpC 2 (unG yqP y8Z) @ym7 lpN
theorem ywQ : LF yoO yoP 351 2 Tryz.f351 0 y8Z @ym7 fun t => t := fun R κ again t => by kernel_rfl
theorem ywR : LK yoO yoP 351 Tryz.f351 0 := lkN (u := (unG yqP y8Z)) (yo fun t => by kernel_rfl) ywQ
theorem yCW : EV yoO yoP 351 Tryz.f351 ytL yzU [.bool] vK := fun x => by kernel_rfl
def yIp : QF := ⟨351, vK, okN (n := 1) Tryz.func351 ⟨ywR, trivial⟩ yCW⟩
abbrev qe : Type := yqQ
def w7 (k0 : yzV → Option R) (again : qe → Option R) (t5 : qe) : Option R :=
 bif (decide (t5.2.2.1 < (List.length t5.2.2.2.2.2.2.2.2.2.2.2.2.2 : Int))) then if (0 : Int) ≤ t5.2.2.1 then if t5.2.2.1 < (List.length t5.2.2.2.2.2.2.2.2.2.2.2.2.2 : Int) then Option.bind (vK (t5.1, (y6 t5.2.2.2.2.2.2.2.2.2.2.2.2.2 t5.2.2.1).2.1)) fun r2 => Option.bind (bif r2 then Option.bind (bif (!t5.2.1) then some true else if (0 : Int) ≤ t5.2.2.1 then if t5.2.2.1 < (List.length t5.2.2.2.2.2.2.2.2.2.2.2.2.2 : Int) then some (decide ((y6 t5.2.2.2.2.2.2.2.2.2.2.2.2.2 t5.2.2.1).2.1 > t5.2.2.2.2.2.2.2.2.2.1)) else none else none) fun u4 => some u4 else some false) fun u3 => bif u3 then if (0 : Int) ≤ t5.2.2.1 then if t5.2.2.1 < (List.length t5.2.2.2.2.2.2.2.2.2.2.2.2.2 : Int) then again (t5.1, true, (Go.IntKind.wrap .i64 (t5.2.2.1 + (1 : Int))), t5.2.2.2.1, t5.2.2.2.2.1, t5.2.2.2.2.2.1, t5.2.2.2.2.2.2.1, t5.2.2.2.2.2.2.2.1, (y6 t5.2.2.2.2.2.2.2.2.2.2.2.2.2 t5.2.2.1).1, (y6 t5.2.2.2.2.2.2.2.2.2.2.2.2.2 t5.2.2.1).2.1, (y6 t5.2.2.2.2.2.2.2.2.2.2.2.2.2 t5.2.2.1).2.2.1, (y6 t5.2.2.2.2.2.2.2.2.2.2.2.2.2 t5.2.2.1).2.2.2.1, (y6 t5.2.2.2.2.2.2.2.2.2.2.2.2.2 t5.2.2.1).2.2.2.2, t5.2.2.2.2.2.2.2.2.2.2.2.2.2) else none else none else again (t5.1, t5.2.1, (Go.IntKind.wrap .i64 (t5.2.2.1 + (1 : Int))), t5.2.2.2.1, t5.2.2.2.2.1, t5.2.2.2.2.2.1, t5.2.2.2.2.2.2.1, t5.2.2.2.2.2.2.2.1, t5.2.2.2.2.2.2.2.2.1, t5.2.2.2.2.2.2.2.2.2.1, t5.2.2.2.2.2.2.2.2.2.2.1, t5.2.2.2.2.2.2.2.2.2.2.2.1, t5.2.2.2.2.2.2.2.2.2.2.2.2.1, t5.2.2.2.2.2.2.2.2.2.2.2.2.2) else none else none else k0 (t5.2.1, t5.2.2.2.1, t5.2.2.2.2.1, t5.2.2.2.2.2.1, t5.2.2.2.2.2.2.1, t5.2.2.2.2.2.2.2.1, t5.2.2.2.2.2.2.2.2.1, t5.2.2.2.2.2.2.2.2.2.1, t5.2.2.2.2.2.2.2.2.2.2.1, t5.2.2.2.2.2.2.2.2.2.2.2.1, t5.2.2.2.2.2.2.2.2.2.2.2.2.1)
def y12 k0 := zh (@w7 R k0) zu
def jU (x : yzW) : Option yf1 :=
 Option.bind (kA (x.1, x.2.1, x.2.2.1)) fun r1 => y12 (fun x5 => some (x5.2.2.2.2.2.2.1, x5.2.2.2.2.2.2.2.1, x5.2.2.2.2.2.2.2.2.1, x5.2.2.2.2.2.2.2.2.2.1, x5.2.2.2.2.2.2.2.2.2.2, x5.1)) (x.2.2.2, false, (0 : Int), (0 : Int), (0 : Int), (0 : Int), (0 : Int), (0 : Int), (0 : Int), (0 : Int), (0 : Int), (0 : Int), (0 : Int), r1)
def yoQ : List QF := [yIo, yIp]
def y90 (t : yqQ) : St := ⟨dd 2 (zc t.1 :: dd 3 (.box 6 0 :: .dead :: .box 8 0 :: vB t.2.1 :: .own 10000000 :: vI t.2.2.1 :: dd 37 [])), [(6, .box [vI t.2.2.2.1, vI t.2.2.2.2.1, vI t.2.2.2.2.2.1, vI t.2.2.2.2.2.2.1, vI t.2.2.2.2.2.2.2.1]), (8, .box [vI t.2.2.2.2.2.2.2.2.1, vI t.2.2.2.2.2.2.2.2.2.1, vI t.2.2.2.2.2.2.2.2.2.2.1, vI t.2.2.2.2.2.2.2.2.2.2.2.1, vI t.2.2.2.2.2.2.2.2.2.2.2.2.1]), (10000000, .root true 64 yi t.2.2.2.2.2.2.2.2.2.2.2.2.2)]⟩
def ym8 : Gk qe := fun κ => w7 (fun t => κ (some 0) ⟨dd 6 (.box 6 0 :: .dead :: .box 8 0 :: vB t.1 :: dd 39 []), [(6, .box [vI t.2.1, vI t.2.2.1, vI t.2.2.2.1, vI t.2.2.2.2.1, vI t.2.2.2.2.2.1]), (8, .box [vI t.2.2.2.2.2.2.1, vI t.2.2.2.2.2.2.2.1, vI t.2.2.2.2.2.2.2.2.1, vI t.2.2.2.2.2.2.2.2.2.1, vI t.2.2.2.2.2.2.2.2.2.2])]⟩)
def yoR : Lp := lpC 5 (unG yqR y90) @ym8 lpN
theorem ywS : LF yoQ yoR 325 5 Tryz.f325 0 y90 @ym8 fun t => t := fun R κ again t => by kernel_rfl
theorem ywT : LK yoQ yoR 325 Tryz.f325 0 := lkN (u := (unG yqR y90)) (yo fun t => by kernel_rfl) ywS
theorem yCX : EV yoQ yoR 325 Tryz.f325 ytM yzX yf2 jU := fun x => by kernel_rfl
def yGG : QF := ⟨325, jU, okN (n := 1) Tryz.func325 ⟨ywT, trivial⟩ yCX⟩
def Zm (x : yqS) : Option yf1 :=
 Option.bind (wE (x.2.2.1, x.2.2.2.2)) fun r1 => bif ((List.length r1 : Int) == (0 : Int)) then some ((0 : Int), (0 : Int), (0 : Int), (0 : Int), (0 : Int), false) else if (0 : Int) ≤ (1 : Int) then if (1 : Int) ≤ (List.length r1 : Int) then if (List.length r1 : Int) ≤ (List.length r1 : Int) then Option.bind (jU (x.1, x.2.1, x.2.2.2.1, (List.drop (Int.toNat (1 : Int)) (List.take (Int.toNat (List.length r1 : Int)) r1)))) fun r2 => some r2 else none else none else none
theorem yCY : EV [yGF, yGG] lpN 257 Tryz.f257 ytN yqT yf2 Zm := fun x => by kernel_rfl
def yGH : QF := ⟨257, Zm, okN (n := 0) Tryz.func257 trivial yCY⟩
def Yf (x : yzY) : Option yn2 :=
 if (0 : Int) ≤ x.2.2.2.2.2.2.1 then if x.2.2.2.2.2.2.1 < (List.length x.2.2.2.2.1 : Int) then Option.bind (Zm (x.1, x.2.1, x.2.2.1, x.2.2.2.2.2.2.2, (yl x.2.2.2.2.1 x.2.2.2.2.2.2.1).2.1)) fun r1 => Option.bind (bif r1.2.2.2.2.2 then some (r1.2.2.1 == (1 : Int)) else some false) fun u2 => bif u2 then Option.bind (zK (x.1, x.2.1, x.2.2.1, x.2.2.2.1, x.2.2.2.2.1, x.2.2.2.2.2.1, x.2.2.2.2.2.2.2, (yl x.2.2.2.2.1 x.2.2.2.2.2.2.1).2.1, (2 : Int), (0 : Int), (0 : Int))) fun r3 => some r3 else Option.bind (jT (x.1, x.2.1, x.2.2.2.2.2.2.2, (yl x.2.2.2.2.1 x.2.2.2.2.2.2.1).2.1)) fun r4 => bif (!r4.2.2.2.2.2) then some (true, x.1, x.2.1, x.2.2.1, x.2.2.2.1, x.2.2.2.2.1, x.2.2.2.2.2.1) else Option.bind (zK (x.1, x.2.1, x.2.2.1, x.2.2.2.1, x.2.2.2.2.1, x.2.2.2.2.2.1, x.2.2.2.2.2.2.2, (yl x.2.2.2.2.1 x.2.2.2.2.2.2.1).2.1, (0 : Int), (0 : Int), (0 : Int))) fun r5 => some r5 else none else none
theorem yCZ : EV [yCT, yGH, yCO] lpN 186 Tryz.f186 ytO yzZ yzs Yf := fun x => by kernel_rfl
def yGI : QF := ⟨186, Yf, okN (n := 0) Tryz.func186 trivial yCZ⟩
def Jl (x : yyW) : Option ydF :=
 Option.bind (yq (x.1, x.2.1, x.2.2.1, x.2.2.2.1, x.2.2.2.2.1, x.2.2.2.2.2.1)) fun r1 => Option.bind (Za x) fun r2 => bif (r2 != (0 : Int)) then some (r1.1, r1.2.1, r1.2.2.1, r1.2.2.2.1, r1.2.2.2.2.1, r1.2.2.2.2.2, r2) else Option.bind (zs (x.1, x.2.1, x.2.2.1, x.2.2.2.1, x.2.2.2.2.1, x.2.2.2.2.2.1, x.2.2.2.2.2.2.1)) fun r3 => Option.bind (Yf (r1.1, r1.2.1, r1.2.2.1, r1.2.2.2.1, r1.2.2.2.2.1, r1.2.2.2.2.2, r3, x.2.2.2.2.2.2.2)) fun r4 => Option.bind (yV (x.1, x.2.1, x.2.2.1, x.2.2.2.1, x.2.2.2.2.1, x.2.2.2.2.2.1, r4.2.1, r4.2.2.1, r4.2.2.2.1, r4.2.2.2.2.1, r4.2.2.2.2.2.1, r4.2.2.2.2.2.2, r4.1)) fun r5 => some r5
theorem yIq : EV [q94, ylA, yqe, yCD, yGI] lpN 70 Tryz.f70 yG9 yyX ydG Jl := fun x => by kernel_rfl
def q70 : QF := ⟨70, Jl, okN (n := 0) Tryz.func70 trivial yIq⟩
abbrev Wr : Type := ygg ⊕ ygh
def Jb (k0 : yA0 → Option R) (k1 : yA1 → Option R) (again : Wr → Option R) : Wr → Option R
 | .inl t10 => Option.bind (bif (decide (t10.2.2.2.1 ≥ t10.1)) then some t10.2.2.1 else some false) fun u15 => bif u15 then Option.bind (Yf (t10.2.2.2.2.2.2.2.2.2.2.2.2.1, t10.2.2.2.2.2.2.2.2.2.2.2.2.2.1, t10.2.2.2.2.2.2.2.2.2.2.2.2.2.2.1, t10.2.2.2.2.2.2.2.2.2.2.2.2.2.2.2.1, t10.2.2.2.2.2.2.2.2.2.2.2.2.2.2.2.2, t10.2.2.2.2.2.2.2.2.2.2.2.1, t10.2.1, t10.2.2.2.1)) fun r16 => again (Sum.inr (t10.1, t10.2.1, r16.1, (Go.IntKind.wrap .i64 (t10.2.2.2.1 - (1 : Int))), t10.2.2.2.2.1, t10.2.2.2.2.2.1, t10.2.2.2.2.2.2.1, t10.2.2.2.2.2.2.2.1, t10.2.2.2.2.2.2.2.2.1, t10.2.2.2.2.2.2.2.2.2.1, t10.2.2.2.2.2.2.2.2.2.2.1, r16.2.1, r16.2.2.1, r16.2.2.2.1, r16.2.2.2.2.2.2, r16.2.2.2.2.1, r16.2.2.2.2.2.1)) else k0 (t10.1, t10.2.1, t10.2.2.1, t10.2.2.2.2)
 | .inr t10 => Option.bind (bif (decide (t10.2.2.2.1 ≥ t10.1)) then some t10.2.2.1 else some false) fun u17 => bif u17 then Option.bind (Yf (t10.2.2.2.2.2.2.2.2.2.2.2.1, t10.2.2.2.2.2.2.2.2.2.2.2.2.1, t10.2.2.2.2.2.2.2.2.2.2.2.2.2.1, t10.2.2.2.2.2.2.2.2.2.2.2.2.2.2.2.1, t10.2.2.2.2.2.2.2.2.2.2.2.2.2.2.2.2, t10.2.2.2.2.2.2.2.2.2.2.2.2.2.2.1, t10.2.1, t10.2.2.2.1)) fun r18 => again (Sum.inr (t10.1, t10.2.1, r18.1, (Go.IntKind.wrap .i64 (t10.2.2.2.1 - (1 : Int))), t10.2.2.2.2.1, t10.2.2.2.2.2.1, t10.2.2.2.2.2.2.1, t10.2.2.2.2.2.2.2.1, t10.2.2.2.2.2.2.2.2.1, t10.2.2.2.2.2.2.2.2.2.1, t10.2.2.2.2.2.2.2.2.2.2.1, r18.2.1, r18.2.2.1, r18.2.2.2.1, r18.2.2.2.2.2.2, r18.2.2.2.2.1, r18.2.2.2.2.2.1)) else k1 (t10.1, t10.2.1, t10.2.2.1, t10.2.2.2.2)
def Ws k0 k1 := zh (@Jb R k0 k1) zu
def wF (x : yyW) : Option ydF :=
 Option.bind (yq (x.1, x.2.1, x.2.2.1, x.2.2.2.1, x.2.2.2.2.1, x.2.2.2.2.2.1)) fun r1 => Option.bind (Za (x.1, x.2.1, x.2.2.1, x.2.2.2.1, x.2.2.2.2.1, x.2.2.2.2.2.1, x.2.2.2.2.2.2.1, (0 : Int))) fun r2 => Option.bind (bif (r2 == (0 : Int)) then Option.bind (yB (x.2.2.2.2.2.2.2, (1 : Int), (12 : Int))) fun r4 => some (!r4) else some false) fun u3 => bif u3 then bif ((4 : Int) != (0 : Int)) then some (r1.1, r1.2.1, r1.2.2.1, r1.2.2.2.1, r1.2.2.2.2.1, r1.2.2.2.2.2, (4 : Int)) else Option.bind (zs (x.1, x.2.1, x.2.2.1, x.2.2.2.1, x.2.2.2.2.1, x.2.2.2.2.2.1, x.2.2.2.2.2.2.1)) fun r5 => if (0 : Int) ≤ r5 then if r5 < (List.length x.2.2.2.2.1 : Int) then Ws (fun x10 => if (0 : Int) ≤ x10.2.1 then if x10.2.1 < (List.length x10.2.2.2.2.2.2.2.2.2.2.2.2.2.2.2 : Int) then Option.bind (yV (x10.2.2.2.1, x10.2.2.2.2.1, x10.2.2.2.2.2.1, x10.2.2.2.2.2.2.1, x10.2.2.2.2.2.2.2.1, x10.2.2.2.2.2.2.2.2.1, x10.2.2.2.2.2.2.2.2.2.2.2.1, x10.2.2.2.2.2.2.2.2.2.2.2.2.1, x10.2.2.2.2.2.2.2.2.2.2.2.2.2.1, x10.2.2.2.2.2.2.2.2.2.2.2.2.2.2.1, (List.set x10.2.2.2.2.2.2.2.2.2.2.2.2.2.2.2 (Int.toNat x10.2.1) ((yl x10.2.2.2.2.2.2.2.2.2.2.2.2.2.2.2 x10.2.1).1, (yl x10.2.2.2.2.2.2.2.2.2.2.2.2.2.2.2 x10.2.1).2.1, x10.1, (yl x10.2.2.2.2.2.2.2.2.2.2.2.2.2.2.2 x10.2.1).2.2.2)), x10.2.2.2.2.2.2.2.2.2.2.1, x10.2.2.1)) fun r11 => some r11 else none else none) (fun x12 => if (0 : Int) ≤ x12.2.1 then if x12.2.1 < (List.length x12.2.2.2.2.2.2.2.2.2.2.2.2.2.2.2 : Int) then Option.bind (yV (x12.2.2.2.1, x12.2.2.2.2.1, x12.2.2.2.2.2.1, x12.2.2.2.2.2.2.1, x12.2.2.2.2.2.2.2.1, x12.2.2.2.2.2.2.2.2.1, x12.2.2.2.2.2.2.2.2.2.2.1, x12.2.2.2.2.2.2.2.2.2.2.2.1, x12.2.2.2.2.2.2.2.2.2.2.2.2.1, x12.2.2.2.2.2.2.2.2.2.2.2.2.2.2.1, (List.set x12.2.2.2.2.2.2.2.2.2.2.2.2.2.2.2 (Int.toNat x12.2.1) ((yl x12.2.2.2.2.2.2.2.2.2.2.2.2.2.2.2 x12.2.1).1, (yl x12.2.2.2.2.2.2.2.2.2.2.2.2.2.2.2 x12.2.1).2.1, x12.1, (yl x12.2.2.2.2.2.2.2.2.2.2.2.2.2.2.2 x12.2.1).2.2.2)), x12.2.2.2.2.2.2.2.2.2.2.2.2.2.1, x12.2.2.1)) fun r13 => some r13 else none else none) (Sum.inl (x.2.2.2.2.2.2.2, r5, true, (Go.IntKind.wrap .i64 ((yl x.2.2.2.2.1 r5).2.2.1 - (1 : Int))), x.1, x.2.1, x.2.2.1, x.2.2.2.1, x.2.2.2.2.1, x.2.2.2.2.2.1, (0 : Int), r1.2.2.2.2.2, r1.1, r1.2.1, r1.2.2.1, r1.2.2.2.1, r1.2.2.2.2.1)) else none else none else bif (r2 != (0 : Int)) then some (r1.1, r1.2.1, r1.2.2.1, r1.2.2.2.1, r1.2.2.2.2.1, r1.2.2.2.2.2, r2) else Option.bind (zs (x.1, x.2.1, x.2.2.1, x.2.2.2.1, x.2.2.2.2.1, x.2.2.2.2.2.1, x.2.2.2.2.2.2.1)) fun r14 => if (0 : Int) ≤ r14 then if r14 < (List.length x.2.2.2.2.1 : Int) then Ws (fun x19 => if (0 : Int) ≤ x19.2.1 then if x19.2.1 < (List.length x19.2.2.2.2.2.2.2.2.2.2.2.2.2.2.2 : Int) then Option.bind (yV (x19.2.2.2.1, x19.2.2.2.2.1, x19.2.2.2.2.2.1, x19.2.2.2.2.2.2.1, x19.2.2.2.2.2.2.2.1, x19.2.2.2.2.2.2.2.2.1, x19.2.2.2.2.2.2.2.2.2.2.2.1, x19.2.2.2.2.2.2.2.2.2.2.2.2.1, x19.2.2.2.2.2.2.2.2.2.2.2.2.2.1, x19.2.2.2.2.2.2.2.2.2.2.2.2.2.2.1, (List.set x19.2.2.2.2.2.2.2.2.2.2.2.2.2.2.2 (Int.toNat x19.2.1) ((yl x19.2.2.2.2.2.2.2.2.2.2.2.2.2.2.2 x19.2.1).1, (yl x19.2.2.2.2.2.2.2.2.2.2.2.2.2.2.2 x19.2.1).2.1, x19.1, (yl x19.2.2.2.2.2.2.2.2.2.2.2.2.2.2.2 x19.2.1).2.2.2)), x19.2.2.2.2.2.2.2.2.2.2.1, x19.2.2.1)) fun r20 => some r20 else none else none) (fun x21 => if (0 : Int) ≤ x21.2.1 then if x21.2.1 < (List.length x21.2.2.2.2.2.2.2.2.2.2.2.2.2.2.2 : Int) then Option.bind (yV (x21.2.2.2.1, x21.2.2.2.2.1, x21.2.2.2.2.2.1, x21.2.2.2.2.2.2.1, x21.2.2.2.2.2.2.2.1, x21.2.2.2.2.2.2.2.2.1, x21.2.2.2.2.2.2.2.2.2.2.1, x21.2.2.2.2.2.2.2.2.2.2.2.1, x21.2.2.2.2.2.2.2.2.2.2.2.2.1, x21.2.2.2.2.2.2.2.2.2.2.2.2.2.2.1, (List.set x21.2.2.2.2.2.2.2.2.2.2.2.2.2.2.2 (Int.toNat x21.2.1) ((yl x21.2.2.2.2.2.2.2.2.2.2.2.2.2.2.2 x21.2.1).1, (yl x21.2.2.2.2.2.2.2.2.2.2.2.2.2.2.2 x21.2.1).2.1, x21.1, (yl x21.2.2.2.2.2.2.2.2.2.2.2.2.2.2.2 x21.2.1).2.2.2)), x21.2.2.2.2.2.2.2.2.2.2.2.2.2.1, x21.2.2.1)) fun r22 => some r22 else none else none) (Sum.inl (x.2.2.2.2.2.2.2, r14, true, (Go.IntKind.wrap .i64 ((yl x.2.2.2.2.1 r14).2.2.1 - (1 : Int))), x.1, x.2.1, x.2.2.1, x.2.2.2.1, x.2.2.2.2.1, x.2.2.2.2.2.1, (0 : Int), r1.2.2.2.2.2, r1.1, r1.2.1, r1.2.2.1, r1.2.2.2.1, r1.2.2.2.2.1)) else none else none
def ywU : List QF := [q94, q96, ylA, yqe, yCD, yGI]
def y4i (t : ygg) : St := ⟨dd 2 (vI t.1 :: .box 3 0 :: dd 2 (.box 6 0 :: .dead :: .box 8 0 :: .dead :: vI t.2.1 :: vB t.2.2.1 :: vI t.2.2.2.1 :: dd 49 [])), [(3, .box [zc t.2.2.2.2.1, yw t.2.2.2.2.2.1, zk t.2.2.2.2.2.2.1, yI t.2.2.2.2.2.2.2.1, zM t.2.2.2.2.2.2.2.2.1, vI t.2.2.2.2.2.2.2.2.2.1]), (6, .box [.nils, .nils, .nils, .nils, .nils, vI t.2.2.2.2.2.2.2.2.2.2.1]), (8, .box [.own 10000000, .own 10000001, .own 10000002, .own 10000003, .own 10000004, vI t.2.2.2.2.2.2.2.2.2.2.2.1]), (10000000, .root true 3 yh t.2.2.2.2.2.2.2.2.2.2.2.2.1), (10000001, .root true 140 yj t.2.2.2.2.2.2.2.2.2.2.2.2.2.1), (10000002, .root true 146 ym t.2.2.2.2.2.2.2.2.2.2.2.2.2.2.1), (10000003, .root true 113 yd t.2.2.2.2.2.2.2.2.2.2.2.2.2.2.2.1), (10000004, .root true 46 yt t.2.2.2.2.2.2.2.2.2.2.2.2.2.2.2.2)]⟩
theorem yji : ∀ s t, unG yqU y4i s = some t → y4i t = s := yo fun t => by kernel_rfl
def y4j (t : ygh) : St := ⟨dd 2 (vI t.1 :: .box 3 0 :: dd 2 (.box 6 0 :: .dead :: .box 8 0 :: .dead :: vI t.2.1 :: vB t.2.2.1 :: vI t.2.2.2.1 :: dd 49 [])), [(3, .box [zc t.2.2.2.2.1, yw t.2.2.2.2.2.1, zk t.2.2.2.2.2.2.1, yI t.2.2.2.2.2.2.2.1, zM t.2.2.2.2.2.2.2.2.1, vI t.2.2.2.2.2.2.2.2.2.1]), (6, .box [.nils, .nils, .nils, .nils, .nils, vI t.2.2.2.2.2.2.2.2.2.2.1]), (8, .box [zc t.2.2.2.2.2.2.2.2.2.2.2.1, yw t.2.2.2.2.2.2.2.2.2.2.2.2.1, zk t.2.2.2.2.2.2.2.2.2.2.2.2.2.1, .own 10000000, .own 10000001, vI t.2.2.2.2.2.2.2.2.2.2.2.2.2.2.1]), (10000000, .root true 113 yd t.2.2.2.2.2.2.2.2.2.2.2.2.2.2.2.1), (10000001, .root true 46 yt t.2.2.2.2.2.2.2.2.2.2.2.2.2.2.2.2)]⟩
theorem yjj : ∀ s t, unG yqV y4j s = some t → y4j t = s := yo fun t => by kernel_rfl
def y4k : (ygg ⊕ ygh) → St := Sum.elim y4i y4j
def y91 (s : St) : Option (ygg ⊕ ygh) := ((unG yqU y4i s).map Sum.inl).or (((unG yqV y4j) s).map Sum.inr)
theorem yjk : ∀ s t, y91 s = some t → y4k t = s := y5h yji yjj
def ydO : Gk Wr := fun κ => Jb (fun t => κ (some 0) ⟨dd 2 (vI t.1 :: .box 3 0 :: dd 2 (.box 6 0 :: .dead :: .box 8 0 :: .dead :: vI t.2.1 :: vB t.2.2.1 :: dd 50 [])), [(3, .box [zc t.2.2.2.1, yw t.2.2.2.2.1, zk t.2.2.2.2.2.1, yI t.2.2.2.2.2.2.1, zM t.2.2.2.2.2.2.2.1, vI t.2.2.2.2.2.2.2.2.1]), (6, .box [.nils, .nils, .nils, .nils, .nils, vI t.2.2.2.2.2.2.2.2.2.1]), (8, .box [.own 10000000, .own 10000001, .own 10000002, .own 10000003, .own 10000004, vI t.2.2.2.2.2.2.2.2.2.2.1]), (10000000, .root true 3 yh t.2.2.2.2.2.2.2.2.2.2.2.1), (10000001, .root true 140 yj t.2.2.2.2.2.2.2.2.2.2.2.2.1), (10000002, .root true 146 ym t.2.2.2.2.2.2.2.2.2.2.2.2.2.1), (10000003, .root true 113 yd t.2.2.2.2.2.2.2.2.2.2.2.2.2.2.1), (10000004, .root true 46 yt t.2.2.2.2.2.2.2.2.2.2.2.2.2.2.2)]⟩) (fun t => κ (some 0) ⟨dd 2 (vI t.1 :: .box 3 0 :: dd 2 (.box 6 0 :: .dead :: .box 8 0 :: .dead :: vI t.2.1 :: vB t.2.2.1 :: dd 50 [])), [(3, .box [zc t.2.2.2.1, yw t.2.2.2.2.1, zk t.2.2.2.2.2.1, yI t.2.2.2.2.2.2.1, zM t.2.2.2.2.2.2.2.1, vI t.2.2.2.2.2.2.2.2.1]), (6, .box [.nils, .nils, .nils, .nils, .nils, vI t.2.2.2.2.2.2.2.2.2.1]), (8, .box [zc t.2.2.2.2.2.2.2.2.2.2.1, yw t.2.2.2.2.2.2.2.2.2.2.2.1, zk t.2.2.2.2.2.2.2.2.2.2.2.2.1, .own 10000000, .own 10000001, vI t.2.2.2.2.2.2.2.2.2.2.2.2.2.1]), (10000000, .root true 113 yd t.2.2.2.2.2.2.2.2.2.2.2.2.2.2.1), (10000001, .root true 46 yt t.2.2.2.2.2.2.2.2.2.2.2.2.2.2.2)]⟩)
def ywV : Lp := lpC 10 y91 @ydO lpN
theorem yjl : LF ywU ywV 73 10 Tryz.f73 0 y4k @ydO fun v : ygg => .inl v := fun R κ again v => by kernel_rfl
theorem yjm : LF ywU ywV 73 10 Tryz.f73 0 y4k @ydO fun v : ygh => .inr v := fun R κ again v => by kernel_rfl
theorem ywW : LF ywU ywV 73 10 Tryz.f73 0 y4k @ydO fun t => t := (LC.sum yjl yjm)
theorem ywX : LK ywU ywV 73 Tryz.f73 0 := lkN (u := y91) yjk ywW
theorem yIr : EV ywU ywV 73 Tryz.f73 yGa yyX ydG wF := fun x => by kernel_rfl
def q73 : QF := ⟨73, wF, okN (n := 1) Tryz.func73 ⟨ywX, trivial⟩ yIr⟩
def YX (x : yqW) : Option Bool :=
 bif (x.1 == (2 : Int)) then Option.bind (bif (x.2.2.2.1 == (0 : Int)) then Option.bind (yB (x.2.2.2.2, (0 : Int), (1 : Int))) fun r2 => some r2 else some false) fun u1 => some u1 else bif (x.1 == (3 : Int)) then bif (x.1 == (3 : Int)) then Option.bind (bif (x.2.2.2.1 == (0 : Int)) then some (x.2.2.2.2 == (0 : Int)) else some false) fun u3 => some u3 else bif (x.1 == (4 : Int)) then some true else some (x.2.2.2.2 == (0 : Int)) else bif (x.1 == (7 : Int)) then Option.bind (bif (x.2.2.2.1 == (0 : Int)) then some (x.2.2.2.2 == (0 : Int)) else some false) fun u4 => some u4 else bif (x.1 == (4 : Int)) then some true else some (x.2.2.2.2 == (0 : Int))
theorem yD0 : EV [q96] lpN 346 Tryz.f346 ytP ycr [.bool] YX := fun x => by kernel_rfl
def yIs : QF := ⟨346, YX, okN (n := 0) Tryz.func346 trivial yD0⟩
def qf (x : yqW) : Option Bool :=
 Option.bind (Yo x.2.1) fun r1 => bif (decide (x.1 ≥ (7 : Int))) then bif (x.1 == (2 : Int)) then Option.bind (Yo x.2.2.1) fun r2 => Option.bind (yB (x.1, (1 : Int), (9 : Int))) fun r3 => Option.bind (bif r3 then some ((ByteArray.toList x.2.1) == (ByteArray.toList ({ data := #[] }))) else some false) fun u4 => Option.bind (bif u4 then some r2 else some false) fun u5 => Option.bind (bif u5 then Option.bind (zw x.2.2.2.1) fun r7 => some r7 else some false) fun u6 => Option.bind (bif u6 then Option.bind (zw x.2.2.2.2) fun r9 => some r9 else some false) fun u8 => Option.bind (bif u8 then Option.bind (YX x) fun r11 => some r11 else some false) fun u10 => some u10 else Option.bind (yB (x.1, (1 : Int), (9 : Int))) fun r12 => Option.bind (bif r12 then some ((ByteArray.toList x.2.1) == (ByteArray.toList ({ data := #[] }))) else some false) fun u13 => Option.bind (bif u13 then some ((ByteArray.toList x.2.2.1) == (ByteArray.toList ({ data := #[] }))) else some false) fun u14 => Option.bind (bif u14 then Option.bind (zw x.2.2.2.1) fun r16 => some r16 else some false) fun u15 => Option.bind (bif u15 then Option.bind (zw x.2.2.2.2) fun r18 => some r18 else some false) fun u17 => Option.bind (bif u17 then Option.bind (YX x) fun r20 => some r20 else some false) fun u19 => some u19 else bif (x.1 == (2 : Int)) then Option.bind (Yo x.2.2.1) fun r21 => Option.bind (yB (x.1, (1 : Int), (9 : Int))) fun r22 => Option.bind (bif r22 then some r1 else some false) fun u23 => Option.bind (bif u23 then some r21 else some false) fun u24 => Option.bind (bif u24 then Option.bind (zw x.2.2.2.1) fun r26 => some r26 else some false) fun u25 => Option.bind (bif u25 then Option.bind (zw x.2.2.2.2) fun r28 => some r28 else some false) fun u27 => Option.bind (bif u27 then Option.bind (YX x) fun r30 => some r30 else some false) fun u29 => some u29 else Option.bind (yB (x.1, (1 : Int), (9 : Int))) fun r31 => Option.bind (bif r31 then some r1 else some false) fun u32 => Option.bind (bif u32 then some ((ByteArray.toList x.2.2.1) == (ByteArray.toList ({ data := #[] }))) else some false) fun u33 => Option.bind (bif u33 then Option.bind (zw x.2.2.2.1) fun r35 => some r35 else some false) fun u34 => Option.bind (bif u34 then Option.bind (zw x.2.2.2.2) fun r37 => some r37 else some false) fun u36 => Option.bind (bif u36 then Option.bind (YX x) fun r39 => some r39 else some false) fun u38 => some u38
theorem yD1 : EV [q96, yz1, yz0, yIs] lpN 314 Tryz.f314 ytQ ycr [.bool] qf := fun x => by kernel_rfl
def yIt : QF := ⟨314, qf, okN (n := 0) Tryz.func314 trivial yD1⟩
def kB (x : List y7) : Option (List y7) :=
 Option.bind (yE x) fun r1 => Option.bind (yY r1) fun r2 => some r2
theorem yD2 : EV [ynZ, yz2] lpN 217 Tryz.f217 ytR [(.sl 58 yn)] [(.sl 58 yn)] kB := fun x => by kernel_rfl
def yIu : QF := ⟨217, kB, okN (n := 0) Tryz.func217 trivial yD2⟩
def kC (x : yyD) : Option ycq :=
 Option.bind (Zu (x.1, x.2.1)) fun r1 => Option.bind (yB (x.2.2, (0 : Int), (Go.IntKind.wrap .i64 ((List.length x.2.1 : Int) - (1 : Int))))) fun r2 => bif r2 then if (0 : Int) ≤ x.2.2 then if x.2.2 < (List.length x.2.1 : Int) then Option.bind (kB (yg x.2.1 x.2.2)) fun r3 => if (0 : Int) ≤ x.2.2 then if x.2.2 < (List.length r1.2 : Int) then some (r1.1, (List.set r1.2 (Int.toNat x.2.2) r3)) else none else none else none else none else some r1
theorem yIv : EV [q96, yBD, yIu] lpN 97 Tryz.f97 yGb yyE Qe kC := fun x => by kernel_rfl
def q97 : QF := ⟨97, kC, okN (n := 0) Tryz.func97 trivial yIv⟩
def Zc (x : ydF) : Option yf3 :=
 Option.bind (yq (x.1, x.2.1, x.2.2.1, x.2.2.2.1, x.2.2.2.2.1, x.2.2.2.2.2.1)) fun r1 => Option.bind (yF (x.1, x.2.1, x.2.2.1, x.2.2.2.1, x.2.2.2.2.1, x.2.2.2.2.2.1)) fun r2 => Option.bind (bif (!r2) then some true else Option.bind (yB (x.2.2.2.2.2.2, (0 : Int), (Go.IntKind.wrap .i64 ((List.length x.2.1 : Int) - (1 : Int))))) fun r4 => some (!r4)) fun u3 => bif u3 then some (r1.1, r1.2.1, r1.2.2.1, r1.2.2.2.1, r1.2.2.2.2.1, r1.2.2.2.2.2, false) else Option.bind (kC (x.1, x.2.1, x.2.2.2.2.2.2)) fun r5 => some (r5.1, r5.2, r1.2.2.1, r1.2.2.2.1, r1.2.2.2.2.1, r1.2.2.2.2.2, true)
theorem yIw : EV [q94, q95, q96, q97] lpN 12 Tryz.f12 yGc ydG yf4 Zc := fun x => by kernel_rfl
def q12 : QF := ⟨12, Zc, okN (n := 0) Tryz.func12 trivial yIw⟩
abbrev kD : Type := yqX
def kE (k0 : yla → Option R) (k1 : yla → Option R) (again : kD → Option R) (t3 : kD) : Option R :=
 bif (decide (t3.2.1 < (List.length t3.2.2.2.2.2.2.2 : Int))) then if (0 : Int) ≤ t3.2.1 then if t3.2.1 < (List.length t3.2.2.2.2.2.2.2 : Int) then Option.bind (bif ((y6 t3.2.2.2.2.2.2.2 t3.2.1).2.2.1 == (1 : Int)) then if (0 : Int) ≤ t3.2.1 then if t3.2.1 < (List.length t3.2.2.2.2.2.2.2 : Int) then some ((y6 t3.2.2.2.2.2.2.2 t3.2.1).2.2.2.1 == t3.1) else none else none else some false) fun u2 => bif u2 then if (0 : Int) ≤ t3.2.1 then if t3.2.1 < (List.length t3.2.2.2.2.2.2.2 : Int) then k0 ((y6 t3.2.2.2.2.2.2.2 t3.2.1).1, (y6 t3.2.2.2.2.2.2.2 t3.2.1).2.1, (y6 t3.2.2.2.2.2.2.2 t3.2.1).2.2.1, (y6 t3.2.2.2.2.2.2.2 t3.2.1).2.2.2.1, (y6 t3.2.2.2.2.2.2.2 t3.2.1).2.2.2.2) else none else none else again (t3.1, (Go.IntKind.wrap .i64 (t3.2.1 + (1 : Int))), t3.2.2.1, t3.2.2.2.1, t3.2.2.2.2.1, t3.2.2.2.2.2.1, t3.2.2.2.2.2.2.1, t3.2.2.2.2.2.2.2) else none else none else k1 (t3.2.2.1, t3.2.2.2.1, t3.2.2.2.2.1, t3.2.2.2.2.2.1, t3.2.2.2.2.2.2.1)
def y13 k0 k1 := zh (@kE R k0 k1) zu
def kF (x : ydF) : Option yla :=
 Option.bind (yP (x.1, x.2.1)) fun r1 => y13 (fun x3 => some x3) (fun x4 => some ((0 : Int), (0 : Int), (0 : Int), (0 : Int), (0 : Int))) (x.2.2.2.2.2.2, (0 : Int), (0 : Int), (0 : Int), (0 : Int), (0 : Int), (0 : Int), r1)
def yoS : List QF := [yo2]
def y92 (t : yqX) : St := ⟨.dead :: vI t.1 :: dd 2 (.box 4 0 :: .own 10000000 :: vI t.2.1 :: dd 29 []), [(4, .box [vI t.2.2.1, vI t.2.2.2.1, vI t.2.2.2.2.1, vI t.2.2.2.2.2.1, vI t.2.2.2.2.2.2.1]), (10000000, .root true 64 yi t.2.2.2.2.2.2.2)]⟩
def ym9 : Gk kD := fun κ => kE (fun t => κ none ⟨dd 4 (.box 4 0 :: dd 31 []), [(4, .box [vI t.1, vI t.2.1, vI t.2.2.1, vI t.2.2.2.1, vI t.2.2.2.2])]⟩) (fun t => κ (some 0) ⟨dd 4 (.box 4 0 :: dd 31 []), [(4, .box [vI t.1, vI t.2.1, vI t.2.2.1, vI t.2.2.2.1, vI t.2.2.2.2])]⟩)
def yoT : Lp := lpC 3 (unG yqY y92) @ym9 lpN
theorem ywY : LF yoS yoT 102 3 Tryz.f102 0 y92 @ym9 fun t => t := fun R κ again t => by kernel_rfl
theorem ywZ : LK yoS yoT 102 Tryz.f102 0 := lkN (u := (unG yqY y92)) (yo fun t => by kernel_rfl) ywY
theorem yD3 : EV yoS yoT 102 Tryz.f102 ytS ydG QE kF := fun x => by kernel_rfl
def yIx : QF := ⟨102, kF, okN (n := 1) Tryz.func102 ⟨ywZ, trivial⟩ yD3⟩
def Zd (x : ydF) : Option yf3 :=
 Option.bind (yq (x.1, x.2.1, x.2.2.1, x.2.2.2.1, x.2.2.2.2.1, x.2.2.2.2.2.1)) fun r1 => Option.bind (yF (x.1, x.2.1, x.2.2.1, x.2.2.2.1, x.2.2.2.2.1, x.2.2.2.2.2.1)) fun r2 => Option.bind (bif (!r2) then some true else Option.bind (yB (x.2.2.2.2.2.2, (0 : Int), (Go.IntKind.wrap .i64 ((List.length x.2.2.2.1 : Int) - (1 : Int))))) fun r4 => some (!r4)) fun u3 => Option.bind (bif u3 then some true else if (0 : Int) ≤ x.2.2.2.2.2.2 then if x.2.2.2.2.2.2 < (List.length x.2.2.2.1 : Int) then some (!((yp x.2.2.2.1 x.2.2.2.2.2.2).2.1)) else none else none) fun u5 => bif u5 then some (r1.1, r1.2.1, r1.2.2.1, r1.2.2.2.1, r1.2.2.2.2.1, r1.2.2.2.2.2, false) else Option.bind (kF x) fun r6 => if (0 : Int) ≤ x.2.2.2.2.2.2 then if x.2.2.2.2.2.2 < (List.length x.2.2.2.1 : Int) then Option.bind (Ys (x.2.2.2.1, (yp x.2.2.2.1 x.2.2.2.2.2.2).2.2)) fun r7 => Option.bind (bif (!r7.2.2) then some true else some (decide (r7.2.1 > x.2.2.2.2.2.2))) fun u8 => bif u8 then some (r1.1, r1.2.1, r1.2.2.1, r1.2.2.2.1, r1.2.2.2.2.1, r1.2.2.2.2.2, false) else if (0 : Int) ≤ r7.2.1 then if r7.2.1 < (List.length r7.1 : Int) then Option.bind (zR (x.1, x.2.1, r6.1, r6.2.1, r6.2.2.1, r7.2.1, (yp r7.1 r7.2.1).1)) fun r9 => Option.bind (Zb (r7.1, x.2.2.2.2.2.2)) fun r10 => Option.bind (bif (!r9.2.2) then some true else Option.bind (yF (r9.1, r9.2.1, r1.2.2.1, r10, r1.2.2.2.2)) fun r12 => some (!r12)) fun u11 => bif u11 then Option.bind (yq (x.1, x.2.1, x.2.2.1, x.2.2.2.1, x.2.2.2.2.1, x.2.2.2.2.2.1)) fun r13 => some (r13.1, r13.2.1, r13.2.2.1, r13.2.2.2.1, r13.2.2.2.2.1, r13.2.2.2.2.2, false) else some (r9.1, r9.2.1, r1.2.2.1, r10, r1.2.2.2.2.1, r1.2.2.2.2.2, true) else none else none else none else none
theorem yIy : EV [q94, q95, q96, yIx, yCB, yz3, yCQ] lpN 15 Tryz.f15 yGd ydG yf4 Zd := fun x => by kernel_rfl
def q15 : QF := ⟨15, Zd, okN (n := 0) Tryz.func15 trivial yIy⟩
def qg (x : yqS) : Option yf1 :=
 Option.bind (wE (x.2.2.1, x.2.2.2.2)) fun r1 => Option.bind (jU (x.1, x.2.1, x.2.2.2.1, r1)) fun r2 => some r2
theorem yD4 : EV [yGF, yGG] lpN 265 Tryz.f265 ytT yqT yf2 qg := fun x => by kernel_rfl
def yIz : QF := ⟨265, qg, okN (n := 0) Tryz.func265 trivial yD4⟩
def qh (x : yA2) : Option Bool :=
 Option.bind (qg (x.1, x.2.1, x.2.2.1, x.2.2.2.1, x.2.2.2.2.2.2.2.2)) fun r1 => Option.bind (bif r1.2.2.2.2.2 then some (r1.2.1 == x.2.2.2.2.1) else some false) fun u2 => some u2
theorem yD5 : EV [yIz] lpN 149 Tryz.f149 ytU yA3 [.bool] qh := fun x => by kernel_rfl
def yIA : QF := ⟨149, qh, okN (n := 0) Tryz.func149 trivial yD5⟩
abbrev kG : Type := yqZ
def ZA (k0 : Bool → Option R) (k1 : Unit → Option R) (again : kG → Option R) (t2 : kG) : Option R :=
 bif (decide (t2.1 < (List.length t2.2.2.2.2.2.1 : Int))) then if (0 : Int) ≤ t2.1 then if t2.1 < (List.length t2.2.2.2.2.2.1 : Int) then Option.bind (bif (decide ((yl t2.2.2.2.2.2.1 t2.1).2.2.1 > t2.2.2.2.2.2.2.2.1)) then if (0 : Int) ≤ t2.1 then if t2.1 < (List.length t2.2.2.2.2.2.1 : Int) then Option.bind (qh (t2.2.1, t2.2.2.1, t2.2.2.2.1, t2.2.2.2.2.2.2.2.1, t2.2.2.2.2.2.2.2.2.1, t2.2.2.2.2.2.2.2.2.2.1, t2.2.2.2.2.2.2.2.2.2.2.1, t2.2.2.2.2.2.2.2.2.2.2.2, (yl t2.2.2.2.2.2.1 t2.1).2.1)) fun r2 => some r2 else none else none else some false) fun u1 => bif u1 then k0 true else again ((Go.IntKind.wrap .i64 (t2.1 + (1 : Int))), t2.2.1, t2.2.2.1, t2.2.2.2.1, t2.2.2.2.2.1, t2.2.2.2.2.2.1, t2.2.2.2.2.2.2.1, t2.2.2.2.2.2.2.2.1, t2.2.2.2.2.2.2.2.2.1, t2.2.2.2.2.2.2.2.2.2.1, t2.2.2.2.2.2.2.2.2.2.2.1, t2.2.2.2.2.2.2.2.2.2.2.2) else none else none else k1 ()
def qM k0 k1 := zh (@ZA R k0 k1) zu
def Jc (x : yiZ) : Option Bool :=
 qM (fun x3 => some x3) (fun x4 => some false) ((0 : Int), x.1, x.2.1, x.2.2.1, x.2.2.2.1, x.2.2.2.2.1, x.2.2.2.2.2.1, x.2.2.2.2.2.2.1, x.2.2.2.2.2.2.2.1, x.2.2.2.2.2.2.2.2.1, x.2.2.2.2.2.2.2.2.2.1, x.2.2.2.2.2.2.2.2.2.2)
def yD6 : List QF := [yIA]
def ycy (t : yqZ) : St := ⟨dd 2 (.box 2 0 :: .box 3 0 :: .dead :: vI t.1 :: dd 30 []), [(2, .box [zc t.2.1, yw t.2.2.1, zk t.2.2.2.1, yI t.2.2.2.2.1, zM t.2.2.2.2.2.1, vI t.2.2.2.2.2.2.1]), (3, .box [vI t.2.2.2.2.2.2.2.1, vI t.2.2.2.2.2.2.2.2.1, vI t.2.2.2.2.2.2.2.2.2.1, vI t.2.2.2.2.2.2.2.2.2.2.1, vI t.2.2.2.2.2.2.2.2.2.2.2])]⟩
def yx0 : Gk kG := fun κ => ZA (fun t => κ none ⟨dd 4 (vB t :: dd 31 []), []⟩) (fun t => κ (some 0) ⟨dd 36 [], []⟩)
def yD7 : Lp := lpC 2 (unG yr0 ycy) @yx0 lpN
theorem yD8 : LF yD6 yD7 41 2 Tryz.f41 0 ycy @yx0 fun t => t := fun R κ again t => by kernel_rfl
theorem yD9 : LK yD6 yD7 41 Tryz.f41 0 := lkN (u := (unG yr0 ycy)) (yo fun t => by kernel_rfl) yD8
theorem yIB : EV yD6 yD7 41 Tryz.f41 yGe yj0 [.bool] Jc := fun x => by kernel_rfl
def q41 : QF := ⟨41, Jc, okN (n := 1) Tryz.func41 ⟨yD9, trivial⟩ yIB⟩
abbrev QV : Type := yn4
def kH (k0 : Bool → Option R) (k1 : Unit → Option R) (again : QV → Option R) (t2 : QV) : Option R :=
 bif (decide (t2.2.1 < (List.length t2.2.2.2.2.2.2.1 : Int))) then if (0 : Int) ≤ t2.2.1 then if t2.2.1 < (List.length t2.2.2.2.2.2.2.1 : Int) then bif ((yl t2.2.2.2.2.2.2.1 t2.2.1).2.1 == t2.1) then k0 false else again (t2.1, (Go.IntKind.wrap .i64 (t2.2.1 + (1 : Int))), t2.2.2.1, t2.2.2.2.1, t2.2.2.2.2.1, t2.2.2.2.2.2.1, t2.2.2.2.2.2.2.1, t2.2.2.2.2.2.2.2) else none else none else k1 ()
def y2B k0 k1 := zh (@kH R k0 k1) zu
def KH (x : ydF) : Option Bool :=
 y2B (fun x1 => some x1) (fun x2 => some true) (x.2.2.2.2.2.2, (0 : Int), x.1, x.2.1, x.2.2.1, x.2.2.2.1, x.2.2.2.2.1, x.2.2.2.2.2.1)
def yoU : List QF := []
def y93 (t : yn4) : St := ⟨.dead :: vI t.1 :: .box 2 0 :: dd 2 (vI t.2.1 :: dd 15 []), [(2, .box [zc t.2.2.1, yw t.2.2.2.1, zk t.2.2.2.2.1, yI t.2.2.2.2.2.1, zM t.2.2.2.2.2.2.1, vI t.2.2.2.2.2.2.2])]⟩
def yma : Gk QV := fun κ => kH (fun t => κ none ⟨dd 4 (vB t :: dd 16 []), []⟩) (fun t => κ (some 0) ⟨dd 21 [], []⟩)
def yoV : Lp := lpC 2 (unG yr1 y93) @yma lpN
theorem yx1 : LF yoU yoV 259 2 Tryz.f259 0 y93 @yma fun t => t := fun R κ again t => by kernel_rfl
theorem yx2 : LK yoU yoV 259 Tryz.f259 0 := lkN (u := (unG yr1 y93)) (yo fun t => by kernel_rfl) yx1
theorem yDa : EV yoU yoV 259 Tryz.f259 ytV ydG [.bool] KH := fun x => by kernel_rfl
def yGJ : QF := ⟨259, KH, okN (n := 1) Tryz.func259 ⟨yx2, trivial⟩ yDa⟩
def ZB (x : ydF) : Option Int :=
 Option.bind (jQ (x.2.2.1, x.2.2.2.2.2.2)) fun r1 => Option.bind (KH x) fun r2 => Option.bind (bif (!r2) then some true else some ((List.length r1 : Int) != (1 : Int))) fun u3 => bif u3 then some (0 : Int) else if (0 : Int) ≤ (0 : Int) then if (0 : Int) < (List.length r1 : Int) then some (zL r1 (0 : Int)) else none else none
theorem yDb : EV [yGJ, yC6] lpN 142 Tryz.f142 ytW ydG [(.int .i64)] ZB := fun x => by kernel_rfl
def yGK : QF := ⟨142, ZB, okN (n := 0) Tryz.func142 trivial yDb⟩
def vt (x : yiZ) : Option Bool :=
 Option.bind (ZB (x.1, x.2.1, x.2.2.1, x.2.2.2.1, x.2.2.2.2.1, x.2.2.2.2.2.1, x.2.2.2.2.2.2.2.1)) fun r1 => bif (r1 == (0 : Int)) then some false else Option.bind (jT (x.1, x.2.1, x.2.2.2.2.2.2.1, r1)) fun r2 => some (!r2.2.2.2.2.2)
theorem yDc : EV [yGK, yCO] lpN 258 Tryz.f258 ytX yj0 [.bool] vt := fun x => by kernel_rfl
def yIC : QF := ⟨258, vt, okN (n := 0) Tryz.func258 trivial yDc⟩
def kI (x : yA4) : Option Bool :=
 bif (x.2.2.2.2.2.2.1 == (1 : Int)) then Option.bind (Jc (x.1, x.2.1, x.2.2.1, x.2.2.2.1, x.2.2.2.2.1, x.2.2.2.2.2.1, x.2.2.2.2.2.2.2)) fun r1 => some (!r1) else bif (x.2.2.2.2.2.2.1 == (2 : Int)) then Option.bind (Zm (x.1, x.2.1, x.2.2.1, x.2.2.2.2.2.2.2.1, x.2.2.2.2.2.2.2.2.1)) fun r2 => Option.bind (bif (x.2.2.2.2.2.2.2.2.2.1 == (2 : Int)) then some (!r2.2.2.2.2.2) else some false) fun u3 => some u3 else Option.bind (vt (x.1, x.2.1, x.2.2.1, x.2.2.2.1, x.2.2.2.2.1, x.2.2.2.2.2.1, x.2.2.2.2.2.2.2)) fun r4 => some r4
theorem yDd : EV [q41, yGH, yIC] lpN 138 Tryz.f138 ytY yA5 [.bool] kI := fun x => by kernel_rfl
def yID : QF := ⟨138, kI, okN (n := 0) Tryz.func138 trivial yDd⟩
abbrev qi : Type := yn3
def w8 (k0 : yA6 → Option R) (k1 : yie → Option R) (again : qi → Option R) (t3 : qi) : Option R :=
 bif (decide (t3.2.1 < (List.length t3.2.2.2.2.2.2.2.2 : Int))) then if (0 : Int) ≤ t3.2.1 then if t3.2.1 < (List.length t3.2.2.2.2.2.2.2.2 : Int) then bif ((y6 t3.2.2.2.2.2.2.2.2 t3.2.1).2.1 == t3.1) then k0 (t3.1, false, t3.2.2.1, t3.2.2.2.1, t3.2.2.2.2.1, t3.2.2.2.2.2.1, t3.2.2.2.2.2.2.1, t3.2.2.2.2.2.2.2.1) else again (t3.1, (Go.IntKind.wrap .i64 (t3.2.1 + (1 : Int))), t3.2.2.1, t3.2.2.2.1, t3.2.2.2.2.1, t3.2.2.2.2.2.1, t3.2.2.2.2.2.2.1, t3.2.2.2.2.2.2.2.1, t3.2.2.2.2.2.2.2.2) else none else none else k1 (t3.1, t3.2.2.1, t3.2.2.2.1, t3.2.2.2.2.1, t3.2.2.2.2.2.1, t3.2.2.2.2.2.2.1, t3.2.2.2.2.2.2.2.1)
def y14 k0 k1 := zh (@w8 R k0 k1) zu
def kJ (x : ydF) : Option Bool :=
 Option.bind (yP (x.1, x.2.1)) fun r1 => y14 (fun x2 => some x2.2.1) (fun x3 => Option.bind (KH (x3.2.1, x3.2.2.1, x3.2.2.2.1, x3.2.2.2.2.1, x3.2.2.2.2.2.1, x3.2.2.2.2.2.2, x3.1)) fun r4 => Option.bind (bif r4 then Option.bind (jQ (x3.2.2.2.1, x3.1)) fun r6 => some (decide ((List.length r6 : Int) ≤ (1 : Int))) else some false) fun u5 => some u5) (x.2.2.2.2.2.2, (0 : Int), x.1, x.2.1, x.2.2.1, x.2.2.2.1, x.2.2.2.2.1, x.2.2.2.2.2.1, r1)
def yoW : List QF := [yo2, yGJ, yC6]
def y94 (t : yn3) : St := ⟨.dead :: vI t.1 :: .box 2 0 :: dd 2 (.own 10000000 :: vI t.2.1 :: dd 27 []), [(2, .box [zc t.2.2.1, yw t.2.2.2.1, zk t.2.2.2.2.1, yI t.2.2.2.2.2.1, zM t.2.2.2.2.2.2.1, vI t.2.2.2.2.2.2.2.1]), (10000000, .root true 64 yi t.2.2.2.2.2.2.2.2)]⟩
def ymb : Gk qi := fun κ => w8 (fun t => κ none ⟨.dead :: vI t.1 :: .box 2 0 :: .dead :: vB t.2.1 :: dd 29 [], [(2, .box [zc t.2.2.1, yw t.2.2.2.1, zk t.2.2.2.2.1, yI t.2.2.2.2.2.1, zM t.2.2.2.2.2.2.1, vI t.2.2.2.2.2.2.2])]⟩) (fun t => κ (some 0) ⟨.dead :: vI t.1 :: .box 2 0 :: dd 31 [], [(2, .box [zc t.2.1, yw t.2.2.1, zk t.2.2.2.1, yI t.2.2.2.2.1, zM t.2.2.2.2.2.1, vI t.2.2.2.2.2.2])]⟩)
def yoX : Lp := lpC 3 (unG yqb y94) @ymb lpN
theorem yx3 : LF yoW yoX 139 3 Tryz.f139 0 y94 @ymb fun t => t := fun R κ again t => by kernel_rfl
theorem yx4 : LK yoW yoX 139 Tryz.f139 0 := lkN (u := (unG yqb y94)) (yo fun t => by kernel_rfl) yx3
theorem yDe : EV yoW yoX 139 Tryz.f139 ytZ ydG [.bool] kJ := fun x => by kernel_rfl
def yIE : QF := ⟨139, kJ, okN (n := 1) Tryz.func139 ⟨yx4, trivial⟩ yDe⟩
abbrev KI : Type := yn3
def jt (k0 : yzx → Option R) (k1 : yn5 → Option R) (again : KI → Option R) (t8 : KI) : Option R :=
 bif (decide (t8.2.1 < (List.length t8.2.2.2.2.2.2.2.2 : Int))) then if (0 : Int) ≤ t8.2.1 then if t8.2.1 < (List.length t8.2.2.2.2.2.2.2.2 : Int) then Option.bind (kI (t8.2.2.1, t8.2.2.2.1, t8.2.2.2.2.1, t8.2.2.2.2.2.1, t8.2.2.2.2.2.2.1, t8.2.2.2.2.2.2.2.1, t8.1, (y6 t8.2.2.2.2.2.2.2.2 t8.2.1).1, (y6 t8.2.2.2.2.2.2.2.2 t8.2.1).2.1, (y6 t8.2.2.2.2.2.2.2.2 t8.2.1).2.2.1, (y6 t8.2.2.2.2.2.2.2.2 t8.2.1).2.2.2.1, (y6 t8.2.2.2.2.2.2.2.2 t8.2.1).2.2.2.2)) fun r3 => bif r3 then k0 (t8.1, t8.2.1, t8.1, t8.2.2) else again (t8.1, (Go.IntKind.wrap .i64 (t8.2.1 + (1 : Int))), t8.2.2.1, t8.2.2.2.1, t8.2.2.2.2.1, t8.2.2.2.2.2.1, t8.2.2.2.2.2.2.1, t8.2.2.2.2.2.2.2.1, t8.2.2.2.2.2.2.2.2) else none else none else k1 (t8.1, t8.2.2)
def Qs k0 k1 := zh (@jt R k0 k1) zu
abbrev KJ : Type := yn5
def ju (k0 : yn4 → Option R) (k1 : y6q → Option R) (again : KJ → Option R) (t5 : KJ) : Option R :=
 bif (decide (t5.1 ≤ (3 : Int))) then Qs (fun x4 => k0 (x4.1, x4.2.1, x4.2.2.2.1, x4.2.2.2.2.1, x4.2.2.2.2.2.1, x4.2.2.2.2.2.2.1, x4.2.2.2.2.2.2.2.1, x4.2.2.2.2.2.2.2.2.1)) (fun x5 => again ((Go.IntKind.wrap .i64 (x5.1 + (1 : Int))), x5.2.1, x5.2.2.1, x5.2.2.2.1, x5.2.2.2.2.1, x5.2.2.2.2.2.1, x5.2.2.2.2.2.2.1, x5.2.2.2.2.2.2.2)) (t5.1, (0 : Int), t5.2.1, t5.2.2.1, t5.2.2.2.1, t5.2.2.2.2.1, t5.2.2.2.2.2.1, t5.2.2.2.2.2.2.1, t5.2.2.2.2.2.2.2) else k1 (t5.2.1, t5.2.2.1, t5.2.2.2.1, t5.2.2.2.2.1, t5.2.2.2.2.2.1, t5.2.2.2.2.2.2.1)
def Qt k0 k1 := zh (@ju R k0 k1) zu
abbrev kK : Type := yie
def ZC (k0 : yq6 → Option R) (k1 : Unit → Option R) (again : kK → Option R) (t13 : kK) : Option R :=
 bif (decide (t13.1 < (List.length t13.2.2.2.1 : Int))) then if (0 : Int) ≤ t13.1 then if t13.1 < (List.length t13.2.2.2.1 : Int) then Option.bind (kJ (t13.2.1, t13.2.2.1, t13.2.2.2.1, t13.2.2.2.2.1, t13.2.2.2.2.2.1, t13.2.2.2.2.2.2, (yG t13.2.2.2.1 t13.1).1)) fun r8 => bif r8 then k0 ((4 : Int), t13.1) else again ((Go.IntKind.wrap .i64 (t13.1 + (1 : Int))), t13.2.1, t13.2.2.1, t13.2.2.2.1, t13.2.2.2.2.1, t13.2.2.2.2.2.1, t13.2.2.2.2.2.2) else none else none else k1 ()
def qN k0 k1 := zh (@ZC R k0 k1) zu
def w9 (x : y6q) : Option yq6 :=
 Option.bind (yF x) fun r1 => bif (!r1) then some ((0 : Int), (0 : Int)) else Option.bind (yP (x.1, x.2.1)) fun r2 => Qt (fun x6 => some (x6.1, x6.2.1)) (fun x7 => qN (fun x9 => some x9) (fun x10 => some ((0 : Int), (0 : Int))) ((0 : Int), x7.1, x7.2.1, x7.2.2.1, x7.2.2.2.1, x7.2.2.2.2.1, x7.2.2.2.2.2)) ((1 : Int), x.1, x.2.1, x.2.2.1, x.2.2.2.1, x.2.2.2.2.1, x.2.2.2.2.2, r2)
def yoY : List QF := [q95, yo2, yID, yIE]
def ycz (t : yn3) : St := ⟨.dead :: .box 1 0 :: dd 2 (.own 10000000 :: vI t.1 :: vI t.2.1 :: dd 42 []), [(1, .box [zc t.2.2.1, yw t.2.2.2.1, zk t.2.2.2.2.1, yI t.2.2.2.2.2.1, zM t.2.2.2.2.2.2.1, vI t.2.2.2.2.2.2.2.1]), (10000000, .root true 64 yi t.2.2.2.2.2.2.2.2)]⟩
def yx5 : Gk KI := fun κ => jt (fun t => κ none ⟨.dead :: .box 1 0 :: vI t.1 :: vI t.2.1 :: .own 10000000 :: vI t.2.2.1 :: dd 43 [], [(1, .box [zc t.2.2.2.1, yw t.2.2.2.2.1, zk t.2.2.2.2.2.1, yI t.2.2.2.2.2.2.1, zM t.2.2.2.2.2.2.2.1, vI t.2.2.2.2.2.2.2.2.1]), (10000000, .root true 64 yi t.2.2.2.2.2.2.2.2.2)]⟩) (fun t => κ (some 2) ⟨.dead :: .box 1 0 :: dd 2 (.own 10000000 :: vI t.1 :: dd 43 []), [(1, .box [zc t.2.1, yw t.2.2.1, zk t.2.2.2.1, yI t.2.2.2.2.1, zM t.2.2.2.2.2.1, vI t.2.2.2.2.2.2.1]), (10000000, .root true 64 yi t.2.2.2.2.2.2.2)]⟩)
def ycA (t : yn5) : St := ⟨.dead :: .box 1 0 :: dd 2 (.own 10000000 :: vI t.1 :: dd 43 []), [(1, .box [zc t.2.1, yw t.2.2.1, zk t.2.2.2.1, yI t.2.2.2.2.1, zM t.2.2.2.2.2.1, vI t.2.2.2.2.2.2.1]), (10000000, .root true 64 yi t.2.2.2.2.2.2.2)]⟩
def yx6 : Gk KJ := fun κ => ju (fun t => κ none ⟨.dead :: .box 1 0 :: vI t.1 :: vI t.2.1 :: dd 45 [], [(1, .box [zc t.2.2.1, yw t.2.2.2.1, zk t.2.2.2.2.1, yI t.2.2.2.2.2.1, zM t.2.2.2.2.2.2.1, vI t.2.2.2.2.2.2.2])]⟩) (fun t => κ (some 0) ⟨.dead :: .box 1 0 :: dd 47 [], [(1, .box [zc t.1, yw t.2.1, zk t.2.2.1, yI t.2.2.2.1, zM t.2.2.2.2.1, vI t.2.2.2.2.2])]⟩)
def y95 (t : yie) : St := ⟨.dead :: .box 1 0 :: dd 5 (vI t.1 :: dd 41 []), [(1, .box [zc t.2.1, yw t.2.2.1, zk t.2.2.2.1, yI t.2.2.2.2.1, zM t.2.2.2.2.2.1, vI t.2.2.2.2.2.2])]⟩
def ymc : Gk kK := fun κ => ZC (fun t => κ none ⟨dd 2 (vI t.1 :: vI t.2 :: dd 45 []), []⟩) (fun t => κ (some 4) ⟨dd 49 [], []⟩)
def yoZ : Lp := lpC 13 (unG yq8 y95) @ymc (lpC 5 (unG yr2 ycA) @yx6 (lpC 8 (unG yqb ycz) @yx5 lpN))
theorem yDf : LF yoY yoZ 33 8 Tryz.f33 1 ycz @yx5 fun t => t := fun R κ again t => by kernel_rfl
theorem yDg : LK yoY yoZ 33 Tryz.f33 1 := lkN (u := (unG yqb ycz)) (yo fun t => by kernel_rfl) yDf
theorem yDh : LF yoY yoZ 33 5 Tryz.f33 0 ycA @yx6 fun t => t := fun R κ again t => by kernel_rfl
theorem yDi : LK yoY yoZ 33 Tryz.f33 0 := lkN (u := (unG yr2 ycA)) (yo fun t => by kernel_rfl) yDh
theorem yx7 : LF yoY yoZ 33 13 Tryz.f33 2 y95 @ymc fun t => t := fun R κ again t => by kernel_rfl
theorem yx8 : LK yoY yoZ 33 Tryz.f33 2 := lkN (u := (unG yq8 y95)) (yo fun t => by kernel_rfl) yx7
theorem yIF : EV yoY yoZ 33 Tryz.f33 yGf jI yqz w9 := fun x => by kernel_rfl
def q33 : QF := ⟨33, w9, okN (n := 3) Tryz.func33 ⟨yDi, yDg, yx8, trivial⟩ yIF⟩
def ZU (x : yiZ) : Option yn2 :=
 Option.bind (zK (x.1, x.2.1, x.2.2.1, x.2.2.2.1, x.2.2.2.2.1, x.2.2.2.2.2.1, x.2.2.2.2.2.2.1, x.2.2.2.2.2.2.2.1, (0 : Int), (0 : Int), (0 : Int))) fun r1 => some r1
theorem yDj : EV [yCT] lpN 141 Tryz.f141 yu0 yj0 yzs ZU := fun x => by kernel_rfl
def yIG : QF := ⟨141, ZU, okN (n := 0) Tryz.func141 trivial yDj⟩
abbrev qj : Type := yr3
def kL (k0 : List ya → Option R) (again : qj → Option R) (t6 : qj) : Option R :=
 bif (decide (t6.2.2.2.1 < (List.length t6.1 : Int))) then if (0 : Int) ≤ t6.2.2.2.1 then if t6.2.2.2.1 < (List.length t6.1 : Int) then bif ((yG t6.1 t6.2.2.2.1).2 == t6.2.1) then if (0 : Int) ≤ t6.2.2.1 then if t6.2.2.1 < (List.length t6.1 : Int) then bif (t6.2.2.2.1 != t6.2.2.1) then if (List.length t6.2.2.2.2 + List.length ([((yG t6.1 t6.2.2.2.1).1, (yG t6.1 t6.2.2.1).2)] : List ya)) * 16 < 140737488355328 then again (t6.1, t6.2.1, t6.2.2.1, (Go.IntKind.wrap .i64 (t6.2.2.2.1 + (1 : Int))), (t6.2.2.2.2 ++ ([((yG t6.1 t6.2.2.2.1).1, (yG t6.1 t6.2.2.1).2)] : List ya))) else none else again (t6.1, t6.2.1, t6.2.2.1, (Go.IntKind.wrap .i64 (t6.2.2.2.1 + (1 : Int))), t6.2.2.2.2) else none else none else bif (t6.2.2.2.1 != t6.2.2.1) then if (List.length t6.2.2.2.2 + List.length ([((yG t6.1 t6.2.2.2.1).1, (yG t6.1 t6.2.2.2.1).2)] : List ya)) * 16 < 140737488355328 then again (t6.1, t6.2.1, t6.2.2.1, (Go.IntKind.wrap .i64 (t6.2.2.2.1 + (1 : Int))), (t6.2.2.2.2 ++ ([((yG t6.1 t6.2.2.2.1).1, (yG t6.1 t6.2.2.2.1).2)] : List ya))) else none else again (t6.1, t6.2.1, t6.2.2.1, (Go.IntKind.wrap .i64 (t6.2.2.2.1 + (1 : Int))), t6.2.2.2.2) else none else none else k0 t6.2.2.2.2
def y15 k0 := zh (@kL R k0) zu
def wG (x : yiV) : Option yyH :=
 Option.bind (zP x) fun r1 => Option.bind (bif (decide (r1 < (0 : Int))) then some true else Option.bind (Zw x.1) fun r3 => some (!r3)) fun u2 => bif u2 then if (List.length ([] : List ya) + List.length x.1) * 16 < 140737488355328 then some ((([] : List ya) ++ x.1), false) else none else y15 (fun x4 => some (x4, true)) (x.1, x.2, r1, (0 : Int), ([] : List ya))
def yp0 : List QF := [yC0, yqd]
def y96 (t : yr3) : St := ⟨zk t.1 :: vI t.2.1 :: dd 4 (vI t.2.2.1 :: .own 10000000 :: vI t.2.2.2.1 :: dd 43 []), [(10000000, .root true 146 ym t.2.2.2.2)]⟩
def ymd : Gk qj := fun κ => kL (fun t => κ (some 0) ⟨dd 7 (.own 10000000 :: dd 44 []), [(10000000, .root true 146 ym t)]⟩)
def yp1 : Lp := lpC 6 (unG yr4 y96) @ymd lpN
theorem yx9 : LF yp0 yp1 143 6 Tryz.f143 0 y96 @ymd fun t => t := fun R κ again t => by kernel_rfl
theorem yxa : LK yp0 yp1 143 Tryz.f143 0 := lkN (u := (unG yr4 y96)) (yo fun t => by kernel_rfl) yx9
theorem yDk : EV yp0 yp1 143 Tryz.f143 yu1 yiW yF9 wG := fun x => by kernel_rfl
def yIH : QF := ⟨143, wG, okN (n := 1) Tryz.func143 ⟨yxa, trivial⟩ yDk⟩
def Yb (x : y6q) : Option yf3 :=
 Option.bind (yq x) fun r1 => Option.bind (w9 x) fun r2 => Option.bind (yP (x.1, x.2.1)) fun r3 => bif (r2.1 == (1 : Int)) then bif (r2.1 == (1 : Int)) then if (0 : Int) ≤ r2.2 then if r2.2 < (List.length r3 : Int) then Option.bind (ZU (r1.1, r1.2.1, r1.2.2.1, r1.2.2.2.1, r1.2.2.2.2.1, r1.2.2.2.2.2, (y6 r3 r2.2).1, (y6 r3 r2.2).2.1, (y6 r3 r2.2).2.2.1, (y6 r3 r2.2).2.2.2.1, (y6 r3 r2.2).2.2.2.2)) fun r4 => Option.bind (bif (!r4.1) then some true else Option.bind (yF r4.2) fun r6 => some (!r6)) fun u5 => bif u5 then Option.bind (yq x) fun r7 => some (r7.1, r7.2.1, r7.2.2.1, r7.2.2.2.1, r7.2.2.2.2.1, r7.2.2.2.2.2, false) else some (r4.2.1, r4.2.2.1, r4.2.2.2.1, r4.2.2.2.2.1, r4.2.2.2.2.2.1, r4.2.2.2.2.2.2, true) else none else none else bif (r2.1 == (3 : Int)) then if (0 : Int) ≤ r2.2 then if r2.2 < (List.length r3 : Int) then Option.bind (zR (r1.1, r1.2.1, (y6 r3 r2.2).1, (y6 r3 r2.2).2.1, (0 : Int), (0 : Int), (0 : Int))) fun r8 => Option.bind (ZB (x.1, x.2.1, x.2.2.1, x.2.2.2.1, x.2.2.2.2.1, x.2.2.2.2.2, (y6 r3 r2.2).2.1)) fun r9 => Option.bind (zR (r8.1, r8.2.1, (y6 r3 r2.2).1, r9, (y6 r3 r2.2).2.2.1, (y6 r3 r2.2).2.2.2.1, (y6 r3 r2.2).2.2.2.2)) fun r10 => Option.bind (bif r8.2.2 then some r10.2.2 else some false) fun u11 => Option.bind (bif (!u11) then some true else Option.bind (yF (r10.1, r10.2.1, r1.2.2)) fun r13 => some (!r13)) fun u12 => bif u12 then Option.bind (yq x) fun r14 => some (r14.1, r14.2.1, r14.2.2.1, r14.2.2.2.1, r14.2.2.2.2.1, r14.2.2.2.2.2, false) else some (r10.1, r10.2.1, r1.2.2.1, r1.2.2.2.1, r1.2.2.2.2.1, r1.2.2.2.2.2, true) else none else none else bif (r2.1 == (4 : Int)) then if (0 : Int) ≤ r2.2 then if r2.2 < (List.length x.2.2.1 : Int) then Option.bind (wG (x.2.2.1, (yG x.2.2.1 r2.2).1)) fun r15 => Option.bind (bif (!r15.2) then some true else Option.bind (yF (r1.1, r1.2.1, r15.1, r1.2.2.2)) fun r17 => some (!r17)) fun u16 => bif u16 then Option.bind (yq x) fun r18 => some (r18.1, r18.2.1, r18.2.2.1, r18.2.2.2.1, r18.2.2.2.2.1, r18.2.2.2.2.2, false) else some (r1.1, r1.2.1, r15.1, r1.2.2.2.1, r1.2.2.2.2.1, r1.2.2.2.2.2, true) else none else none else Option.bind (bif (!(r2.1 != (0 : Int))) then some true else Option.bind (yF r1) fun r20 => some (!r20)) fun u19 => bif u19 then Option.bind (yq x) fun r21 => some (r21.1, r21.2.1, r21.2.2.1, r21.2.2.2.1, r21.2.2.2.2.1, r21.2.2.2.2.2, false) else some (r1.1, r1.2.1, r1.2.2.1, r1.2.2.2.1, r1.2.2.2.2.1, r1.2.2.2.2.2, true) else bif (r2.1 == (2 : Int)) then if (0 : Int) ≤ r2.2 then if r2.2 < (List.length r3 : Int) then Option.bind (ZU (r1.1, r1.2.1, r1.2.2.1, r1.2.2.2.1, r1.2.2.2.2.1, r1.2.2.2.2.2, (y6 r3 r2.2).1, (y6 r3 r2.2).2.1, (y6 r3 r2.2).2.2.1, (y6 r3 r2.2).2.2.2.1, (y6 r3 r2.2).2.2.2.2)) fun r22 => Option.bind (bif (!r22.1) then some true else Option.bind (yF r22.2) fun r24 => some (!r24)) fun u23 => bif u23 then Option.bind (yq x) fun r25 => some (r25.1, r25.2.1, r25.2.2.1, r25.2.2.2.1, r25.2.2.2.2.1, r25.2.2.2.2.2, false) else some (r22.2.1, r22.2.2.1, r22.2.2.2.1, r22.2.2.2.2.1, r22.2.2.2.2.2.1, r22.2.2.2.2.2.2, true) else none else none else bif (r2.1 == (3 : Int)) then if (0 : Int) ≤ r2.2 then if r2.2 < (List.length r3 : Int) then Option.bind (zR (r1.1, r1.2.1, (y6 r3 r2.2).1, (y6 r3 r2.2).2.1, (0 : Int), (0 : Int), (0 : Int))) fun r26 => Option.bind (ZB (x.1, x.2.1, x.2.2.1, x.2.2.2.1, x.2.2.2.2.1, x.2.2.2.2.2, (y6 r3 r2.2).2.1)) fun r27 => Option.bind (zR (r26.1, r26.2.1, (y6 r3 r2.2).1, r27, (y6 r3 r2.2).2.2.1, (y6 r3 r2.2).2.2.2.1, (y6 r3 r2.2).2.2.2.2)) fun r28 => Option.bind (bif r26.2.2 then some r28.2.2 else some false) fun u29 => Option.bind (bif (!u29) then some true else Option.bind (yF (r28.1, r28.2.1, r1.2.2)) fun r31 => some (!r31)) fun u30 => bif u30 then Option.bind (yq x) fun r32 => some (r32.1, r32.2.1, r32.2.2.1, r32.2.2.2.1, r32.2.2.2.2.1, r32.2.2.2.2.2, false) else some (r28.1, r28.2.1, r1.2.2.1, r1.2.2.2.1, r1.2.2.2.2.1, r1.2.2.2.2.2, true) else none else none else bif (r2.1 == (4 : Int)) then if (0 : Int) ≤ r2.2 then if r2.2 < (List.length x.2.2.1 : Int) then Option.bind (wG (x.2.2.1, (yG x.2.2.1 r2.2).1)) fun r33 => Option.bind (bif (!r33.2) then some true else Option.bind (yF (r1.1, r1.2.1, r33.1, r1.2.2.2)) fun r35 => some (!r35)) fun u34 => bif u34 then Option.bind (yq x) fun r36 => some (r36.1, r36.2.1, r36.2.2.1, r36.2.2.2.1, r36.2.2.2.2.1, r36.2.2.2.2.2, false) else some (r1.1, r1.2.1, r33.1, r1.2.2.2.1, r1.2.2.2.2.1, r1.2.2.2.2.2, true) else none else none else Option.bind (bif (!(r2.1 != (0 : Int))) then some true else Option.bind (yF r1) fun r38 => some (!r38)) fun u37 => bif u37 then Option.bind (yq x) fun r39 => some (r39.1, r39.2.1, r39.2.2.1, r39.2.2.2.1, r39.2.2.2.2.1, r39.2.2.2.2.2, false) else some (r1.1, r1.2.1, r1.2.2.1, r1.2.2.2.1, r1.2.2.2.2.1, r1.2.2.2.2.2, true)
theorem yII : EV [q33, q94, q95, yz3, yo2, yIG, yGK, yIH] lpN 35 Tryz.f35 yGg jI yf4 Yb := fun x => by kernel_rfl
def q35 : QF := ⟨35, Yb, okN (n := 0) Tryz.func35 trivial yII⟩
def vu (x : yr5) : Option yf3 :=
 bif (x.2.2.2.2.2.2.1 == (7 : Int)) then Option.bind (Yb (x.1, x.2.1, x.2.2.1, x.2.2.2.1, x.2.2.2.2.1, x.2.2.2.2.2.1)) fun r1 => some r1 else bif (x.2.2.2.2.2.2.1 == (8 : Int)) then Option.bind (Zc (x.1, x.2.1, x.2.2.1, x.2.2.2.1, x.2.2.2.2.1, x.2.2.2.2.2.1, x.2.2.2.2.2.2.2.2.2.1)) fun r2 => some r2 else Option.bind (Zd (x.1, x.2.1, x.2.2.1, x.2.2.2.1, x.2.2.2.2.1, x.2.2.2.2.2.1, x.2.2.2.2.2.2.2.2.2.1)) fun r3 => some r3
theorem yDl : EV [q12, q15, q35] lpN 315 Tryz.f315 yu2 yr6 yf4 vu := fun x => by kernel_rfl
def yIJ : QF := ⟨315, vu, okN (n := 0) Tryz.func315 trivial yDl⟩
def wc (x : yr5) : Option ydF :=
 Option.bind (qf x.2.2.2.2.2.2) fun r1 => Option.bind (bif (!r1) then some true else Option.bind (yF (x.1, x.2.1, x.2.2.1, x.2.2.2.1, x.2.2.2.2.1, x.2.2.2.2.2.1)) fun r3 => some (!r3)) fun u2 => bif u2 then Option.bind (yq (x.1, x.2.1, x.2.2.1, x.2.2.2.1, x.2.2.2.2.1, x.2.2.2.2.2.1)) fun r4 => some (r4.1, r4.2.1, r4.2.2.1, r4.2.2.2.1, r4.2.2.2.2.1, r4.2.2.2.2.2, (1 : Int)) else bif (x.2.2.2.2.2.2.1 == (1 : Int)) then Option.bind (wA (x.1, x.2.1, x.2.2.1, x.2.2.2.1, x.2.2.2.2.1, x.2.2.2.2.2.1, x.2.2.2.2.2.2.2.1, x.2.2.2.2.2.2.2.2.2.1)) fun r5 => some r5 else bif (x.2.2.2.2.2.2.1 == (2 : Int)) then Option.bind (KG (x.1, x.2.1, x.2.2.1, x.2.2.2.1, x.2.2.2.2.1, x.2.2.2.2.2.1, x.2.2.2.2.2.2.2.1, x.2.2.2.2.2.2.2.2.1, (x.2.2.2.2.2.2.2.2.2.2 == (1 : Int)))) fun r6 => some r6 else bif (x.2.2.2.2.2.2.1 == (3 : Int)) then Option.bind (jR (x.1, x.2.1, x.2.2.1, x.2.2.2.1, x.2.2.2.2.1, x.2.2.2.2.2.1, x.2.2.2.2.2.2.2.1)) fun r7 => some r7 else bif (x.2.2.2.2.2.2.1 == (4 : Int)) then Option.bind (WM (x.1, x.2.1, x.2.2.1, x.2.2.2.1, x.2.2.2.2.1, x.2.2.2.2.2.1, x.2.2.2.2.2.2.2.1, x.2.2.2.2.2.2.2.2.2)) fun r8 => some r8 else bif (x.2.2.2.2.2.2.1 == (5 : Int)) then Option.bind (Jl (x.1, x.2.1, x.2.2.1, x.2.2.2.1, x.2.2.2.2.1, x.2.2.2.2.2.1, x.2.2.2.2.2.2.2.1, x.2.2.2.2.2.2.2.2.2.1)) fun r9 => some r9 else bif (x.2.2.2.2.2.2.1 == (6 : Int)) then Option.bind (wF (x.1, x.2.1, x.2.2.1, x.2.2.2.1, x.2.2.2.2.1, x.2.2.2.2.2.1, x.2.2.2.2.2.2.2.1, x.2.2.2.2.2.2.2.2.2.1)) fun r10 => some r10 else Option.bind (vu x) fun r11 => bif (!r11.2.2.2.2.2.2) then some (r11.1, r11.2.1, r11.2.2.1, r11.2.2.2.1, r11.2.2.2.2.1, r11.2.2.2.2.2.1, (2 : Int)) else some (r11.1, r11.2.1, r11.2.2.1, r11.2.2.2.1, r11.2.2.2.2.1, r11.2.2.2.2.2.1, (0 : Int))
theorem yDm : EV [q59, q61, q64, q66, q70, q73, q94, q95, yIt, yIJ] lpN 239 Tryz.f239 yu3 yr6 ydG wc := fun x => by kernel_rfl
def yIK : QF := ⟨239, wc, okN (n := 0) Tryz.func239 trivial yDm⟩
abbrev Wt : Type := ygi ⊕ ygj
def Jd (k0 : yA7 → Option R) (k1 : yA8 → Option R) (again : Wt → Option R) : Wt → Option R
 | .inl t3 => bif (decide (t3.1 > (0 : Int))) then Option.bind (ZT (t3.2.1, t3.2.2.1, t3.2.2.2.1)) fun r3 => Option.bind (wc (t3.2.2.2.2.2.2.1, t3.2.2.2.2.2.2.2.1, t3.2.2.2.2.2.2.2.2.1, t3.2.2.2.2.2.2.2.2.2.1, t3.2.2.2.2.2.2.2.2.2.2, t3.2.2.2.2.2.1, r3.1, r3.2.1, r3.2.2.1, r3.2.2.2.1, r3.2.2.2.2.1)) fun r4 => again (Sum.inr ((Go.IntKind.wrap .i64 (t3.1 - (1 : Int))), r3.2.2.2.2.2.1, r3.2.2.2.2.2.2.1, r3.2.2.2.2.2.2.2, t3.2.2.2.2.1, r4.1, r4.2.1, r4.2.2.1, r4.2.2.2.2.2.1, r4.2.2.2.1, r4.2.2.2.2.1)) else k0 t3.2
 | .inr t3 => bif (decide (t3.1 > (0 : Int))) then Option.bind (ZT (t3.2.1, t3.2.2.1, t3.2.2.2.1)) fun r5 => Option.bind (wc (t3.2.2.2.2.2.1, t3.2.2.2.2.2.2.1, t3.2.2.2.2.2.2.2.1, t3.2.2.2.2.2.2.2.2.2.1, t3.2.2.2.2.2.2.2.2.2.2, t3.2.2.2.2.2.2.2.2.1, r5.1, r5.2.1, r5.2.2.1, r5.2.2.2.1, r5.2.2.2.2.1)) fun r6 => again (Sum.inr ((Go.IntKind.wrap .i64 (t3.1 - (1 : Int))), r5.2.2.2.2.2.1, r5.2.2.2.2.2.2.1, r5.2.2.2.2.2.2.2, t3.2.2.2.2.1, r6.1, r6.2.1, r6.2.2.1, r6.2.2.2.2.2.1, r6.2.2.2.1, r6.2.2.2.2.1)) else k1 t3.2
def y0l k0 k1 := zh (@Jd R k0 k1) zu
def Jm (x : yld) : Option yr9 :=
 Option.bind (vr ()) fun r1 => Option.bind (yb (x.1, x.2.1, x.2.2.1, (Go.IntKind.wrap .i64 (x.2.2.2 + (1 : Int))))) fun r2 => y0l (fun x7 => some (x7.2.2.2.2.2.1, x7.2.2.2.2.2.2.1, x7.2.2.2.2.2.2.2.1, x7.2.2.2.2.2.2.2.2.1, x7.2.2.2.2.2.2.2.2.2, x7.2.2.2.2.1, x7.1, x7.2.1, x7.2.2.1)) (fun x8 => some (x8.2.2.2.2.1, x8.2.2.2.2.2.1, x8.2.2.2.2.2.2.1, x8.2.2.2.2.2.2.2.2.1, x8.2.2.2.2.2.2.2.2.2, x8.2.2.2.2.2.2.2.1, x8.1, x8.2.1, x8.2.2.1)) (Sum.inl (r2.1, r2.2.1, r2.2.2.1, r2.2.2.2, (0 : Int), r1.2.2.2.2.2, r1.1, r1.2.1, r1.2.2.1, r1.2.2.2.1, r1.2.2.2.2.1))
def ygL : List QF := [yIe, y5o, yIf, yIK]
def y4l (t : ygi) : St := ⟨.box 900 0 :: dd 3 (.box 4 0 :: .box 5 0 :: vI t.1 :: dd 17 []), [(900, .box [wP t.2.1, vI t.2.2.1, vI t.2.2.2.1]), (4, .box [.nils, .nils, .nils, .nils, .nils, vI t.2.2.2.2.1]), (5, .box [.own 10000000, .own 10000001, .own 10000002, .own 10000003, .own 10000004, vI t.2.2.2.2.2.1]), (10000000, .root true 3 yh t.2.2.2.2.2.2.1), (10000001, .root true 140 yj t.2.2.2.2.2.2.2.1), (10000002, .root true 146 ym t.2.2.2.2.2.2.2.2.1), (10000003, .root true 113 yd t.2.2.2.2.2.2.2.2.2.1), (10000004, .root true 46 yt t.2.2.2.2.2.2.2.2.2.2)]⟩
theorem yjn : ∀ s t, unG yr7 y4l s = some t → y4l t = s := yo fun t => by kernel_rfl
def y4m (t : ygj) : St := ⟨.box 900 0 :: dd 3 (.box 4 0 :: .box 5 0 :: vI t.1 :: dd 17 []), [(900, .box [wP t.2.1, vI t.2.2.1, vI t.2.2.2.1]), (4, .box [.nils, .nils, .nils, .nils, .nils, vI t.2.2.2.2.1]), (5, .box [zc t.2.2.2.2.2.1, yw t.2.2.2.2.2.2.1, zk t.2.2.2.2.2.2.2.1, .own 10000000, .own 10000001, vI t.2.2.2.2.2.2.2.2.1]), (10000000, .root true 113 yd t.2.2.2.2.2.2.2.2.2.1), (10000001, .root true 46 yt t.2.2.2.2.2.2.2.2.2.2)]⟩
theorem yjo : ∀ s t, unG yr8 y4m s = some t → y4m t = s := yo fun t => by kernel_rfl
def y4n : (ygi ⊕ ygj) → St := Sum.elim y4l y4m
def y97 (s : St) : Option (ygi ⊕ ygj) := ((unG yr7 y4l s).map Sum.inl).or (((unG yr8 y4m) s).map Sum.inr)
theorem yjp : ∀ s t, y97 s = some t → y4n t = s := y5h yjn yjo
def ydP : Gk Wt := fun κ => Jd (fun t => κ (some 0) ⟨.box 900 0 :: dd 3 (.box 4 0 :: .box 5 0 :: dd 18 []), [(900, .box [wP t.1, vI t.2.1, vI t.2.2.1]), (4, .box [.nils, .nils, .nils, .nils, .nils, vI t.2.2.2.1]), (5, .box [.own 10000000, .own 10000001, .own 10000002, .own 10000003, .own 10000004, vI t.2.2.2.2.1]), (10000000, .root true 3 yh t.2.2.2.2.2.1), (10000001, .root true 140 yj t.2.2.2.2.2.2.1), (10000002, .root true 146 ym t.2.2.2.2.2.2.2.1), (10000003, .root true 113 yd t.2.2.2.2.2.2.2.2.1), (10000004, .root true 46 yt t.2.2.2.2.2.2.2.2.2)]⟩) (fun t => κ (some 0) ⟨.box 900 0 :: dd 3 (.box 4 0 :: .box 5 0 :: dd 18 []), [(900, .box [wP t.1, vI t.2.1, vI t.2.2.1]), (4, .box [.nils, .nils, .nils, .nils, .nils, vI t.2.2.2.1]), (5, .box [zc t.2.2.2.2.1, yw t.2.2.2.2.2.1, zk t.2.2.2.2.2.2.1, .own 10000000, .own 10000001, vI t.2.2.2.2.2.2.2.1]), (10000000, .root true 113 yd t.2.2.2.2.2.2.2.2.1), (10000001, .root true 46 yt t.2.2.2.2.2.2.2.2.2)]⟩)
def ygM : Lp := lpC 3 y97 @ydP lpN
theorem yjq : LF ygL ygM 113 3 Tryz.f113 0 y4n @ydP fun v : ygi => .inl v := fun R κ again v => by kernel_rfl
theorem yjr : LF ygL ygM 113 3 Tryz.f113 0 y4n @ydP fun v : ygj => .inr v := fun R κ again v => by kernel_rfl
theorem yxb : LF ygL ygM 113 3 Tryz.f113 0 y4n @ydP fun t => t := (LC.sum yjq yjr)
theorem yxc : LK ygL ygM 113 Tryz.f113 0 := lkN (u := y97) yjp yxb
theorem yDn : EV ygL ygM 113 Tryz.f113 yu4 yle yra Jm := fun x => by kernel_rfl
def yGL : QF := ⟨113, Jm, okN (n := 1) Tryz.func113 ⟨yxc, trivial⟩ yDn⟩
def zU (x : yaQ) : Option yn6 :=
 Option.bind (yb (x.1, x.2.1, x.2.2, (4 : Int))) fun r1 => Option.bind (yb (r1.2.1, r1.2.2.1, r1.2.2.2, (5 : Int))) fun r2 => Option.bind (yz (r2.2.1, r2.2.2.1, r2.2.2.2, ([(0 : Int), (1 : Int), (1 : Int), (1 : Int), (2 : Int)] : List ye))) fun r3 => bif (r3.1 == (1 : Int)) then Option.bind (yb (r3.2.1, r3.2.2.1, r3.2.2.2, (24 : Int))) fun r4 => Option.bind (yz (r4.2.1, r4.2.2.1, r4.2.2.2, ([(0 : Int), (1 : Int), (256 : Int), (999 : Int)] : List ye))) fun r5 => some (r1.1, (Go.IntKind.wrap .i64 ((1 : Int) + r2.1)), r3.1, r4.1, r5.1, r5.2.1, r5.2.2.1, r5.2.2.2) else some (r1.1, (Go.IntKind.wrap .i64 ((1 : Int) + r2.1)), r3.1, (0 : Int), (0 : Int), r3.2.1, r3.2.2.1, r3.2.2.2)
theorem yDo : EV [q90, y5o] lpN 264 Tryz.f264 yu5 Qg yn7 zU := fun x => by kernel_rfl
def yxd : QF := ⟨264, zU, okN (n := 0) Tryz.func264 trivial yDo⟩
def vL (x : yaQ) : Option yn6 :=
 Option.bind (zU x) fun r1 => Option.bind (yb (r1.2.2.2.2.2.1, r1.2.2.2.2.2.2.1, r1.2.2.2.2.2.2.2, (12 : Int))) fun r2 => some (r2.1, r1.2.1, r1.2.2.1, r1.2.2.2.1, r1.2.2.2.2.1, r2.2)
theorem yDp : EV [y5o, yxd] lpN 146 Tryz.f146 yu6 Qg yn7 vL := fun x => by kernel_rfl
def yIL : QF := ⟨146, vL, okN (n := 0) Tryz.func146 trivial yDp⟩
abbrev kM : Type := yrb
def kN (k0 : yA9 → Option R) (again : kM → Option R) (t3 : kM) : Option R :=
 bif (decide (t3.1 > (0 : Int))) then Option.bind (vL (t3.2.1, t3.2.2.1, t3.2.2.2.1)) fun r3 => Option.bind (zR (t3.2.2.2.2.1, t3.2.2.2.2.2, r3.1, r3.2.1, r3.2.2.1, r3.2.2.2.1, r3.2.2.2.2.1)) fun r4 => again ((Go.IntKind.wrap .i64 (t3.1 - (1 : Int))), r3.2.2.2.2.2.1, r3.2.2.2.2.2.2.1, r3.2.2.2.2.2.2.2, r4.1, r4.2.1) else k0 t3.2
def y16 k0 := zh (@kN R k0) zu
def kO (x : yld) : Option yrd :=
 Option.bind (Jj ()) fun r1 => Option.bind (yb (x.1, x.2.1, x.2.2.1, (Go.IntKind.wrap .i64 (x.2.2.2 + (1 : Int))))) fun r2 => y16 (fun x5 => some (x5.2.2.2.1, x5.2.2.2.2, x5.1, x5.2.1, x5.2.2.1)) (r2.1, r2.2.1, r2.2.2.1, r2.2.2.2, r1)
def yp2 : List QF := [yz3, y5o, yIL, yGz]
def y98 (t : yrb) : St := ⟨.box 900 0 :: dd 3 (.box 4 0 :: .box 5 0 :: vI t.1 :: dd 17 []), [(900, .box [wP t.2.1, vI t.2.2.1, vI t.2.2.2.1]), (4, .box [.nils, .nils]), (5, .box [.own 10000000, .own 10000001]), (10000000, .root true 3 yh t.2.2.2.2.1), (10000001, .root true 140 yj t.2.2.2.2.2)]⟩
def yme : Gk kM := fun κ => kN (fun t => κ (some 0) ⟨.box 900 0 :: dd 3 (.box 4 0 :: .box 5 0 :: dd 18 []), [(900, .box [wP t.1, vI t.2.1, vI t.2.2.1]), (4, .box [.nils, .nils]), (5, .box [.own 10000000, .own 10000001]), (10000000, .root true 3 yh t.2.2.2.1), (10000001, .root true 140 yj t.2.2.2.2)]⟩)
def yp3 : Lp := lpC 3 (unG yrc y98) @yme lpN
theorem yxe : LF yp2 yp3 332 3 Tryz.f332 0 y98 @yme fun t => t := fun R κ again t => by kernel_rfl
theorem yxf : LK yp2 yp3 332 Tryz.f332 0 := lkN (u := (unG yrc y98)) (yo fun t => by kernel_rfl) yxe
theorem yDq : EV yp2 yp3 332 Tryz.f332 yu7 yle yre kO := fun x => by kernel_rfl
def yIM : QF := ⟨332, kO, okN (n := 1) Tryz.func332 ⟨yxf, trivial⟩ yDq⟩
abbrev kP : Type := yiY ⊕ ygk
def wd (k0 : yaQ → Option R) (k1 : yAa → Option R) (again : kP → Option R) : kP → Option R
 | .inl t3 => bif (decide (t3.1 > (0 : Int))) then Option.bind (zU t3.2) fun r2 => Option.bind (YW (([] : List y7), r2.1, r2.2.1, r2.2.2.1, r2.2.2.2.1, r2.2.2.2.2.1)) fun r3 => again (Sum.inr ((Go.IntKind.wrap .i64 (t3.1 - (1 : Int))), r2.2.2.2.2.2.1, r2.2.2.2.2.2.2.1, r2.2.2.2.2.2.2.2, r3.1)) else k0 t3.2
 | .inr t3 => bif (decide (t3.1 > (0 : Int))) then Option.bind (zU (t3.2.1, t3.2.2.1, t3.2.2.2.1)) fun r4 => Option.bind (YW (t3.2.2.2.2, r4.1, r4.2.1, r4.2.2.1, r4.2.2.2.1, r4.2.2.2.2.1)) fun r5 => again (Sum.inr ((Go.IntKind.wrap .i64 (t3.1 - (1 : Int))), r4.2.2.2.2.2.1, r4.2.2.2.2.2.2.1, r4.2.2.2.2.2.2.2, r5.1)) else k1 t3.2
def y17 k0 k1 := zh (@wd R k0 k1) zu
def kQ (x : yaQ) : Option yrg :=
 Option.bind (yb (x.1, x.2.1, x.2.2, (12 : Int))) fun r1 => y17 (fun x6 => some (([] : List y7), x6.1, x6.2.1, x6.2.2)) (fun x7 => some (x7.2.2.2, x7.1, x7.2.1, x7.2.2.1)) (Sum.inl r1)
def ygN : List QF := [y5o, yGE, yxd]
def y4o (t : yiY) : St := ⟨.box 900 0 :: .dead :: .box 2 0 :: .box 3 0 :: vI t.1 :: dd 15 [], [(900, .box [wP t.2.1, vI t.2.2.1, vI t.2.2.2]), (2, .box [.nils]), (3, .box [.nils])]⟩
theorem yjs : ∀ s t, unG yqc y4o s = some t → y4o t = s := yo fun t => by kernel_rfl
def y4p (t : ygk) : St := ⟨.box 900 0 :: .dead :: .box 2 0 :: .box 3 0 :: vI t.1 :: dd 15 [], [(900, .box [wP t.2.1, vI t.2.2.1, vI t.2.2.2.1]), (2, .box [.nils]), (3, .box [.own 10000000]), (10000000, .root true 58 yn t.2.2.2.2)]⟩
theorem yjt : ∀ s t, unG yrf y4p s = some t → y4p t = s := yo fun t => by kernel_rfl
def y4q : (yiY ⊕ ygk) → St := Sum.elim y4o y4p
def y99 (s : St) : Option (yiY ⊕ ygk) := ((unG yqc y4o s).map Sum.inl).or (((unG yrf y4p) s).map Sum.inr)
theorem yju : ∀ s t, y99 s = some t → y4q t = s := y5h yjs yjt
def ydQ : Gk kP := fun κ => wd (fun t => κ (some 0) ⟨.box 900 0 :: .dead :: .box 2 0 :: .box 3 0 :: dd 16 [], [(900, .box [wP t.1, vI t.2.1, vI t.2.2]), (2, .box [.nils]), (3, .box [.nils])]⟩) (fun t => κ (some 0) ⟨.box 900 0 :: .dead :: .box 2 0 :: .box 3 0 :: dd 16 [], [(900, .box [wP t.1, vI t.2.1, vI t.2.2.1]), (2, .box [.nils]), (3, .box [.own 10000000]), (10000000, .root true 58 yn t.2.2.2)]⟩)
def ygO : Lp := lpC 3 y99 @ydQ lpN
theorem yjv : LF ygN ygO 352 3 Tryz.f352 0 y4q @ydQ fun v : yiY => .inl v := fun R κ again v => by kernel_rfl
theorem yjw : LF ygN ygO 352 3 Tryz.f352 0 y4q @ydQ fun v : ygk => .inr v := fun R κ again v => by kernel_rfl
theorem yxg : LF ygN ygO 352 3 Tryz.f352 0 y4q @ydQ fun t => t := (LC.sum yjv yjw)
theorem yxh : LK ygN ygO 352 Tryz.f352 0 := lkN (u := y99) yju yxg
theorem yDr : EV ygN ygO 352 Tryz.f352 yu8 Qg yrh kQ := fun x => by kernel_rfl
def yIN : QF := ⟨352, kQ, okN (n := 1) Tryz.func352 ⟨yxh, trivial⟩ yDr⟩
abbrev kR : Type := yri
def kS (k0 : yAb → Option R) (again : kR → Option R) (t3 : kR) : Option R :=
 bif (decide (t3.1 > (0 : Int))) then Option.bind (zU (t3.2.1, t3.2.2.1, t3.2.2.2.1)) fun r2 => Option.bind (zC (t3.2.2.2.2, r2.1, r2.2.1, r2.2.2.1, r2.2.2.2.1, r2.2.2.2.2.1)) fun r3 => again ((Go.IntKind.wrap .i64 (t3.1 - (1 : Int))), r2.2.2.2.2.2.1, r2.2.2.2.2.2.2.1, r2.2.2.2.2.2.2.2, r3) else k0 t3.2
def y18 k0 := zh (@kS R k0) zu
def kT (x : yld) : Option yrk :=
 Option.bind (yb (x.1, x.2.1, x.2.2.1, (Go.IntKind.wrap .i64 (x.2.2.2 + (1 : Int))))) fun r1 => y18 (fun x4 => some (x4.2.2.2, x4.1, x4.2.1, x4.2.2.1)) (r1.1, r1.2.1, r1.2.2.1, r1.2.2.2, ([] : List y9))
def yp4 : List QF := [y5o, yyY, yxd]
def y9a (t : yri) : St := ⟨.box 900 0 :: dd 4 (.own 10000000 :: vI t.1 :: dd 14 []), [(900, .box [wP t.2.1, vI t.2.2.1, vI t.2.2.2.1]), (10000000, .root true 64 yi t.2.2.2.2)]⟩
def ymf : Gk kR := fun κ => kS (fun t => κ (some 0) ⟨.box 900 0 :: dd 4 (.own 10000000 :: dd 15 []), [(900, .box [wP t.1, vI t.2.1, vI t.2.2.1]), (10000000, .root true 64 yi t.2.2.2)]⟩)
def yp5 : Lp := lpC 3 (unG yrj y9a) @ymf lpN
theorem yxi : LF yp4 yp5 362 3 Tryz.f362 0 y9a @ymf fun t => t := fun R κ again t => by kernel_rfl
theorem yxj : LK yp4 yp5 362 Tryz.f362 0 := lkN (u := (unG yrj y9a)) (yo fun t => by kernel_rfl) yxi
theorem yDs : EV yp4 yp5 362 Tryz.f362 yu9 yle yrl kT := fun x => by kernel_rfl
def yIO : QF := ⟨362, kT, okN (n := 1) Tryz.func362 ⟨yxj, trivial⟩ yDs⟩
end
end Go.Proofs.YthgdjjdigalckaaGreat.XI
