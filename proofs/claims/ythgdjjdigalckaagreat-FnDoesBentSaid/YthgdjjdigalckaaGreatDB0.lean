/- What functions compute, and that they do; part 0 of B; by a program (dec.py). No condition. -/
import Derived.Test.YthgdjjdigalckaaGreatXB
import Derived.Test.YthgdjjdigalckaaGreatHB0
set_option linter.all false
namespace Go.Proofs.YthgdjjdigalckaaGreat.XB
open Go.Proofs.YthgdjjdigalckaaGreat.R
set_option maxRecDepth 100000
noncomputable section
variable {R : Type}
def y0y (x : List Vn) : Option Bool :=
 some (decide ((List.length x : Int) > (1048576 : Int)))
theorem ev9 : EV [] lpN 9 Tryz.f9 sg9 [(.sl 5 Yt)] [.bool] y0y := fun x => by kernel_rfl
def q9 : QF := ⟨9, y0y, okN (n := 0) Tryz.func9 trivial ev9⟩
abbrev kS : Type := Qz0
def ZJ (k0 : Bool → Option R) (k1 : Unit → Option R) (again : kS → Option R) (t4 : kS) : Option R :=
 bif (decide (t4.2.2 < (List.length t4.1 : Int))) then if (0 : Int) ≤ t4.2.2 then if t4.2.2 < (List.length t4.1 : Int) then if (0 : Int) ≤ t4.2.2 then if t4.2.2 < (List.length t4.2.1 : Int) then bif ((zu t4.1 t4.2.2) != (zu t4.2.1 t4.2.2)) then k0 false else again (t4.1, t4.2.1, (Go.IntKind.wrap .i64 (t4.2.2 + (1 : Int)))) else none else none else none else none else k1 ()
def qk k0 k1 := zI (@ZJ R k0 k1) Y0
def Jk (x : Qz1) : Option Bool :=
 bif ((List.length x.1 : Int) != (List.length x.2 : Int)) then some false else qk (fun x1 => some x1) (fun x2 => some true) (x.1, x.2, (0 : Int))
def yvu : List QF := []
def yar (t : Qz0) : St := ⟨zg t.1 :: zg t.2.1 :: dd 3 (vI t.2.2 :: dd 20 []), []⟩
def yqO : Gk kS := fun κ => ZJ (fun t => κ none ⟨dd 4 (vB t :: dd 21 []), []⟩) (fun t => κ (some 0) ⟨dd 26 [], []⟩)
def yvv : Lp := lpC 4 (unG qz0 yar) @yqO lpN
theorem yvw : LF yvu yvv 27 4 Tryz.f27 0 yar @yqO fun t => t := fun R κ again t => by kernel_rfl
theorem yvx : LK yvu yvv 27 Tryz.f27 0 := lkN (u := (unG qz0 yar)) (yr fun t => by kernel_rfl) yvw
theorem yCm : EV yvu yvv 27 Tryz.f27 yAx qz1 [.bool] Jk := fun x => by kernel_rfl
def q27 : QF := ⟨27, Jk, okN (n := 1) Tryz.func27 ⟨yvx, trivial⟩ yCm⟩
abbrev kT : Type := Qz2
def ZK (k0 : Bool → Option R) (k1 : Unit → Option R) (again : kT → Option R) (t4 : kT) : Option R :=
 bif (decide (t4.2.2 < (List.length t4.1 : Int))) then if (0 : Int) ≤ t4.2.2 then if t4.2.2 < (List.length t4.1 : Int) then if (0 : Int) ≤ t4.2.2 then if t4.2.2 < (List.length t4.2.1 : Int) then bif (!(((y6 t4.1 t4.2.2).1 == (y6 t4.2.1 t4.2.2).1) && (((y6 t4.1 t4.2.2).2.1 == (y6 t4.2.1 t4.2.2).2.1) && (((y6 t4.1 t4.2.2).2.2.1 == (y6 t4.2.1 t4.2.2).2.2.1) && (((y6 t4.1 t4.2.2).2.2.2.1 == (y6 t4.2.1 t4.2.2).2.2.2.1) && (((y6 t4.1 t4.2.2).2.2.2.2 == (y6 t4.2.1 t4.2.2).2.2.2.2) && true)))))) then k0 false else again (t4.1, t4.2.1, (Go.IntKind.wrap .i64 (t4.2.2 + (1 : Int)))) else none else none else none else none else k1 ()
def qm k0 k1 := zI (@ZK R k0 k1) Y0
def Jl (x : Qz3) : Option Bool :=
 bif ((List.length x.1 : Int) != (List.length x.2 : Int)) then some false else qm (fun x1 => some x1) (fun x2 => some true) (x.1, x.2, (0 : Int))
def yjx : List QF := []
def y6t (t : Qz2) : St := ⟨qQ t.1 :: qQ t.2.1 :: dd 3 (vI t.2.2 :: dd 20 []), []⟩
def yhK : Gk kT := fun κ => ZK (fun t => κ none ⟨dd 4 (vB t :: dd 21 []), []⟩) (fun t => κ (some 0) ⟨dd 26 [], []⟩)
def yjy : Lp := lpC 4 (unG qz2 y6t) @yhK lpN
theorem yqP : LF yjx yjy 311 4 Tryz.f311 0 y6t @yhK fun t => t := fun R κ again t => by kernel_rfl
theorem yqQ : LK yjx yjy 311 Tryz.f311 0 := lkN (u := (unG qz2 y6t)) (yr fun t => by kernel_rfl) yqP
theorem yvy : EV yjx yjy 311 Tryz.f311 yo9 qz3 [.bool] Jl := fun x => by kernel_rfl
def yCn : QF := ⟨311, Jl, okN (n := 1) Tryz.func311 ⟨yqQ, trivial⟩ yvy⟩
abbrev kU : Type := Qz4
def ZL (k0 : Bool → Option R) (k1 : Unit → Option R) (again : kU → Option R) (t4 : kU) : Option R :=
 bif (decide (t4.1 < (List.length t4.2.1 : Int))) then if (0 : Int) ≤ t4.1 then if t4.1 < (List.length t4.2.1 : Int) then if (0 : Int) ≤ t4.1 then if t4.1 < (List.length t4.2.2 : Int) then Option.bind (Jl ((yo t4.2.1 t4.1), (yo t4.2.2 t4.1))) fun r1 => bif (!r1) then k0 false else again ((Go.IntKind.wrap .i64 (t4.1 + (1 : Int))), t4.2.1, t4.2.2) else none else none else none else none else k1 ()
def qn k0 k1 := zI (@ZL R k0 k1) Y0
def Jm (x : Qz5) : Option Bool :=
 bif ((List.length x.1 : Int) != (List.length x.2 : Int)) then some false else qn (fun x2 => some x2) (fun x3 => some true) ((0 : Int), x.1, x.2)
def yjz : List QF := [yCn]
def y6u (t : Qz4) : St := ⟨dd 2 (.box 2 0 :: .box 3 0 :: .dead :: vI t.1 :: dd 26 []), [(2, .box [Yp t.2.1]), (3, .box [Yp t.2.2])]⟩
def yhL : Gk kU := fun κ => ZL (fun t => κ none ⟨dd 4 (vB t :: dd 27 []), []⟩) (fun t => κ (some 0) ⟨dd 32 [], []⟩)
def yjA : Lp := lpC 4 (unG qz4 y6u) @yhL lpN
theorem yqR : LF yjz yjA 237 4 Tryz.f237 0 y6u @yhL fun t => t := fun R κ again t => by kernel_rfl
theorem yqS : LK yjz yjA 237 Tryz.f237 0 := lkN (u := (unG qz4 y6u)) (yr fun t => by kernel_rfl) yqR
theorem yvz : EV yjz yjA 237 Tryz.f237 yoa qz5 [.bool] Jm := fun x => by kernel_rfl
def yCo : QF := ⟨237, Jm, okN (n := 1) Tryz.func237 ⟨yqS, trivial⟩ yvz⟩
abbrev kV : Type := Qz6
def ZM (k0 : Bool → Option R) (k1 : Unit → Option R) (again : kV → Option R) (t4 : kV) : Option R :=
 bif (decide (t4.1 < (List.length t4.2.2.1 : Int))) then if (0 : Int) ≤ t4.1 then if t4.1 < (List.length t4.2.2.1 : Int) then if (0 : Int) ≤ t4.1 then if t4.1 < (List.length t4.2.2.2.2 : Int) then Option.bind (Jm ((yf t4.2.2.1 t4.1), (yf t4.2.2.2.2 t4.1))) fun r3 => bif (!r3) then k0 false else again ((Go.IntKind.wrap .i64 (t4.1 + (1 : Int))), t4.2.1, t4.2.2.1, t4.2.2.2.1, t4.2.2.2.2) else none else none else none else none else k1 ()
def qp k0 k1 := zI (@ZM R k0 k1) Y0
def Jn (x : Qz7) : Option Bool :=
 Option.bind (Jk (x.1, x.2.2.1)) fun r1 => Option.bind (bif (!r1) then some true else some ((List.length x.2.1 : Int) != (List.length x.2.2.2 : Int))) fun u2 => bif u2 then some false else qp (fun x4 => some x4) (fun x5 => some true) ((0 : Int), x.1, x.2.1, x.2.2.1, x.2.2.2)
def yjB : List QF := [q27, yCo]
def y6v (t : Qz6) : St := ⟨dd 2 (.box 2 0 :: .box 3 0 :: .dead :: vI t.1 :: dd 34 []), [(2, .box [zg t.2.1, yI t.2.2.1]), (3, .box [zg t.2.2.2.1, yI t.2.2.2.2])]⟩
def yhM : Gk kV := fun κ => ZM (fun t => κ none ⟨dd 4 (vB t :: dd 35 []), []⟩) (fun t => κ (some 0) ⟨dd 40 [], []⟩)
def yjC : Lp := lpC 4 (unG qz6 y6v) @yhM lpN
theorem yqT : LF yjB yjC 107 4 Tryz.f107 0 y6v @yhM fun t => t := fun R κ again t => by kernel_rfl
theorem yqU : LK yjB yjC 107 Tryz.f107 0 := lkN (u := (unG qz6 y6v)) (yr fun t => by kernel_rfl) yqT
theorem yvA : EV yjB yjC 107 Tryz.f107 yob qz7 [.bool] Jn := fun x => by kernel_rfl
def yCp : QF := ⟨107, Jn, okN (n := 1) Tryz.func107 ⟨yqU, trivial⟩ yvA⟩
abbrev kW : Type := Qz8
def ZN (k0 : Bool → Option R) (k1 : Unit → Option R) (again : kW → Option R) (t4 : kW) : Option R :=
 bif (decide (t4.2.2 < (List.length t4.1 : Int))) then if (0 : Int) ≤ t4.2.2 then if t4.2.2 < (List.length t4.1 : Int) then if (0 : Int) ≤ t4.2.2 then if t4.2.2 < (List.length t4.2.1 : Int) then bif (!(((yD t4.1 t4.2.2).1 == (yD t4.2.1 t4.2.2).1) && (((yD t4.1 t4.2.2).2 == (yD t4.2.1 t4.2.2).2) && true))) then k0 false else again (t4.1, t4.2.1, (Go.IntKind.wrap .i64 (t4.2.2 + (1 : Int)))) else none else none else none else none else k1 ()
def qq k0 k1 := zI (@ZN R k0 k1) Y0
def Jo (x : Qz9) : Option Bool :=
 bif ((List.length x.1 : Int) != (List.length x.2 : Int)) then some false else qq (fun x1 => some x1) (fun x2 => some true) (x.1, x.2, (0 : Int))
def yjD : List QF := []
def y6w (t : Qz8) : St := ⟨zm t.1 :: zm t.2.1 :: dd 3 (vI t.2.2 :: dd 20 []), []⟩
def yhN : Gk kW := fun κ => ZN (fun t => κ none ⟨dd 4 (vB t :: dd 21 []), []⟩) (fun t => κ (some 0) ⟨dd 26 [], []⟩)
def yjE : Lp := lpC 4 (unG qz8 y6w) @yhN lpN
theorem yqV : LF yjD yjE 108 4 Tryz.f108 0 y6w @yhN fun t => t := fun R κ again t => by kernel_rfl
theorem yqW : LK yjD yjE 108 Tryz.f108 0 := lkN (u := (unG qz8 y6w)) (yr fun t => by kernel_rfl) yqV
theorem yvB : EV yjD yjE 108 Tryz.f108 yoc qz9 [.bool] Jo := fun x => by kernel_rfl
def yCq : QF := ⟨108, Jo, okN (n := 1) Tryz.func108 ⟨yqW, trivial⟩ yvB⟩
abbrev Wp : Type := yzh
def Zf (k0 : Bool → Option R) (k1 : Unit → Option R) (again : Wp → Option R) (t4 : Wp) : Option R :=
 bif (decide (t4.2.2 < (List.length t4.1 : Int))) then if (0 : Int) ≤ t4.2.2 then if t4.2.2 < (List.length t4.1 : Int) then if (0 : Int) ≤ t4.2.2 then if t4.2.2 < (List.length t4.2.1 : Int) then bif (!(((yl t4.1 t4.2.2).1 == (yl t4.2.1 t4.2.2).1) && (((yl t4.1 t4.2.2).2.1 == (yl t4.2.1 t4.2.2).2.1) && (((yl t4.1 t4.2.2).2.2 == (yl t4.2.1 t4.2.2).2.2) && true)))) then k0 false else again (t4.1, t4.2.1, (Go.IntKind.wrap .i64 (t4.2.2 + (1 : Int)))) else none else none else none else none else k1 ()
def Vw k0 k1 := zI (@Zf R k0 k1) Y0
def jF (x : yBX) : Option Bool :=
 bif ((List.length x.1 : Int) != (List.length x.2 : Int)) then some false else Vw (fun x1 => some x1) (fun x2 => some true) (x.1, x.2, (0 : Int))
def yjF : List QF := []
def y6x (t : yzh) : St := ⟨yW t.1 :: yW t.2.1 :: dd 3 (vI t.2.2 :: dd 20 []), []⟩
def yhO : Gk Wp := fun κ => Zf (fun t => κ none ⟨dd 4 (vB t :: dd 21 []), []⟩) (fun t => κ (some 0) ⟨dd 26 [], []⟩)
def yjG : Lp := lpC 4 (unG yzi y6x) @yhO lpN
theorem yqX : LF yjF yjG 109 4 Tryz.f109 0 y6x @yhO fun t => t := fun R κ again t => by kernel_rfl
theorem yqY : LK yjF yjG 109 Tryz.f109 0 := lkN (u := (unG yzi y6x)) (yr fun t => by kernel_rfl) yqX
theorem yvC : EV yjF yjG 109 Tryz.f109 yod yBY [.bool] jF := fun x => by kernel_rfl
def yCr : QF := ⟨109, jF, okN (n := 1) Tryz.func109 ⟨yqY, trivial⟩ yvC⟩
abbrev kX : Type := yzj
def ZO (k0 : Bool → Option R) (k1 : Unit → Option R) (again : kX → Option R) (t4 : kX) : Option R :=
 bif (decide (t4.1 < (List.length t4.2.2.2.2.2.1 : Int))) then if (0 : Int) ≤ t4.1 then if t4.1 < (List.length t4.2.2.2.2.2.1 : Int) then if (0 : Int) ≤ t4.1 then if t4.1 < (List.length t4.2.2.2.2.2.2.2.2.2.2.2.1 : Int) then bif (!((ByteArray.toList ((y8 t4.2.2.2.2.2.1 t4.1).1) == ByteArray.toList ((y8 t4.2.2.2.2.2.2.2.2.2.2.2.1 t4.1).1)) && (((y8 t4.2.2.2.2.2.1 t4.1).2.1 == (y8 t4.2.2.2.2.2.2.2.2.2.2.2.1 t4.1).2.1) && (((y8 t4.2.2.2.2.2.1 t4.1).2.2.1 == (y8 t4.2.2.2.2.2.2.2.2.2.2.2.1 t4.1).2.2.1) && (((y8 t4.2.2.2.2.2.1 t4.1).2.2.2 == (y8 t4.2.2.2.2.2.2.2.2.2.2.2.1 t4.1).2.2.2) && true))))) then k0 false else again ((Go.IntKind.wrap .i64 (t4.1 + (1 : Int))), t4.2.1, t4.2.2.1, t4.2.2.2.1, t4.2.2.2.2.1, t4.2.2.2.2.2.1, t4.2.2.2.2.2.2.1, t4.2.2.2.2.2.2.2.1, t4.2.2.2.2.2.2.2.2.1, t4.2.2.2.2.2.2.2.2.2.1, t4.2.2.2.2.2.2.2.2.2.2.1, t4.2.2.2.2.2.2.2.2.2.2.2.1, t4.2.2.2.2.2.2.2.2.2.2.2.2) else none else none else none else none else k1 ()
def kY k0 k1 := zI (@ZO R k0 k1) Y0
def zv (x : yBZ) : Option Bool :=
 Option.bind (Jn (x.1, x.2.1, x.2.2.2.2.2.2.1, x.2.2.2.2.2.2.2.1)) fun r1 => Option.bind (bif (!r1) then some true else Option.bind (Jo (x.2.2.1, x.2.2.2.2.2.2.2.2.1)) fun r3 => some (!r3)) fun u2 => Option.bind (bif u2 then some true else Option.bind (jF (x.2.2.2.1, x.2.2.2.2.2.2.2.2.2.1)) fun r5 => some (!r5)) fun u4 => Option.bind (bif u4 then some true else some ((List.length x.2.2.2.2.1 : Int) != (List.length x.2.2.2.2.2.2.2.2.2.2.1 : Int))) fun u6 => Option.bind (bif u6 then some true else some (x.2.2.2.2.2.1 != x.2.2.2.2.2.2.2.2.2.2.2)) fun u7 => bif u7 then some false else kY (fun x8 => some x8) (fun x9 => some true) ((0 : Int), x.1, x.2.1, x.2.2.1, x.2.2.2.1, x.2.2.2.2.1, x.2.2.2.2.2.1, x.2.2.2.2.2.2.1, x.2.2.2.2.2.2.2.1, x.2.2.2.2.2.2.2.2.1, x.2.2.2.2.2.2.2.2.2.1, x.2.2.2.2.2.2.2.2.2.2.1, x.2.2.2.2.2.2.2.2.2.2.2)
def yvD : List QF := [yCp, yCq, yCr]
def yas (t : yzj) : St := ⟨dd 2 (.box 2 0 :: .box 3 0 :: .dead :: vI t.1 :: dd 56 []), [(2, .box [zg t.2.1, yI t.2.2.1, zm t.2.2.2.1, yW t.2.2.2.2.1, Yu t.2.2.2.2.2.1, vI t.2.2.2.2.2.2.1]), (3, .box [zg t.2.2.2.2.2.2.2.1, yI t.2.2.2.2.2.2.2.2.1, zm t.2.2.2.2.2.2.2.2.2.1, yW t.2.2.2.2.2.2.2.2.2.2.1, Yu t.2.2.2.2.2.2.2.2.2.2.2.1, vI t.2.2.2.2.2.2.2.2.2.2.2.2])]⟩
def yqZ : Gk kX := fun κ => ZO (fun t => κ none ⟨dd 4 (vB t :: dd 57 []), []⟩) (fun t => κ (some 0) ⟨dd 62 [], []⟩)
def yvE : Lp := lpC 4 (unG yzk yas) @yqZ lpN
theorem yvF : LF yvD yvE 17 4 Tryz.f17 0 yas @yqZ fun t => t := fun R κ again t => by kernel_rfl
theorem yvG : LK yvD yvE 17 Tryz.f17 0 := lkN (u := (unG yzk yas)) (yr fun t => by kernel_rfl) yvF
theorem yCs : EV yvD yvE 17 Tryz.f17 yAy yC0 [.bool] zv := fun x => by kernel_rfl
def q17 : QF := ⟨17, zv, okN (n := 1) Tryz.func17 ⟨yvG, trivial⟩ yCs⟩
def yw (x : yuD) : Option Bool :=
 Option.bind (bif (decide (x.1 ≥ x.2.1)) then some (decide (x.1 ≤ x.2.2)) else some false) fun u1 => some u1
theorem yCt : EV [] lpN 92 Tryz.f92 yAz yuE [.bool] yw := fun x => by kernel_rfl
def q92 : QF := ⟨92, yw, okN (n := 0) Tryz.func92 trivial yCt⟩
def jZ (x : ytX) : Option Bool :=
 Option.bind (bif (decide (x.1 < x.2.2.2.2.2.1)) then some true else Option.bind (bif (x.1 == x.2.2.2.2.2.1) then some (decide (x.2.1 < x.2.2.2.2.2.2.1)) else some false) fun u2 => some u2) fun u1 => some u1
theorem yvH : EV [] lpN 342 Tryz.f342 yoe ytY [.bool] jZ := fun x => by kernel_rfl
def yBc : QF := ⟨342, jZ, okN (n := 0) Tryz.func342 trivial yvH⟩
def ZP (x : ytX) : Option Bool :=
 Option.bind (bif (x.1 == x.2.2.2.2.2.1) then some (x.2.1 == x.2.2.2.2.2.2.1) else some false) fun u1 => some u1
theorem yvI : EV [] lpN 343 Tryz.f343 yof ytY [.bool] ZP := fun x => by kernel_rfl
def yCu : QF := ⟨343, ZP, okN (n := 0) Tryz.func343 trivial yvI⟩
abbrev Wq : Type := yzl
def YU (k0 : yzn → Option R) (again : Wq → Option R) (t4 : Wq) : Option R :=
 bif (decide (t4.2.2.2.1 < t4.2.2.1)) then if (0 : Int) ≤ t4.2.2.2.1 then if t4.2.2.2.1 < (List.length t4.2.1 : Int) then Option.bind (bif (!t4.1) then Option.bind (jZ ((y6 t4.2.1 t4.2.2.2.1).1, (y6 t4.2.1 t4.2.2.2.1).2.1, (y6 t4.2.1 t4.2.2.2.1).2.2.1, (y6 t4.2.1 t4.2.2.2.1).2.2.2.1, (y6 t4.2.1 t4.2.2.2.1).2.2.2.2, t4.2.2.2.2.1, t4.2.2.2.2.2.1, t4.2.2.2.2.2.2.1, t4.2.2.2.2.2.2.2.1, t4.2.2.2.2.2.2.2.2.1)) fun r2 => some (!r2) else some false) fun u1 => bif u1 then if (List.length t4.2.2.2.2.2.2.2.2.2 + List.length ([(t4.2.2.2.2.1, t4.2.2.2.2.2.1, t4.2.2.2.2.2.2.1, t4.2.2.2.2.2.2.2.1, t4.2.2.2.2.2.2.2.2.1)] : List y9)) * 40 < 140737488355328 then Option.bind (ZP ((y6 t4.2.1 t4.2.2.2.1).1, (y6 t4.2.1 t4.2.2.2.1).2.1, (y6 t4.2.1 t4.2.2.2.1).2.2.1, (y6 t4.2.1 t4.2.2.2.1).2.2.2.1, (y6 t4.2.1 t4.2.2.2.1).2.2.2.2, t4.2.2.2.2.1, t4.2.2.2.2.2.1, t4.2.2.2.2.2.2.1, t4.2.2.2.2.2.2.2.1, t4.2.2.2.2.2.2.2.2.1)) fun r3 => bif (!r3) then if (List.length (t4.2.2.2.2.2.2.2.2.2 ++ ([(t4.2.2.2.2.1, t4.2.2.2.2.2.1, t4.2.2.2.2.2.2.1, t4.2.2.2.2.2.2.2.1, t4.2.2.2.2.2.2.2.2.1)] : List y9)) + List.length ([((y6 t4.2.1 t4.2.2.2.1).1, (y6 t4.2.1 t4.2.2.2.1).2.1, (y6 t4.2.1 t4.2.2.2.1).2.2.1, (y6 t4.2.1 t4.2.2.2.1).2.2.2.1, (y6 t4.2.1 t4.2.2.2.1).2.2.2.2)] : List y9)) * 40 < 140737488355328 then again (true, t4.2.1, t4.2.2.1, (Go.IntKind.wrap .i64 (t4.2.2.2.1 + (1 : Int))), t4.2.2.2.2.1, t4.2.2.2.2.2.1, t4.2.2.2.2.2.2.1, t4.2.2.2.2.2.2.2.1, t4.2.2.2.2.2.2.2.2.1, ((t4.2.2.2.2.2.2.2.2.2 ++ ([(t4.2.2.2.2.1, t4.2.2.2.2.2.1, t4.2.2.2.2.2.2.1, t4.2.2.2.2.2.2.2.1, t4.2.2.2.2.2.2.2.2.1)] : List y9)) ++ ([((y6 t4.2.1 t4.2.2.2.1).1, (y6 t4.2.1 t4.2.2.2.1).2.1, (y6 t4.2.1 t4.2.2.2.1).2.2.1, (y6 t4.2.1 t4.2.2.2.1).2.2.2.1, (y6 t4.2.1 t4.2.2.2.1).2.2.2.2)] : List y9))) else none else again (true, t4.2.1, t4.2.2.1, (Go.IntKind.wrap .i64 (t4.2.2.2.1 + (1 : Int))), t4.2.2.2.2.1, t4.2.2.2.2.2.1, t4.2.2.2.2.2.2.1, t4.2.2.2.2.2.2.2.1, t4.2.2.2.2.2.2.2.2.1, (t4.2.2.2.2.2.2.2.2.2 ++ ([(t4.2.2.2.2.1, t4.2.2.2.2.2.1, t4.2.2.2.2.2.2.1, t4.2.2.2.2.2.2.2.1, t4.2.2.2.2.2.2.2.2.1)] : List y9))) else none else Option.bind (ZP ((y6 t4.2.1 t4.2.2.2.1).1, (y6 t4.2.1 t4.2.2.2.1).2.1, (y6 t4.2.1 t4.2.2.2.1).2.2.1, (y6 t4.2.1 t4.2.2.2.1).2.2.2.1, (y6 t4.2.1 t4.2.2.2.1).2.2.2.2, t4.2.2.2.2.1, t4.2.2.2.2.2.1, t4.2.2.2.2.2.2.1, t4.2.2.2.2.2.2.2.1, t4.2.2.2.2.2.2.2.2.1)) fun r4 => bif (!r4) then if (List.length t4.2.2.2.2.2.2.2.2.2 + List.length ([((y6 t4.2.1 t4.2.2.2.1).1, (y6 t4.2.1 t4.2.2.2.1).2.1, (y6 t4.2.1 t4.2.2.2.1).2.2.1, (y6 t4.2.1 t4.2.2.2.1).2.2.2.1, (y6 t4.2.1 t4.2.2.2.1).2.2.2.2)] : List y9)) * 40 < 140737488355328 then again (t4.1, t4.2.1, t4.2.2.1, (Go.IntKind.wrap .i64 (t4.2.2.2.1 + (1 : Int))), t4.2.2.2.2.1, t4.2.2.2.2.2.1, t4.2.2.2.2.2.2.1, t4.2.2.2.2.2.2.2.1, t4.2.2.2.2.2.2.2.2.1, (t4.2.2.2.2.2.2.2.2.2 ++ ([((y6 t4.2.1 t4.2.2.2.1).1, (y6 t4.2.1 t4.2.2.2.1).2.1, (y6 t4.2.1 t4.2.2.2.1).2.2.1, (y6 t4.2.1 t4.2.2.2.1).2.2.2.1, (y6 t4.2.1 t4.2.2.2.1).2.2.2.2)] : List y9))) else none else again (t4.1, t4.2.1, t4.2.2.1, (Go.IntKind.wrap .i64 (t4.2.2.2.1 + (1 : Int))), t4.2.2.2.2.1, t4.2.2.2.2.2.1, t4.2.2.2.2.2.2.1, t4.2.2.2.2.2.2.2.1, t4.2.2.2.2.2.2.2.2.1, t4.2.2.2.2.2.2.2.2.2) else none else none else k0 (t4.1, t4.2.2.2.2)
def vv k0 := zI (@YU R k0) Y0
def jo (x : yzo) : Option (List y9) :=
 vv (fun x5 => bif (!x5.1) then if (List.length x5.2.2.2.2.2.2 + List.length ([(x5.2.1, x5.2.2.1, x5.2.2.2.1, x5.2.2.2.2.1, x5.2.2.2.2.2.1)] : List y9)) * 40 < 140737488355328 then some (x5.2.2.2.2.2.2 ++ ([(x5.2.1, x5.2.2.1, x5.2.2.2.1, x5.2.2.2.2.1, x5.2.2.2.2.2.1)] : List y9)) else none else some x5.2.2.2.2.2.2) (false, x.1, (List.length x.1 : Int), (0 : Int), x.2.1, x.2.2.1, x.2.2.2.1, x.2.2.2.2.1, x.2.2.2.2.2, ([] : List y9))
def yjH : List QF := [yBc, yCu]
def y6y (t : yzl) : St := ⟨dd 3 (.box 3 0 :: .dead :: .own 10000000 :: vB t.1 :: dd 3 (qQ t.2.1 :: vI t.2.2.1 :: vI t.2.2.2.1 :: dd 31 [])), [(3, .box [vI t.2.2.2.2.1, vI t.2.2.2.2.2.1, vI t.2.2.2.2.2.2.1, vI t.2.2.2.2.2.2.2.1, vI t.2.2.2.2.2.2.2.2.1]), (10000000, .root true 64 yi t.2.2.2.2.2.2.2.2.2)]⟩
def yhP : Gk Wq := fun κ => YU (fun t => κ (some 0) ⟨dd 3 (.box 3 0 :: .dead :: .own 10000000 :: vB t.1 :: dd 37 []), [(3, .box [vI t.2.1, vI t.2.2.1, vI t.2.2.2.1, vI t.2.2.2.2.1, vI t.2.2.2.2.2.1]), (10000000, .root true 64 yi t.2.2.2.2.2.2)]⟩)
def yjI : Lp := lpC 4 (unG yzm y6y) @yhP lpN
theorem yr0 : LF yjH yjI 302 4 Tryz.f302 0 y6y @yhP fun t => t := fun R κ again t => by kernel_rfl
theorem yr1 : LK yjH yjI 302 Tryz.f302 0 := lkN (u := (unG yzm y6y)) (yr fun t => by kernel_rfl) yr0
theorem yvJ : EV yjH yjI 302 Tryz.f302 yog yzp [(.sl 64 yi)] jo := fun x => by kernel_rfl
def yvK : QF := ⟨302, jo, okN (n := 1) Tryz.func302 ⟨yr1, trivial⟩ yvJ⟩
def Y1 (x : List y9) : Option (List y9) :=
 if (List.length ([] : List y9) + List.length x) * 40 < 140737488355328 then some (([] : List y9) ++ x) else none
theorem yvL : EV [] lpN 303 Tryz.f303 yoh [(.sl 64 yi)] [(.sl 64 yi)] Y1 := fun x => by kernel_rfl
def yvM : QF := ⟨303, Y1, okN (n := 0) Tryz.func303 trivial yvL⟩
abbrev Wr : Type := ytZ
def Zg (k0 : List y9 → Option R) (again : Wr → Option R) (t3 : Wr) : Option R :=
 bif (decide (t3.2.2.1 < t3.2.1)) then if (0 : Int) ≤ t3.2.2.1 then if t3.2.2.1 < (List.length t3.1 : Int) then Option.bind (jo (t3.2.2.2, (y6 t3.1 t3.2.2.1).1, (y6 t3.1 t3.2.2.1).2.1, (y6 t3.1 t3.2.2.1).2.2.1, (y6 t3.1 t3.2.2.1).2.2.2.1, (y6 t3.1 t3.2.2.1).2.2.2.2)) fun r2 => again (t3.1, t3.2.1, (Go.IntKind.wrap .i64 (t3.2.2.1 + (1 : Int))), r2) else none else none else k0 t3.2.2.2
def Vx k0 := zI (@Zg R k0) Y0
def Z7 (x : Qz3) : Option (List y9) :=
 Option.bind (Y1 x.1) fun r1 => Vx (fun x3 => some x3) (x.2, (List.length x.2 : Int), (0 : Int), r1)
def yjJ : List QF := [yvK, yvM]
def y6z (t : ytZ) : St := ⟨dd 5 (.own 10000000 :: dd 4 (qQ t.1 :: vI t.2.1 :: vI t.2.2.1 :: dd 8 [])), [(10000000, .root true 64 yi t.2.2.2)]⟩
def yhQ : Gk Wr := fun κ => Zg (fun t => κ (some 0) ⟨dd 5 (.own 10000000 :: dd 15 []), [(10000000, .root true 64 yi t)]⟩)
def yjK : Lp := lpC 3 (unG yu0 y6z) @yhQ lpN
theorem yr2 : LF yjJ yjK 249 3 Tryz.f249 0 y6z @yhQ fun t => t := fun R κ again t => by kernel_rfl
theorem yr3 : LK yjJ yjK 249 Tryz.f249 0 := lkN (u := (unG yu0 y6z)) (yr fun t => by kernel_rfl) yr2
theorem yvN : EV yjJ yjK 249 Tryz.f249 yoi qz3 [(.sl 64 yi)] Z7 := fun x => by kernel_rfl
def yCv : QF := ⟨249, Z7, okN (n := 1) Tryz.func249 ⟨yr3, trivial⟩ yvN⟩
abbrev qS : Type := ytZ
def Ws (k0 : List y9 → Option R) (again : qS → Option R) (t3 : qS) : Option R :=
 bif (decide (t3.2.2.1 < t3.2.1)) then if (0 : Int) ≤ t3.2.2.1 then if t3.2.2.1 < (List.length t3.1 : Int) then bif ((y6 t3.1 t3.2.2.1).2.2.1 != (0 : Int)) then if (List.length t3.2.2.2 + List.length ([((y6 t3.1 t3.2.2.1).1, (y6 t3.1 t3.2.2.1).2.1, (y6 t3.1 t3.2.2.1).2.2.1, (y6 t3.1 t3.2.2.1).2.2.2.1, (y6 t3.1 t3.2.2.1).2.2.2.2)] : List y9)) * 40 < 140737488355328 then again (t3.1, t3.2.1, (Go.IntKind.wrap .i64 (t3.2.2.1 + (1 : Int))), (t3.2.2.2 ++ ([((y6 t3.1 t3.2.2.1).1, (y6 t3.1 t3.2.2.1).2.1, (y6 t3.1 t3.2.2.1).2.2.1, (y6 t3.1 t3.2.2.1).2.2.2.1, (y6 t3.1 t3.2.2.1).2.2.2.2)] : List y9))) else none else again (t3.1, t3.2.1, (Go.IntKind.wrap .i64 (t3.2.2.1 + (1 : Int))), t3.2.2.2) else none else none else k0 t3.2.2.2
def y1N k0 := zI (@Ws R k0) Y0
def Jp (x : List y9) : Option (List y9) :=
 y1N (fun x1 => some x1) (x, (List.length x : Int), (0 : Int), ([] : List y9))
def yjL : List QF := []
def y6A (t : ytZ) : St := ⟨dd 3 (.own 10000000 :: dd 3 (qQ t.1 :: vI t.2.1 :: vI t.2.2.1 :: dd 12 [])), [(10000000, .root true 64 yi t.2.2.2)]⟩
def yhR : Gk qS := fun κ => Ws (fun t => κ (some 0) ⟨dd 3 (.own 10000000 :: dd 18 []), [(10000000, .root true 64 yi t)]⟩)
def yjM : Lp := lpC 3 (unG yu0 y6A) @yhR lpN
theorem yr4 : LF yjL yjM 250 3 Tryz.f250 0 y6A @yhR fun t => t := fun R κ again t => by kernel_rfl
theorem yr5 : LK yjL yjM 250 Tryz.f250 0 := lkN (u := (unG yu0 y6A)) (yr fun t => by kernel_rfl) yr4
theorem yvO : EV yjL yjM 250 Tryz.f250 yoj [(.sl 64 yi)] [(.sl 64 yi)] Jp := fun x => by kernel_rfl
def yBd : QF := ⟨250, Jp, okN (n := 1) Tryz.func250 ⟨yr5, trivial⟩ yvO⟩
abbrev kZ : Type := yzq
def ZQ (k0 : List y9 → Option R) (again : kZ → Option R) (t3 : kZ) : Option R :=
 bif (decide (t3.2.2.1 < t3.2.1)) then if (0 : Int) ≤ t3.2.2.1 then if t3.2.2.1 < (List.length t3.1 : Int) then Option.bind (Z7 (t3.2.2.2, (yo t3.1 t3.2.2.1))) fun r1 => again (t3.1, t3.2.1, (Go.IntKind.wrap .i64 (t3.2.2.1 + (1 : Int))), r1) else none else none else k0 t3.2.2.2
def qr k0 := zI (@ZQ R k0) Y0
def yK (x : List yb) : Option (List y9) :=
 qr (fun x2 => Option.bind (Jp x2) fun r3 => some r3) (x, (List.length x : Int), (0 : Int), ([] : List y9))
def yjN : List QF := [yCv, yBd]
def y6B (t : yzq) : St := ⟨dd 3 (.own 10000000 :: dd 4 (Yp t.1 :: vI t.2.1 :: vI t.2.2.1 :: dd 9 [])), [(10000000, .root true 64 yi t.2.2.2)]⟩
def yhS : Gk kZ := fun κ => ZQ (fun t => κ (some 0) ⟨dd 3 (.own 10000000 :: dd 16 []), [(10000000, .root true 64 yi t)]⟩)
def yjO : Lp := lpC 3 (unG yzr y6B) @yhS lpN
theorem yr6 : LF yjN yjO 127 3 Tryz.f127 0 y6B @yhS fun t => t := fun R κ again t => by kernel_rfl
theorem yr7 : LK yjN yjO 127 Tryz.f127 0 := lkN (u := (unG yzr y6B)) (yr fun t => by kernel_rfl) yr6
theorem yvP : EV yjN yjO 127 Tryz.f127 yok [(.sl 58 yn)] [(.sl 64 yi)] yK := fun x => by kernel_rfl
def yr8 : QF := ⟨127, yK, okN (n := 1) Tryz.func127 ⟨yr7, trivial⟩ yvP⟩
def Wb (x : yeW) : Option Bool :=
 Option.bind (yw (x.1, (0 : Int), (15 : Int))) fun r1 => Option.bind (bif (!r1) then some true else Option.bind (yw (x.2.1, (1 : Int), (60 : Int))) fun r3 => some (!r3)) fun u2 => Option.bind (bif u2 then some true else Option.bind (yw (x.2.2.1, (0 : Int), (2 : Int))) fun r5 => some (!r5)) fun u4 => bif u4 then some false else bif (x.2.2.1 != (1 : Int)) then Option.bind (bif (x.2.2.2.1 == (0 : Int)) then some (x.2.2.2.2 == (0 : Int)) else some false) fun u6 => some u6 else Option.bind (yw (x.2.2.2.1, (0 : Int), (23 : Int))) fun r7 => Option.bind (bif r7 then Option.bind (yw (x.2.2.2.2, (0 : Int), (999 : Int))) fun r9 => some r9 else some false) fun u8 => some u8
theorem yvQ : EV [q92] lpN 218 Tryz.f218 yol Vm [.bool] Wb := fun x => by kernel_rfl
def yBe : QF := ⟨218, Wb, okN (n := 0) Tryz.func218 trivial yvQ⟩
abbrev VI : Type := yzs
def ww (k0 : yzu → Option R) (k1 : List y9 → Option R) (again : VI → Option R) (t2 : VI) : Option R :=
 bif (decide (t2.2.2.2 < t2.2.2.1)) then if (0 : Int) ≤ t2.2.2.2 then if t2.2.2.2 < (List.length t2.2.1 : Int) then Option.bind (Wb ((y6 t2.2.1 t2.2.2.2).1, (y6 t2.2.1 t2.2.2.2).2.1, (y6 t2.2.1 t2.2.2.2).2.2.1, (y6 t2.2.1 t2.2.2.2).2.2.2.1, (y6 t2.2.1 t2.2.2.2).2.2.2.2)) fun r1 => Option.bind (bif (!r1) then some true else Option.bind (bif (decide (t2.2.2.2 > (0 : Int))) then if (0 : Int) ≤ (Go.IntKind.wrap .i64 (t2.2.2.2 - (1 : Int))) then if (Go.IntKind.wrap .i64 (t2.2.2.2 - (1 : Int))) < (List.length t2.1 : Int) then Option.bind (jZ ((y6 t2.1 (Go.IntKind.wrap .i64 (t2.2.2.2 - (1 : Int)))).1, (y6 t2.1 (Go.IntKind.wrap .i64 (t2.2.2.2 - (1 : Int)))).2.1, (y6 t2.1 (Go.IntKind.wrap .i64 (t2.2.2.2 - (1 : Int)))).2.2.1, (y6 t2.1 (Go.IntKind.wrap .i64 (t2.2.2.2 - (1 : Int)))).2.2.2.1, (y6 t2.1 (Go.IntKind.wrap .i64 (t2.2.2.2 - (1 : Int)))).2.2.2.2, (y6 t2.2.1 t2.2.2.2).1, (y6 t2.2.1 t2.2.2.2).2.1, (y6 t2.2.1 t2.2.2.2).2.2.1, (y6 t2.2.1 t2.2.2.2).2.2.2.1, (y6 t2.2.1 t2.2.2.2).2.2.2.2)) fun r4 => some (!r4) else none else none else some false) fun u3 => some u3) fun u2 => bif u2 then k0 (t2.1, false) else again (t2.1, t2.2.1, t2.2.2.1, (Go.IntKind.wrap .i64 (t2.2.2.2 + (1 : Int)))) else none else none else k1 t2.1
def y0R k0 k1 := zI (@ww R k0 k1) Y0
def Kz (x : List y9) : Option Bool :=
 y0R (fun x5 => some x5.2) (fun x6 => some (decide ((List.length x6 : Int) ≤ (60 : Int)))) (x, x, (List.length x : Int), (0 : Int))
def yjP : List QF := [yBe, yBc]
def y6C (t : yzs) : St := ⟨qQ t.1 :: dd 4 (qQ t.2.1 :: vI t.2.2.1 :: vI t.2.2.2 :: dd 25 []), []⟩
def yhT : Gk VI := fun κ => ww (fun t => κ none ⟨qQ t.1 :: .dead :: vB t.2 :: dd 30 [], []⟩) (fun t => κ (some 0) ⟨qQ t :: dd 32 [], []⟩)
def yjQ : Lp := lpC 2 (unG yzt y6C) @yhT lpN
theorem yr9 : LF yjP yjQ 323 2 Tryz.f323 0 y6C @yhT fun t => t := fun R κ again t => by kernel_rfl
theorem yra : LK yjP yjQ 323 Tryz.f323 0 := lkN (u := (unG yzt y6C)) (yr fun t => by kernel_rfl) yr9
theorem yvR : EV yjP yjQ 323 Tryz.f323 yom [(.sl 64 yi)] [.bool] Kz := fun x => by kernel_rfl
def yCw : QF := ⟨323, Kz, okN (n := 1) Tryz.func323 ⟨yra, trivial⟩ yvR⟩
abbrev vw : Type := yzv
def Jq (k0 : yC1 → Option R) (k1 : yhI → Option R) (again : vw → Option R) (t3 : vw) : Option R :=
 bif (decide (t3.2.2.2.1 < t3.2.2.1)) then if (0 : Int) ≤ t3.2.2.2.1 then if t3.2.2.2.1 < (List.length t3.2.1 : Int) then Option.bind (Kz (yo t3.2.1 t3.2.2.2.1)) fun r1 => Option.bind (bif (!r1) then some true else some ((List.length (yo t3.2.1 t3.2.2.2.1) : Int) == (0 : Int))) fun u2 => bif u2 then k0 (false, t3.1, t3.2.2.2.2) else again ((Go.IntKind.wrap .i64 (t3.1 + (List.length (yo t3.2.1 t3.2.2.2.1) : Int))), t3.2.1, t3.2.2.1, (Go.IntKind.wrap .i64 (t3.2.2.2.1 + (1 : Int))), t3.2.2.2.2) else none else none else k1 (t3.1, t3.2.2.2.2)
def QD k0 k1 := zI (@Jq R k0 k1) Y0
def zB (x : List yb) : Option Bool :=
 QD (fun x3 => some x3.1) (fun x4 => Option.bind (bif (decide ((List.length x4.2 : Int) ≤ (3 : Int))) then some (decide (x4.1 ≤ (8 : Int))) else some false) fun u5 => some u5) ((0 : Int), x, (List.length x : Int), (0 : Int), x)
def yjR : List QF := [yCw]
def y6D (t : yzv) : St := ⟨.dead :: .box 1 0 :: .dead :: vI t.1 :: dd 3 (Yp t.2.1 :: vI t.2.2.1 :: vI t.2.2.2.1 :: dd 24 []), [(1, .box [Yp t.2.2.2.2])]⟩
def yhU : Gk vw := fun κ => Jq (fun t => κ none ⟨.dead :: .box 1 0 :: vB t.1 :: vI t.2.1 :: dd 30 [], [(1, .box [Yp t.2.2])]⟩) (fun t => κ (some 0) ⟨.dead :: .box 1 0 :: .dead :: vI t.1 :: dd 30 [], [(1, .box [Yp t.2])]⟩)
def yjS : Lp := lpC 3 (unG yzw y6D) @yhU lpN
theorem yrb : LF yjR yjS 251 3 Tryz.f251 0 y6D @yhU fun t => t := fun R κ again t => by kernel_rfl
theorem yrc : LK yjR yjS 251 Tryz.f251 0 := lkN (u := (unG yzw y6D)) (yr fun t => by kernel_rfl) yrb
theorem yvS : EV yjR yjS 251 Tryz.f251 yon [(.sl 58 yn)] [.bool] zB := fun x => by kernel_rfl
def yBf : QF := ⟨251, zB, okN (n := 1) Tryz.func251 ⟨yrc, trivial⟩ yvS⟩
def Zh (x : yfH) : Option Int :=
 some (Go.IntKind.wrap .i64 ((Go.IntKind.wrap .i64 ((64 : Int) * x.1)) + x.2))
theorem yvT : EV [] lpN 223 Tryz.f223 yoo yhJ [(.int .i64)] Zh := fun x => by kernel_rfl
def yvU : QF := ⟨223, Zh, okN (n := 0) Tryz.func223 trivial yvT⟩
abbrev K0 : Type := yzx
def ZR (k0 : yC2 → Option R) (k1 : yuF → Option R) (again : K0 → Option R) (t5 : K0) : Option R :=
 bif (decide (t5.2.2.2.2.2.2.1 < t5.2.2.2.2.2.1)) then if (0 : Int) ≤ t5.2.2.2.2.2.2.1 then if t5.2.2.2.2.2.2.1 < (List.length t5.2.2.2.2.1 : Int) then Option.bind (Zh ((y6 t5.2.2.2.2.1 t5.2.2.2.2.2.2.1).1, (y6 t5.2.2.2.2.1 t5.2.2.2.2.2.2.1).2.1)) fun r1 => if (0 : Int) ≤ t5.1 then if t5.1 < (List.length t5.2.2.2.2.2.2.2.1 : Int) then Option.bind (bif (decide (r1 < (zu t5.2.2.2.2.2.2.2.1 t5.1))) then some true else Option.bind (bif (decide ((Go.IntKind.wrap .i64 (t5.1 + (1 : Int))) < (List.length t5.2.2.2.2.2.2.2.1 : Int))) then if (0 : Int) ≤ (Go.IntKind.wrap .i64 (t5.1 + (1 : Int))) then if (Go.IntKind.wrap .i64 (t5.1 + (1 : Int))) < (List.length t5.2.2.2.2.2.2.2.1 : Int) then some (decide (r1 ≥ (zu t5.2.2.2.2.2.2.2.1 (Go.IntKind.wrap .i64 (t5.1 + (1 : Int)))))) else none else none else some false) fun u3 => some u3) fun u2 => bif u2 then k0 (t5.1, false, t5.2.1, t5.2.2.1, t5.2.2.2.1, t5.2.2.2.2.2.2.2) else again (t5.1, t5.2.1, t5.2.2.1, t5.2.2.2.1, t5.2.2.2.2.1, t5.2.2.2.2.2.1, (Go.IntKind.wrap .i64 (t5.2.2.2.2.2.2.1 + (1 : Int))), t5.2.2.2.2.2.2.2.1, t5.2.2.2.2.2.2.2.2) else none else none else none else none else k1 (t5.1, t5.2.1, t5.2.2.1, t5.2.2.2.1, t5.2.2.2.2.2.2.2)
def K1 k0 k1 := zI (@ZR R k0 k1) Y0
abbrev K2 : Type := yuF
def ZS (k0 : Bool → Option R) (k1 : Unit → Option R) (again : K2 → Option R) (t2 : K2) : Option R :=
 bif (decide (t2.2.2.2.1 < t2.2.2.1)) then if (0 : Int) ≤ t2.2.2.2.1 then if t2.2.2.2.1 < (List.length t2.2.1 : Int) then K1 (fun x4 => k0 x4.2.1) (fun x5 => again (x5.1, x5.2.1, x5.2.2.1, (Go.IntKind.wrap .i64 (x5.2.2.2.1 + (1 : Int))), x5.2.2.2.2.1, x5.2.2.2.2.2)) (t2.1, t2.2.1, t2.2.2.1, t2.2.2.2.1, (yo t2.2.1 t2.2.2.2.1), (List.length (yo t2.2.1 t2.2.2.2.1) : Int), (0 : Int), t2.2.2.2.2.1, t2.2.2.2.2.2) else none else none else k1 ()
def qs k0 k1 := zI (@ZS R k0 k1) Y0
def Jr (x : ymI) : Option Bool :=
 if (0 : Int) ≤ x.2.2 then if x.2.2 < (List.length x.2.1 : Int) then qs (fun x6 => some x6) (fun x7 => some true) (x.2.2, (yf x.2.1 x.2.2), (List.length (yf x.2.1 x.2.2) : Int), (0 : Int), x.1, x.2.1) else none else none
def ydX : List QF := [yvU]
def y6E (t : yzx) : St := ⟨.dead :: vI t.1 :: .box 2 0 :: dd 12 (Yp t.2.1 :: vI t.2.2.1 :: vI t.2.2.2.1 :: dd 3 (qQ t.2.2.2.2.1 :: vI t.2.2.2.2.2.1 :: vI t.2.2.2.2.2.2.1 :: dd 35 [])), [(2, .box [zg t.2.2.2.2.2.2.2.1, yI t.2.2.2.2.2.2.2.2])]⟩
def yhV : Gk K0 := fun κ => ZR (fun t => κ none ⟨.dead :: vI t.1 :: .box 2 0 :: .dead :: vB t.2.1 :: dd 10 (Yp t.2.2.1 :: vI t.2.2.2.1 :: vI t.2.2.2.2.1 :: dd 41 []), [(2, .box [zg t.2.2.2.2.2.1, yI t.2.2.2.2.2.2])]⟩) (fun t => κ (some 2) ⟨.dead :: vI t.1 :: .box 2 0 :: dd 12 (Yp t.2.1 :: vI t.2.2.1 :: vI t.2.2.2.1 :: dd 41 []), [(2, .box [zg t.2.2.2.2.1, yI t.2.2.2.2.2])]⟩)
def y6F (t : yuF) : St := ⟨.dead :: vI t.1 :: .box 2 0 :: dd 12 (Yp t.2.1 :: vI t.2.2.1 :: vI t.2.2.2.1 :: dd 41 []), [(2, .box [zg t.2.2.2.2.1, yI t.2.2.2.2.2])]⟩
def yhW : Gk K2 := fun κ => ZS (fun t => κ none ⟨dd 4 (vB t :: dd 54 []), []⟩) (fun t => κ (some 0) ⟨dd 59 [], []⟩)
def ydY : Lp := lpC 2 (unG yzz y6F) @yhW (lpC 5 (unG yzy y6E) @yhV lpN)
theorem yrd : LF ydX ydY 252 5 Tryz.f252 1 y6E @yhV fun t => t := fun R κ again t => by kernel_rfl
theorem yre : LK ydX ydY 252 Tryz.f252 1 := lkN (u := (unG yzy y6E)) (yr fun t => by kernel_rfl) yrd
theorem yrf : LF ydX ydY 252 2 Tryz.f252 0 y6F @yhW fun t => t := fun R κ again t => by kernel_rfl
theorem yrg : LK ydX ydY 252 Tryz.f252 0 := lkN (u := (unG yzz y6F)) (yr fun t => by kernel_rfl) yrf
theorem yvV : EV ydX ydY 252 Tryz.f252 yop ymJ [.bool] Jr := fun x => by kernel_rfl
def yCx : QF := ⟨252, Jr, okN (n := 2) Tryz.func252 ⟨yrg, yre, trivial⟩ yvV⟩
abbrev vx : Type := yzA
def Js (k0 : yzC → Option R) (k1 : Int → Option R) (again : vx → Option R) (t5 : vx) : Option R :=
 bif (decide (t5.2.2.2.1 < t5.2.2.1)) then if (0 : Int) ≤ t5.2.2.2.1 then if t5.2.2.2.1 < (List.length t5.2.1 : Int) then Option.bind (bif (decide (t5.2.2.2.1 > (0 : Int))) then if (0 : Int) ≤ (Go.IntKind.wrap .i64 (t5.2.2.2.1 - (1 : Int))) then if (Go.IntKind.wrap .i64 (t5.2.2.2.1 - (1 : Int))) < (List.length t5.2.2.2.2.1 : Int) then if (0 : Int) ≤ t5.2.2.2.1 then if t5.2.2.2.1 < (List.length t5.2.2.2.2.1 : Int) then some (decide ((zu t5.2.2.2.2.1 (Go.IntKind.wrap .i64 (t5.2.2.2.1 - (1 : Int)))) ≥ (zu t5.2.2.2.2.1 t5.2.2.2.1))) else none else none else none else none else some false) fun u4 => Option.bind (bif u4 then some true else Option.bind (zB (yf t5.2.1 t5.2.2.2.1)) fun r6 => some (!r6)) fun u5 => Option.bind (bif u5 then some true else Option.bind (Jr (t5.2.2.2.2.1, t5.2.2.2.2.2, t5.2.2.2.1)) fun r8 => some (!r8)) fun u7 => bif u7 then k0 (false, t5.1) else Option.bind (yK (yf t5.2.1 t5.2.2.2.1)) fun r9 => Option.bind (bif (decide (t5.2.2.2.1 > (0 : Int))) then some ((List.length r9 : Int) == (0 : Int)) else some false) fun u10 => bif u10 then k0 (false, t5.1) else again ((Go.IntKind.wrap .i64 (t5.1 + (List.length r9 : Int))), t5.2.1, t5.2.2.1, (Go.IntKind.wrap .i64 (t5.2.2.2.1 + (1 : Int))), t5.2.2.2.2.1, t5.2.2.2.2.2) else none else none else k1 t5.1
def QE k0 k1 := zI (@Js R k0 k1) Y0
def Yi (x : y4f) : Option Bool :=
 Option.bind (yw ((List.length x.2 : Int), (1 : Int), (20 : Int))) fun r1 => Option.bind (bif (!r1) then some true else some ((List.length x.1 : Int) != (List.length x.2 : Int))) fun u2 => Option.bind (bif u2 then some true else if (0 : Int) ≤ (0 : Int) then if (0 : Int) < (List.length x.1 : Int) then some ((zu x.1 (0 : Int)) != (0 : Int)) else none else none) fun u3 => bif u3 then some false else QE (fun x11 => some x11.1) (fun x12 => some (decide (x12 ≤ (60 : Int)))) ((0 : Int), x.2, (List.length x.2 : Int), (0 : Int), x.1, x.2)
def yjT : List QF := [q92, yr8, yBf, yCx]
def y6G (t : yzA) : St := ⟨.dead :: .box 1 0 :: .dead :: vI t.1 :: dd 25 (yI t.2.1 :: vI t.2.2.1 :: vI t.2.2.2.1 :: dd 46 []), [(1, .box [zg t.2.2.2.2.1, yI t.2.2.2.2.2])]⟩
def yhX : Gk vx := fun κ => Js (fun t => κ none ⟨dd 2 (vB t.1 :: vI t.2 :: dd 74 []), []⟩) (fun t => κ (some 0) ⟨dd 3 (vI t :: dd 74 []), []⟩)
def yjU : Lp := lpC 5 (unG yzB y6G) @yhX lpN
theorem yrh : LF yjT yjU 128 5 Tryz.f128 0 y6G @yhX fun t => t := fun R κ again t => by kernel_rfl
theorem yri : LK yjT yjU 128 Tryz.f128 0 := lkN (u := (unG yzB y6G)) (yr fun t => by kernel_rfl) yrh
theorem yvW : EV yjT yjU 128 Tryz.f128 yoq Wk [.bool] Yi := fun x => by kernel_rfl
def yBg : QF := ⟨128, Yi, okN (n := 1) Tryz.func128 ⟨yri, trivial⟩ yvW⟩
def Km (x : yuD) : Option yzC :=
 some ((x.1 == x.2.2), x.2.2)
theorem yvX : EV [] lpN 319 Tryz.f319 yor yuE yC3 Km := fun x => by kernel_rfl
def yCy : QF := ⟨319, Km, okN (n := 0) Tryz.func319 trivial yvX⟩
abbrev zG : Type := ymK
def yR (k0 : yfH → Option R) (k1 : Int → Option R) (again : zG → Option R) (t2 : zG) : Option R :=
 bif (decide (t2.2.2.1 < t2.2.1)) then if (0 : Int) ≤ t2.2.2.1 then if t2.2.2.1 < (List.length t2.1 : Int) then Option.bind (Km ((yD t2.1 t2.2.2.1).1, (yD t2.1 t2.2.2.1).2, t2.2.2.2)) fun r1 => bif r1.1 then k0 (t2.2.2.1, r1.2) else again (t2.1, t2.2.1, (Go.IntKind.wrap .i64 (t2.2.2.1 + (1 : Int))), r1.2) else none else none else k1 t2.2.2.2
def YE k0 k1 := zI (@yR R k0 k1) Y0
def yY (x : yeX) : Option yfH :=
 YE (fun x2 => some x2) (fun x3 => some ((-1 : Int), x3)) (x.1, (List.length x.1 : Int), (0 : Int), x.2)
def y6H : List QF := [yCy]
def y1g (t : ymK) : St := ⟨zm t.1 :: .clo 319 901 :: dd 5 (vI t.2.1 :: vI t.2.2.1 :: dd 10 []), [(901, .box [vI t.2.2.2])]⟩
def y8U : Gk zG := fun κ => yR (fun t => κ none ⟨.dead :: .clo 319 901 :: dd 2 (vI t.1 :: dd 14 []), [(901, .box [vI t.2])]⟩) (fun t => κ (some 0) ⟨.dead :: .clo 319 901 :: dd 17 [], [(901, .box [vI t])]⟩)
def y6I : Lp := lpC 2 (unG yu2 y1g) @y8U lpN
theorem ydZ : LF y6H y6I 100000 2 Tryz.f318 0 y1g @y8U fun t => t := fun R κ again t => by kernel_rfl
theorem ye0 : LK y6H y6I 100000 Tryz.f318 0 := lkN (u := (unG yu2 y1g)) (yr fun t => by kernel_rfl) ydZ
theorem yfY : EV y6H y6I 100000 Tryz.f318 ybt yeY yhJ yY := fun x => by kernel_rfl
def yjV : QF := ⟨100000, yY, okN (n := 1) Tryz.func318 ⟨ye0, trivial⟩ yfY⟩
def Yq (x : yeX) : Option Int :=
 Option.bind (yY x) fun r1 => some r1.1
theorem yvY : EV [yjV] lpN 245 Tryz.f245 yos yeY [(.int .i64)] Yq := fun x => by kernel_rfl
def yrj : QF := ⟨245, Yq, okN (n := 0) Tryz.func245 trivial yvY⟩
abbrev vy : Type := yzD
def Jt (k0 : ymL → Option R) (k1 : List ya → Option R) (again : vy → Option R) (t2 : vy) : Option R :=
 bif (decide (t2.2.2.2 < t2.2.2.1)) then if (0 : Int) ≤ t2.2.2.2 then if t2.2.2.2 < (List.length t2.2.1 : Int) then Option.bind (yw ((yD t2.2.1 t2.2.2.2).1, (1 : Int), (60 : Int))) fun r1 => Option.bind (bif (!r1) then some true else Option.bind (bif (decide (t2.2.2.2 > (0 : Int))) then if (0 : Int) ≤ (Go.IntKind.wrap .i64 (t2.2.2.2 - (1 : Int))) then if (Go.IntKind.wrap .i64 (t2.2.2.2 - (1 : Int))) < (List.length t2.1 : Int) then some (decide ((yD t2.1 (Go.IntKind.wrap .i64 (t2.2.2.2 - (1 : Int)))).1 ≥ (yD t2.2.1 t2.2.2.2).1)) else none else none else some false) fun u3 => some u3) fun u2 => Option.bind (bif u2 then some true else Option.bind (bif ((yD t2.2.1 t2.2.2.2).2 != (0 : Int)) then if (0 : Int) ≤ (0 : Int) then if (0 : Int) ≤ t2.2.2.2 then if t2.2.2.2 ≤ (List.length t2.1 : Int) then Option.bind (Yq ((List.drop (Int.toNat (0 : Int)) (List.take (Int.toNat t2.2.2.2) t2.1)), (yD t2.2.1 t2.2.2.2).2)) fun r6 => some (decide (r6 < (0 : Int))) else none else none else none else some false) fun u5 => some u5) fun u4 => bif u4 then k0 (t2.1, false) else again (t2.1, t2.2.1, t2.2.2.1, (Go.IntKind.wrap .i64 (t2.2.2.2 + (1 : Int)))) else none else none else k1 t2.1
def QG k0 k1 := zI (@Jt R k0 k1) Y0
def jp (x : List ya) : Option Bool :=
 QG (fun x7 => some x7.2) (fun x8 => some (decide ((List.length x8 : Int) ≤ (16 : Int)))) (x, x, (List.length x : Int), (0 : Int))
def yjW : List QF := [q92, yrj]
def y6J (t : yzD) : St := ⟨zm t.1 :: dd 4 (zm t.2.1 :: vI t.2.2.1 :: vI t.2.2.2 :: dd 41 []), []⟩
def yhY : Gk vy := fun κ => Jt (fun t => κ none ⟨zm t.1 :: .dead :: vB t.2 :: dd 46 [], []⟩) (fun t => κ (some 0) ⟨zm t :: dd 48 [], []⟩)
def yjX : Lp := lpC 2 (unG yzE y6J) @yhY lpN
theorem yrk : LF yjW yjX 129 2 Tryz.f129 0 y6J @yhY fun t => t := fun R κ again t => by kernel_rfl
theorem yrl : LK yjW yjX 129 Tryz.f129 0 := lkN (u := (unG yzE y6J)) (yr fun t => by kernel_rfl) yrk
theorem yvZ : EV yjW yjX 129 Tryz.f129 yot [(.sl 146 yk)] [.bool] jp := fun x => by kernel_rfl
def yBh : QF := ⟨129, jp, okN (n := 1) Tryz.func129 ⟨yrl, trivial⟩ yvZ⟩
def jq (x : Int) : Option Bool :=
 Option.bind (yw (x, (0 : Int), (65535 : Int))) fun r1 => some r1
theorem yw0 : EV [q92] lpN 125 Tryz.f125 yov [(.int .i64)] [.bool] jq := fun x => by kernel_rfl
def yw1 : QF := ⟨125, jq, okN (n := 0) Tryz.func125 trivial yw0⟩
abbrev KN : Type := yzF
def jG (k0 : yzH → Option R) (k1 : List y7 → Option R) (again : KN → Option R) (t2 : KN) : Option R :=
 bif (decide (t2.2.2.2 < t2.2.2.1)) then if (0 : Int) ≤ t2.2.2.2 then if t2.2.2.2 < (List.length t2.2.1 : Int) then Option.bind (yw ((yl t2.2.1 t2.2.2.2).1, (0 : Int), (999 : Int))) fun r1 => Option.bind (bif (!r1) then some true else Option.bind (jq ((yl t2.2.1 t2.2.2.2).2.2)) fun r3 => some (!r3)) fun u2 => Option.bind (bif u2 then some true else Option.bind (bif ((yl t2.2.1 t2.2.2.2).2.2 != (0 : Int)) then some (!((yl t2.2.1 t2.2.2.2).2.1)) else some false) fun u5 => some u5) fun u4 => bif u4 then k0 (t2.1, false) else again (t2.1, t2.2.1, t2.2.2.1, (Go.IntKind.wrap .i64 (t2.2.2.2 + (1 : Int)))) else none else none else k1 t2.1
def Q9 k0 k1 := zI (@jG R k0 k1) Y0
def Zz (x : List y7) : Option Bool :=
 Q9 (fun x6 => some x6.2) (fun x7 => some ((List.length x7 : Int) == (24 : Int))) (x, x, (List.length x : Int), (0 : Int))
def yjY : List QF := [q92, yw1]
def y6K (t : yzF) : St := ⟨yW t.1 :: dd 4 (yW t.2.1 :: vI t.2.2.1 :: vI t.2.2.2 :: dd 27 []), []⟩
def yhZ : Gk KN := fun κ => jG (fun t => κ none ⟨yW t.1 :: .dead :: vB t.2 :: dd 32 [], []⟩) (fun t => κ (some 0) ⟨yW t :: dd 34 [], []⟩)
def yjZ : Lp := lpC 2 (unG yzG y6K) @yhZ lpN
theorem yrm : LF yjY yjZ 130 2 Tryz.f130 0 y6K @yhZ fun t => t := fun R κ again t => by kernel_rfl
theorem yrn : LK yjY yjZ 130 Tryz.f130 0 := lkN (u := (unG yzG y6K)) (yr fun t => by kernel_rfl) yrm
theorem yw2 : EV yjY yjZ 130 Tryz.f130 yow [(.sl 113 yg)] [.bool] Zz := fun x => by kernel_rfl
def yw3 : QF := ⟨130, Zz, okN (n := 1) Tryz.func130 ⟨yrn, trivial⟩ yw2⟩
abbrev vz : Type := yu3
def vC (k0 : yzI → Option R) (k1 : ByteArray → Option R) (again : vz → Option R) (t2 : vz) : Option R :=
 bif (decide (t2.2 < ((ByteArray.size t2.1 : Nat) : Int))) then if (0 : Int) ≤ t2.2 then if h1 : Int.toNat t2.2 < ByteArray.size t2.1 then Option.bind (yw ((Go.IntKind.wrap .i64 ((UInt8.toNat (ByteArray.get t2.1 (Int.toNat t2.2) h1) : Nat) : Int)), (97 : Int), (122 : Int))) fun r2 => Option.bind (bif (!r2) then if (0 : Int) ≤ t2.2 then if h4 : Int.toNat t2.2 < ByteArray.size t2.1 then Option.bind (yw ((Go.IntKind.wrap .i64 ((UInt8.toNat (ByteArray.get t2.1 (Int.toNat t2.2) h4) : Nat) : Int)), (48 : Int), (57 : Int))) fun r5 => some (!r5) else none else none else some false) fun u3 => bif u3 then k0 (t2.1, false) else again (t2.1, (Go.IntKind.wrap .i64 (t2.2 + (1 : Int)))) else none else none else k1 t2.1
def QH k0 k1 := zI (@vC R k0 k1) Y0
def Yj (x : ByteArray) : Option Bool :=
 QH (fun x6 => some x6.2) (fun x7 => Option.bind (yw (((ByteArray.size x7 : Nat) : Int), (1 : Int), (6 : Int))) fun r8 => some r8) (x, (0 : Int))
def yk0 : List QF := [q92]
def y6L (t : yu3) : St := ⟨vS t.1 :: dd 2 (vI t.2 :: dd 23 []), []⟩
def yi0 : Gk vz := fun κ => vC (fun t => κ none ⟨vS t.1 :: .dead :: vB t.2 :: dd 24 [], []⟩) (fun t => κ (some 0) ⟨vS t :: dd 26 [], []⟩)
def yk1 : Lp := lpC 2 (unG yu4 y6L) @yi0 lpN
theorem yro : LF yk0 yk1 117 2 Tryz.f117 0 y6L @yi0 fun t => t := fun R κ again t => by kernel_rfl
theorem yrp : LK yk0 yk1 117 Tryz.f117 0 := lkN (u := (unG yu4 y6L)) (yr fun t => by kernel_rfl) yro
theorem yw4 : EV yk0 yk1 117 Tryz.f117 yox [.str] [.bool] Yj := fun x => by kernel_rfl
def yrq : QF := ⟨117, Yj, okN (n := 1) Tryz.func117 ⟨yrp, trivial⟩ yw4⟩
abbrev vD : Type := yzJ
def Ju (k0 : List yd → Option R) (again : vD → Option R) (t5 : vD) : Option R :=
 bif (decide (t5.2.2.2.1 < t5.2.2.1)) then if (0 : Int) ≤ t5.2.2.2.1 then if t5.2.2.2.1 < (List.length t5.2.1 : Int) then bif ((yD t5.2.1 t5.2.2.2.1).2 == t5.1) then if (List.length t5.2.2.2.2 + List.length ([(yD t5.2.1 t5.2.2.2.1).1] : List yd)) * 8 < 140737488355328 then again (t5.1, t5.2.1, t5.2.2.1, (Go.IntKind.wrap .i64 (t5.2.2.2.1 + (1 : Int))), (t5.2.2.2.2 ++ ([(yD t5.2.1 t5.2.2.2.1).1] : List yd))) else none else again (t5.1, t5.2.1, t5.2.2.1, (Go.IntKind.wrap .i64 (t5.2.2.2.1 + (1 : Int))), t5.2.2.2.2) else none else none else k0 t5.2.2.2.2
def QI k0 := zI (@Ju R k0) Y0
def Wt (x : yeX) : Option (List yd) :=
 bif (x.2 == (0 : Int)) then some ([] : List yd) else QI (fun x1 => some x1) (x.2, x.1, (List.length x.1 : Int), (0 : Int), ([] : List yd))
def yk2 : List QF := []
def y6M (t : yzJ) : St := ⟨.dead :: vI t.1 :: dd 3 (.own 10000000 :: dd 6 (zm t.2.1 :: vI t.2.2.1 :: vI t.2.2.2.1 :: dd 14 [])), [(10000000, .root true 3 yh t.2.2.2.2)]⟩
def yi1 : Gk vD := fun κ => Ju (fun t => κ (some 0) ⟨dd 5 (.own 10000000 :: dd 23 []), [(10000000, .root true 3 yh t)]⟩)
def yk3 : Lp := lpC 5 (unG yzK y6M) @yi1 lpN
theorem yrr : LF yk2 yk3 135 5 Tryz.f135 0 y6M @yi1 fun t => t := fun R κ again t => by kernel_rfl
theorem yrs : LK yk2 yk3 135 Tryz.f135 0 := lkN (u := (unG yzK y6M)) (yr fun t => by kernel_rfl) yrr
theorem yw5 : EV yk2 yk3 135 Tryz.f135 yoy yeY [(.sl 3 yh)] Wt := fun x => by kernel_rfl
def yCz : QF := ⟨135, Wt, okN (n := 1) Tryz.func135 ⟨yrs, trivial⟩ yw5⟩
def Wu (x : yC4) : Option yzL :=
 some ((x.2.1 == x.2.2.2.2.2.1), x.2.2.2.2.1, x.2.2.2.2.2.1, x.2.2.2.2.2.2.1, x.2.2.2.2.2.2.2)
theorem yw6 : EV [] lpN 254 Tryz.f254 yoz yC5 yzM Wu := fun x => by kernel_rfl
def yCA : QF := ⟨254, Wu, okN (n := 0) Tryz.func254 trivial yw6⟩
abbrev zC : Type := yzN
def yN (k0 : yzP → Option R) (k1 : yC7 → Option R) (again : zC → Option R) (t2 : zC) : Option R :=
 bif (decide (t2.2.2.1 < t2.2.1)) then if (0 : Int) ≤ t2.2.2.1 then if t2.2.2.1 < (List.length t2.1 : Int) then Option.bind (Wu ((y8 t2.1 t2.2.2.1).1, (y8 t2.1 t2.2.2.1).2.1, (y8 t2.1 t2.2.2.1).2.2.1, (y8 t2.1 t2.2.2.1).2.2.2, t2.2.2.2.1, t2.2.2.2.2.1, t2.2.2.2.2.2.1, t2.2.2.2.2.2.2)) fun r1 => bif r1.1 then k0 (t2.2.2.1, r1.2) else again (t2.1, t2.2.1, (Go.IntKind.wrap .i64 (t2.2.2.1 + (1 : Int))), r1.2.1, r1.2.2.1, r1.2.2.2.1, r1.2.2.2.2) else none else none else k1 t2.2.2.2
def Yv k0 k1 := zI (@yN R k0 k1) Y0
def yT (x : yu5) : Option yzP :=
 Yv (fun x2 => some x2) (fun x3 => some ((-1 : Int), x3.1, x3.2.1, x3.2.2.1, x3.2.2.2)) (x.1, (List.length x.1 : Int), (0 : Int), x.2.1, x.2.2.1, x.2.2.2.1, x.2.2.2.2)
def y6N : List QF := [yCA]
def y1h (t : yzN) : St := ⟨Yu t.1 :: .clo 254 901 :: dd 5 (vI t.2.1 :: vI t.2.2.1 :: dd 10 []), [(901, .box [vS t.2.2.2.1, vI t.2.2.2.2.1, vI t.2.2.2.2.2.1, vB t.2.2.2.2.2.2])]⟩
def y8V : Gk zC := fun κ => yN (fun t => κ none ⟨.dead :: .clo 254 901 :: dd 2 (vI t.1 :: dd 14 []), [(901, .box [vS t.2.1, vI t.2.2.1, vI t.2.2.2.1, vB t.2.2.2.2])]⟩) (fun t => κ (some 0) ⟨.dead :: .clo 254 901 :: dd 17 [], [(901, .box [vS t.1, vI t.2.1, vI t.2.2.1, vB t.2.2.2])]⟩)
def y6O : Lp := lpC 2 (unG yzO y1h) @y8V lpN
theorem ye1 : LF y6N y6O 100002 2 Tryz.f242 0 y1h @y8V fun t => t := fun R κ again t => by kernel_rfl
theorem ye2 : LK y6N y6O 100002 Tryz.f242 0 := lkN (u := (unG yzO y1h)) (yr fun t => by kernel_rfl) ye1
theorem yfZ : EV y6N y6O 100002 Tryz.f242 ybu yu6 yC6 yT := fun x => by kernel_rfl
def yk4 : QF := ⟨100002, yT, okN (n := 1) Tryz.func242 ⟨ye2, trivial⟩ yfZ⟩
def yF (x : yu5) : Option yzL :=
 Option.bind (yT x) fun r1 => some ((decide (r1.1 ≥ (0 : Int))), r1.2.1, r1.2.2.1, r1.2.2.2.1, r1.2.2.2.2)
theorem yg0 : EV [yk4] lpN 100001 Tryz.f253 ybv yu6 yzM yF := fun x => by kernel_rfl
def yk5 : QF := ⟨100001, yF, okN (n := 0) Tryz.func253 trivial yg0⟩
abbrev vE : Type := yzQ
def Jv (k0 : yfI → Option R) (k1 : y6q → Option R) (again : vE → Option R) (t2 : vE) : Option R :=
 bif (decide (t2.2.2.1 < t2.2.1)) then if (0 : Int) ≤ t2.2.2.1 then if t2.2.2.1 < (List.length t2.1 : Int) then Option.bind (Yj ((y8 t2.1 t2.2.2.1).1)) fun r1 => Option.bind (bif (!r1) then some true else Option.bind (bif (decide (t2.2.2.1 > (0 : Int))) then if (0 : Int) ≤ (Go.IntKind.wrap .i64 (t2.2.2.1 - (1 : Int))) then if (Go.IntKind.wrap .i64 (t2.2.2.1 - (1 : Int))) < (List.length t2.2.2.2.2.2.2.2.1 : Int) then some (!Go.Op.bytesLess (ByteArray.toList ((y8 t2.2.2.2.2.2.2.2.1 (Go.IntKind.wrap .i64 (t2.2.2.1 - (1 : Int)))).1)) (ByteArray.toList ((y8 t2.1 t2.2.2.1).1))) else none else none else some false) fun u3 => some u3) fun u2 => Option.bind (bif u2 then some true else Option.bind (yw ((y8 t2.1 t2.2.2.1).2.2.1, (1 : Int), (12 : Int))) fun r5 => some (!r5)) fun u4 => bif u4 then k0 (false, t2.2.2.2) else Option.bind (Yq (t2.2.2.2.2.2.1, (y8 t2.1 t2.2.2.1).2.1)) fun r6 => Option.bind (bif (decide (r6 < (0 : Int))) then some true else Option.bind (Wt (t2.2.2.2.2.2.1, (y8 t2.1 t2.2.2.1).2.1)) fun r8 => some (decide ((List.length r8 : Int) > (0 : Int)))) fun u7 => bif u7 then k0 (false, t2.2.2.2) else if (0 : Int) ≤ (0 : Int) then if (0 : Int) ≤ t2.2.2.1 then if t2.2.2.1 ≤ (List.length t2.2.2.2.2.2.2.2.1 : Int) then Option.bind (yF ((List.drop (Int.toNat (0 : Int)) (List.take (Int.toNat t2.2.2.1) t2.2.2.2.2.2.2.2.1)), (y8 t2.1 t2.2.2.1).1, (y8 t2.1 t2.2.2.1).2.1, (y8 t2.1 t2.2.2.1).2.2.1, (y8 t2.1 t2.2.2.1).2.2.2)) fun r9 => bif r9.1 then k0 (false, t2.2.2.2) else again (t2.1, t2.2.1, (Go.IntKind.wrap .i64 (t2.2.2.1 + (1 : Int))), t2.2.2.2.1, t2.2.2.2.2.1, t2.2.2.2.2.2.1, t2.2.2.2.2.2.2.1, t2.2.2.2.2.2.2.2.1, t2.2.2.2.2.2.2.2.2) else none else none else none else none else none else k1 t2.2.2.2
def QJ k0 k1 := zI (@Jv R k0 k1) Y0
def Wv (x : y6q) : Option Bool :=
 QJ (fun x10 => some x10.1) (fun x11 => some (decide ((List.length x11.2.2.2.2.1 : Int) ≤ (6 : Int)))) (x.2.2.2.2.1, (List.length x.2.2.2.2.1 : Int), (0 : Int), x.1, x.2.1, x.2.2.1, x.2.2.2.1, x.2.2.2.2.1, x.2.2.2.2.2)
def yk6 : List QF := [q92, yrq, yCz, yrj, yk5]
def y6P (t : yzQ) : St := ⟨.dead :: .box 1 0 :: dd 4 (Yu t.1 :: vI t.2.1 :: vI t.2.2.1 :: dd 56 []), [(1, .box [zg t.2.2.2.1, yI t.2.2.2.2.1, zm t.2.2.2.2.2.1, yW t.2.2.2.2.2.2.1, Yu t.2.2.2.2.2.2.2.1, vI t.2.2.2.2.2.2.2.2])]⟩
def yi2 : Gk vE := fun κ => Jv (fun t => κ none ⟨.dead :: .box 1 0 :: vB t.1 :: dd 62 [], [(1, .box [zg t.2.1, yI t.2.2.1, zm t.2.2.2.1, yW t.2.2.2.2.1, Yu t.2.2.2.2.2.1, vI t.2.2.2.2.2.2])]⟩) (fun t => κ (some 0) ⟨.dead :: .box 1 0 :: dd 63 [], [(1, .box [zg t.1, yI t.2.1, zm t.2.2.1, yW t.2.2.2.1, Yu t.2.2.2.2.1, vI t.2.2.2.2.2])]⟩)
def yk7 : Lp := lpC 2 (unG yzR y6P) @yi2 lpN
theorem yrt : LF yk6 yk7 131 2 Tryz.f131 0 y6P @yi2 fun t => t := fun R κ again t => by kernel_rfl
theorem yru : LK yk6 yk7 131 Tryz.f131 0 := lkN (u := (unG yzR y6P)) (yr fun t => by kernel_rfl) yrt
theorem yw7 : EV yk6 yk7 131 Tryz.f131 yoA YK [.bool] Wv := fun x => by kernel_rfl
def yCB : QF := ⟨131, Wv, okN (n := 1) Tryz.func131 ⟨yru, trivial⟩ yw7⟩
abbrev Ww : Type := yzS
def Zi (k0 : Int → Option R) (again : Ww → Option R) (t3 : Ww) : Option R :=
 bif (decide (t3.2.2.2 < t3.2.2.1)) then if (0 : Int) ≤ t3.2.2.2 then if t3.2.2.2 < (List.length t3.2.1 : Int) then bif (yl t3.2.1 t3.2.2.2).2.1 then again ((Go.IntKind.wrap .i64 (t3.1 + (1 : Int))), t3.2.1, t3.2.2.1, (Go.IntKind.wrap .i64 (t3.2.2.2 + (1 : Int)))) else again (t3.1, t3.2.1, t3.2.2.1, (Go.IntKind.wrap .i64 (t3.2.2.2 + (1 : Int)))) else none else none else k0 t3.1
def Vy k0 := zI (@Zi R k0) Y0
def jH (x : List y7) : Option Int :=
 Vy (fun x1 => some x1) ((0 : Int), x, (List.length x : Int), (0 : Int))
def yw8 : List QF := []
def yat (t : yzS) : St := ⟨dd 3 (vI t.1 :: dd 2 (yW t.2.1 :: vI t.2.2.1 :: vI t.2.2.2 :: dd 9 [])), []⟩
def yrv : Gk Ww := fun κ => Zi (fun t => κ (some 0) ⟨dd 3 (vI t :: dd 14 []), []⟩)
def yw9 : Lp := lpC 3 (unG yzT yat) @yrv lpN
theorem ywa : LF yw8 yw9 28 3 Tryz.f28 0 yat @yrv fun t => t := fun R κ again t => by kernel_rfl
theorem ywb : LK yw8 yw9 28 Tryz.f28 0 := lkN (u := (unG yzT yat)) (yr fun t => by kernel_rfl) ywa
theorem yCC : EV yw8 yw9 28 Tryz.f28 yAA [(.sl 113 yg)] [(.int .i64)] jH := fun x => by kernel_rfl
def q28 : QF := ⟨28, jH, okN (n := 1) Tryz.func28 ⟨ywb, trivial⟩ yCC⟩
abbrev K3 : Type := yzU
def ZT (k0 : List y9 → Option R) (again : K3 → Option R) (t3 : K3) : Option R :=
 bif (decide (t3.2.2.1 < t3.2.1)) then if (0 : Int) ≤ t3.2.2.1 then if t3.2.2.1 < (List.length t3.1 : Int) then Option.bind (yK (yf t3.1 t3.2.2.1)) fun r1 => if (List.length t3.2.2.2 + List.length r1) * 40 < 140737488355328 then again (t3.1, t3.2.1, (Go.IntKind.wrap .i64 (t3.2.2.1 + (1 : Int))), (t3.2.2.2 ++ r1)) else none else none else none else k0 t3.2.2.2
def qt k0 := zI (@ZT R k0) Y0
def Yr (x : y4f) : Option (List y9) :=
 qt (fun x2 => some x2) (x.2, (List.length x.2 : Int), (0 : Int), ([] : List y9))
def ywc : List QF := [yr8]
def yau (t : yzU) : St := ⟨dd 3 (.own 10000000 :: dd 4 (yI t.1 :: vI t.2.1 :: vI t.2.2.1 :: dd 9 [])), [(10000000, .root true 64 yi t.2.2.2)]⟩
def yrw : Gk K3 := fun κ => ZT (fun t => κ (some 0) ⟨dd 3 (.own 10000000 :: dd 16 []), [(10000000, .root true 64 yi t)]⟩)
def ywd : Lp := lpC 3 (unG yzV yau) @yrw lpN
theorem ywe : LF ywc ywd 29 3 Tryz.f29 0 yau @yrw fun t => t := fun R κ again t => by kernel_rfl
theorem ywf : LK ywc ywd 29 Tryz.f29 0 := lkN (u := (unG yzV yau)) (yr fun t => by kernel_rfl) ywe
theorem yCD : EV ywc ywd 29 Tryz.f29 yAB Wk [(.sl 64 yi)] Yr := fun x => by kernel_rfl
def q29 : QF := ⟨29, Yr, okN (n := 1) Tryz.func29 ⟨ywf, trivial⟩ yCD⟩
def w4 (x : ymf) : Option yzW :=
 Option.bind (yw (x.2.1, (0 : Int), (Go.IntKind.wrap .i64 ((List.length x.1 : Int) - (1 : Int))))) fun r1 => Option.bind (bif (!r1) then some true else if (0 : Int) ≤ x.2.1 then if x.2.1 < (List.length x.1 : Int) then some (!((yl x.1 x.2.1).2.1)) else none else none) fun u2 => Option.bind (bif u2 then some true else if (0 : Int) ≤ x.2.1 then if x.2.1 < (List.length x.1 : Int) then some ((yl x.1 x.2.1).1 != x.2.2) else none else none) fun u3 => bif u3 then some ((0 : Int), false) else if (0 : Int) ≤ x.2.1 then if x.2.1 < (List.length x.1 : Int) then some ((yl x.1 x.2.1).2.2, true) else none else none
theorem ywg : EV [q92] lpN 247 Tryz.f247 yoB ymg yzX w4 := fun x => by kernel_rfl
def yBi : QF := ⟨247, w4, okN (n := 0) Tryz.func247 trivial ywg⟩
abbrev KO : Type := yzY
def jI (k0 : yuH → Option R) (k1 : yeZ → Option R) (again : KO → Option R) (t4 : KO) : Option R :=
 bif (decide (t4.2.2.1 < t4.2.1)) then if (0 : Int) ≤ t4.2.2.1 then if t4.2.2.1 < (List.length t4.2.2.2.2.2.2.2.2.2.2 : Int) then Option.bind (Yq (t4.2.2.2.2.2.1, (y6 t4.2.2.2.2.2.2.2.2.2.2 t4.2.2.1).2.1)) fun r2 => bif (decide (r2 < (0 : Int))) then k0 (false, t4.1, t4.2.2.2.1, t4.2.2.2.2.1, t4.2.2.2.2.2.1, t4.2.2.2.2.2.2.1, t4.2.2.2.2.2.2.2.1, t4.2.2.2.2.2.2.2.2.1) else bif ((y6 t4.2.2.2.2.2.2.2.2.2.2 t4.2.2.1).2.2.1 != (1 : Int)) then again (t4.1, t4.2.1, (Go.IntKind.wrap .i64 (t4.2.2.1 + (1 : Int))), t4.2.2.2.1, t4.2.2.2.2.1, t4.2.2.2.2.2.1, t4.2.2.2.2.2.2.1, t4.2.2.2.2.2.2.2.1, t4.2.2.2.2.2.2.2.2.1, t4.2.2.2.2.2.2.2.2.2.1, t4.2.2.2.2.2.2.2.2.2.2) else Option.bind (w4 (t4.2.2.2.2.2.2.1, (y6 t4.2.2.2.2.2.2.2.2.2.2 t4.2.2.1).2.2.2.1, (y6 t4.2.2.2.2.2.2.2.2.2.2 t4.2.2.1).2.2.2.2)) fun r3 => Option.bind (bif (!r3.2) then some true else if (0 : Int) ≤ (y6 t4.2.2.2.2.2.2.2.2.2.2 t4.2.2.1).2.2.2.1 then if (y6 t4.2.2.2.2.2.2.2.2.2.2 t4.2.2.1).2.2.2.1 < (List.length t4.2.2.2.2.2.2.2.2.2.1 : Int) then some (ydL t4.2.2.2.2.2.2.2.2.2.1 ((y6 t4.2.2.2.2.2.2.2.2.2.2 t4.2.2.1).2.2.2.1)) else none else none) fun u4 => bif u4 then k0 (false, t4.1, t4.2.2.2.1, t4.2.2.2.2.1, t4.2.2.2.2.2.1, t4.2.2.2.2.2.2.1, t4.2.2.2.2.2.2.2.1, t4.2.2.2.2.2.2.2.2.1) else if (0 : Int) ≤ (y6 t4.2.2.2.2.2.2.2.2.2.2 t4.2.2.1).2.2.2.1 then if (y6 t4.2.2.2.2.2.2.2.2.2.2 t4.2.2.1).2.2.2.1 < (List.length t4.2.2.2.2.2.2.2.2.2.1 : Int) then again ((Go.IntKind.wrap .i64 (t4.1 + (1 : Int))), t4.2.1, (Go.IntKind.wrap .i64 (t4.2.2.1 + (1 : Int))), t4.2.2.2.1, t4.2.2.2.2.1, t4.2.2.2.2.2.1, t4.2.2.2.2.2.2.1, t4.2.2.2.2.2.2.2.1, t4.2.2.2.2.2.2.2.2.1, (List.set t4.2.2.2.2.2.2.2.2.2.1 (Int.toNat ((y6 t4.2.2.2.2.2.2.2.2.2.2 t4.2.2.1).2.2.2.1)) true), t4.2.2.2.2.2.2.2.2.2.2) else none else none else none else none else k1 (t4.1, t4.2.2.2.1, t4.2.2.2.2.1, t4.2.2.2.2.2.1, t4.2.2.2.2.2.2.1, t4.2.2.2.2.2.2.2.1, t4.2.2.2.2.2.2.2.2.1)
def Qa k0 k1 := zI (@jI R k0 k1) Y0
def wx (x : y6q) : Option Bool :=
 if (0 : Int) ≤ (24 : Int) then if (24 : Int) ≤ (24 : Int) then if (24 : Int) * ((1 : Nat) : Int) ≤ 140737488351232 then Option.bind (Yr (x.1, x.2.1)) fun r1 => Qa (fun x5 => some x5.1) (fun x6 => Option.bind (jH x6.2.2.2.2.1) fun r7 => some (r7 == x6.1)) ((0 : Int), (List.length r1 : Int), (0 : Int), x.1, x.2.1, x.2.2.1, x.2.2.2.1, x.2.2.2.2.1, x.2.2.2.2.2, (List.replicate (Int.toNat (24 : Int)) ydK), r1) else none else none else none
def yk8 : List QF := [q28, q29, yrj, yBi]
def y6Q (t : yzY) : St := ⟨.dead :: .box 1 0 :: .dead :: .own 10000000 :: vI t.1 :: dd 7 (.own 10000001 :: vI t.2.1 :: vI t.2.2.1 :: dd 43 []), [(1, .box [zg t.2.2.2.1, yI t.2.2.2.2.1, zm t.2.2.2.2.2.1, yW t.2.2.2.2.2.2.1, Yu t.2.2.2.2.2.2.2.1, vI t.2.2.2.2.2.2.2.2.1]), (10000000, .root true 4 y4e t.2.2.2.2.2.2.2.2.2.1), (10000001, .root true 64 yi t.2.2.2.2.2.2.2.2.2.2)]⟩
def yi3 : Gk KO := fun κ => jI (fun t => κ none ⟨.dead :: .box 1 0 :: vB t.1 :: .dead :: vI t.2.1 :: dd 53 [], [(1, .box [zg t.2.2.1, yI t.2.2.2.1, zm t.2.2.2.2.1, yW t.2.2.2.2.2.1, Yu t.2.2.2.2.2.2.1, vI t.2.2.2.2.2.2.2])]⟩) (fun t => κ (some 0) ⟨.dead :: .box 1 0 :: dd 2 (vI t.1 :: dd 53 []), [(1, .box [zg t.2.1, yI t.2.2.1, zm t.2.2.2.1, yW t.2.2.2.2.1, Yu t.2.2.2.2.2.1, vI t.2.2.2.2.2.2])]⟩)
def yk9 : Lp := lpC 4 (unG yzZ y6Q) @yi3 lpN
theorem yrx : LF yk8 yk9 132 4 Tryz.f132 0 y6Q @yi3 fun t => t := fun R κ again t => by kernel_rfl
theorem yry : LK yk8 yk9 132 Tryz.f132 0 := lkN (u := (unG yzZ y6Q)) (yr fun t => by kernel_rfl) yrx
theorem ywh : EV yk8 yk9 132 Tryz.f132 yoC YK [.bool] wx := fun x => by kernel_rfl
def yCE : QF := ⟨132, wx, okN (n := 1) Tryz.func132 ⟨yry, trivial⟩ ywh⟩
abbrev vF : Type := yA0
def Jw (k0 : yfI → Option R) (k1 : y6q → Option R) (again : vF → Option R) (t4 : vF) : Option R :=
 bif (decide (t4.2.2.1 < t4.2.1)) then if (0 : Int) ≤ t4.2.2.1 then if t4.2.2.1 < (List.length t4.1 : Int) then bif (decide ((yD t4.1 t4.2.2.1).1 ≥ t4.2.2.2.2.2.2.2.2)) then k0 (false, t4.2.2.2) else again (t4.1, t4.2.1, (Go.IntKind.wrap .i64 (t4.2.2.1 + (1 : Int))), t4.2.2.2.1, t4.2.2.2.2.1, t4.2.2.2.2.2.1, t4.2.2.2.2.2.2.1, t4.2.2.2.2.2.2.2.1, t4.2.2.2.2.2.2.2.2) else none else none else k1 t4.2.2.2
def QK k0 k1 := zI (@Jw R k0 k1) Y0
def Yk (x : y6q) : Option Bool :=
 Option.bind (Yi (x.1, x.2.1)) fun r1 => Option.bind (bif (!r1) then some true else Option.bind (jp x.2.2.1) fun r3 => some (!r3)) fun u2 => Option.bind (bif u2 then some true else Option.bind (Zz x.2.2.2.1) fun r5 => some (!r5)) fun u4 => Option.bind (bif u4 then some true else Option.bind (yw (x.2.2.2.2.2, (1 : Int), (61 : Int))) fun r7 => some (!r7)) fun u6 => bif u6 then some false else QK (fun x8 => some x8.1) (fun x9 => Option.bind (Wv x9) fun r10 => Option.bind (bif r10 then Option.bind (wx x9) fun r12 => some r12 else some false) fun u11 => some u11) (x.2.2.1, (List.length x.2.2.1 : Int), (0 : Int), x.1, x.2.1, x.2.2.1, x.2.2.2.1, x.2.2.2.2.1, x.2.2.2.2.2)
def ywi : List QF := [q92, yBg, yBh, yw3, yCB, yCE]
def yav (t : yA0) : St := ⟨.dead :: .box 1 0 :: dd 26 (zm t.1 :: vI t.2.1 :: vI t.2.2.1 :: dd 15 []), [(1, .box [zg t.2.2.2.1, yI t.2.2.2.2.1, zm t.2.2.2.2.2.1, yW t.2.2.2.2.2.2.1, Yu t.2.2.2.2.2.2.2.1, vI t.2.2.2.2.2.2.2.2])]⟩
def yrz : Gk vF := fun κ => Jw (fun t => κ none ⟨.dead :: .box 1 0 :: vB t.1 :: dd 43 [], [(1, .box [zg t.2.1, yI t.2.2.1, zm t.2.2.2.1, yW t.2.2.2.2.1, Yu t.2.2.2.2.2.1, vI t.2.2.2.2.2.2])]⟩) (fun t => κ (some 0) ⟨.dead :: .box 1 0 :: dd 44 [], [(1, .box [zg t.1, yI t.2.1, zm t.2.2.1, yW t.2.2.2.1, Yu t.2.2.2.2.1, vI t.2.2.2.2.2])]⟩)
def ywj : Lp := lpC 4 (unG yA1 yav) @yrz lpN
theorem ywk : LF ywi ywj 30 4 Tryz.f30 0 yav @yrz fun t => t := fun R κ again t => by kernel_rfl
theorem ywl : LK ywi ywj 30 Tryz.f30 0 := lkN (u := (unG yA1 yav)) (yr fun t => by kernel_rfl) ywk
theorem yCF : EV ywi ywj 30 Tryz.f30 yAC YK [.bool] Yk := fun x => by kernel_rfl
def q30 : QF := ⟨30, Yk, okN (n := 1) Tryz.func30 ⟨ywl, trivial⟩ yCF⟩
def ZU (x : List yd) : Option (List yd) :=
 if (List.length ([] : List yd) + List.length x) * 8 < 140737488355328 then some (([] : List yd) ++ x) else none
theorem ywm : EV [] lpN 297 Tryz.f297 yoD [(.sl 3 yh)] [(.sl 3 yh)] ZU := fun x => by kernel_rfl
def yBj : QF := ⟨297, ZU, okN (n := 0) Tryz.func297 trivial ywm⟩
abbrev K4 : Type := yjj ⊕ ymN
def Ye (k0 : Unit → Option R) (k1 : List yb → Option R) (again : K4 → Option R) : K4 → Option R
 | .inl t3 => bif (decide (t3.2.2 < t3.2.1)) then if (0 : Int) ≤ t3.2.2 then if t3.2.2 < (List.length t3.1 : Int) then Option.bind (Y1 (yo t3.1 t3.2.2)) fun r1 => if List.length ([r1] : List yb) * 24 < 140737488355328 then again (Sum.inr (t3.1, t3.2.1, (Go.IntKind.wrap .i64 (t3.2.2 + (1 : Int))), ([r1] : List yb))) else none else none else none else k0 ()
 | .inr t3 => bif (decide (t3.2.2.1 < t3.2.1)) then if (0 : Int) ≤ t3.2.2.1 then if t3.2.2.1 < (List.length t3.1 : Int) then Option.bind (Y1 (yo t3.1 t3.2.2.1)) fun r2 => if (List.length t3.2.2.2 + List.length ([r2] : List yb)) * 24 < 140737488355328 then again (Sum.inr (t3.1, t3.2.1, (Go.IntKind.wrap .i64 (t3.2.2.1 + (1 : Int))), (t3.2.2.2 ++ ([r2] : List yb)))) else none else none else none else k1 t3.2.2.2
def qu k0 k1 := zI (@Ye R k0 k1) Y0
def zw (x : List yb) : Option (List yb) :=
 qu (fun x3 => some ([] : List yb)) (fun x4 => some x4) (Sum.inl (x, (List.length x : Int), (0 : Int)))
def ye3 : List QF := [yvM]
def y3h (t : yjj) : St := ⟨dd 2 (.box 2 0 :: .box 3 0 :: dd 4 (Yp t.1 :: vI t.2.1 :: vI t.2.2 :: dd 12 [])), [(2, .box [.nils]), (3, .box [.nils])]⟩
theorem yg1 : ∀ s t, unG yu7 y3h s = some t → y3h t = s := yr fun t => by kernel_rfl
def y3i (t : ymN) : St := ⟨dd 2 (.box 2 0 :: .box 3 0 :: dd 4 (Yp t.1 :: vI t.2.1 :: vI t.2.2.1 :: dd 12 [])), [(2, .box [.nils]), (3, .box [.own 10000000]), (10000000, .root true 58 yn t.2.2.2)]⟩
theorem yg2 : ∀ s t, unG yA2 y3i s = some t → y3i t = s := yr fun t => by kernel_rfl
def y3j : (yjj ⊕ ymN) → St := Sum.elim y3h y3i
def y6R (s : St) : Option (yjj ⊕ ymN) := ((unG yu7 y3h s).map Sum.inl).or (((unG yA2 y3i) s).map Sum.inr)
theorem yg3 : ∀ s t, y6R s = some t → y3j t = s := y6o yg1 yg2
def ybz : Gk K4 := fun κ => Ye (fun t => κ (some 0) ⟨dd 2 (.box 2 0 :: .box 3 0 :: dd 19 []), [(2, .box [.nils]), (3, .box [.nils])]⟩) (fun t => κ (some 0) ⟨dd 2 (.box 2 0 :: .box 3 0 :: dd 19 []), [(2, .box [.nils]), (3, .box [.own 10000000]), (10000000, .root true 58 yn t)]⟩)
def ye4 : Lp := lpC 3 y6R @ybz lpN
theorem yg4 : LF ye3 ye4 298 3 Tryz.f298 0 y3j @ybz fun v : yjj => .inl v := fun R κ again v => by kernel_rfl
theorem yg5 : LF ye3 ye4 298 3 Tryz.f298 0 y3j @ybz fun v : ymN => .inr v := fun R κ again v => by kernel_rfl
theorem yrA : LF ye3 ye4 298 3 Tryz.f298 0 y3j @ybz fun t => t := (LC.sum yg4 yg5)
theorem yrB : LK ye3 ye4 298 Tryz.f298 0 := lkN (u := y6R) yg3 yrA
theorem ywn : EV ye3 ye4 298 Tryz.f298 yoE [(.sl 58 yn)] [(.sl 58 yn)] zw := fun x => by kernel_rfl
def yBk : QF := ⟨298, zw, okN (n := 1) Tryz.func298 ⟨yrB, trivial⟩ ywn⟩
abbrev K5 : Type := ymO ⊕ ymP
def Yf (k0 : List yd → Option R) (k1 : y4f → Option R) (again : K5 → Option R) : K5 → Option R
 | .inl t3 => bif (decide (t3.2.2.1 < t3.2.1)) then if (0 : Int) ≤ t3.2.2.1 then if t3.2.2.1 < (List.length t3.1 : Int) then Option.bind (zw (yf t3.1 t3.2.2.1)) fun r2 => if List.length ([r2] : List y0) * 24 < 140737488355328 then again (Sum.inr (t3.1, t3.2.1, (Go.IntKind.wrap .i64 (t3.2.2.1 + (1 : Int))), t3.2.2.2, ([r2] : List y0))) else none else none else none else k0 t3.2.2.2
 | .inr t3 => bif (decide (t3.2.2.1 < t3.2.1)) then if (0 : Int) ≤ t3.2.2.1 then if t3.2.2.1 < (List.length t3.1 : Int) then Option.bind (zw (yf t3.1 t3.2.2.1)) fun r3 => if (List.length t3.2.2.2.2 + List.length ([r3] : List y0)) * 24 < 140737488355328 then again (Sum.inr (t3.1, t3.2.1, (Go.IntKind.wrap .i64 (t3.2.2.1 + (1 : Int))), t3.2.2.2.1, (t3.2.2.2.2 ++ ([r3] : List y0)))) else none else none else none else k1 t3.2.2.2
def qv k0 k1 := zI (@Yf R k0 k1) Y0
def zx (x : y4f) : Option y4f :=
 Option.bind (ZU x.1) fun r1 => qv (fun x4 => some (x4, ([] : List y0))) (fun x5 => some x5) (Sum.inl (x.2, (List.length x.2 : Int), (0 : Int), r1))
def ye5 : List QF := [yBj, yBk]
def y3k (t : ymO) : St := ⟨dd 2 (.box 2 0 :: .box 3 0 :: dd 7 (yI t.1 :: vI t.2.1 :: vI t.2.2.1 :: dd 12 [])), [(2, .box [.nils, .nils]), (3, .box [.own 10000000, .nils]), (10000000, .root true 3 yh t.2.2.2)]⟩
theorem yg6 : ∀ s t, unG yA3 y3k s = some t → y3k t = s := yr fun t => by kernel_rfl
def y3l (t : ymP) : St := ⟨dd 2 (.box 2 0 :: .box 3 0 :: dd 7 (yI t.1 :: vI t.2.1 :: vI t.2.2.1 :: dd 12 [])), [(2, .box [.nils, .nils]), (3, .box [.own 10000000, .own 10000001]), (10000000, .root true 3 yh t.2.2.2.1), (10000001, .root true 140 yj t.2.2.2.2)]⟩
theorem yg7 : ∀ s t, unG yA4 y3l s = some t → y3l t = s := yr fun t => by kernel_rfl
def y3m : (ymO ⊕ ymP) → St := Sum.elim y3k y3l
def y6S (s : St) : Option (ymO ⊕ ymP) := ((unG yA3 y3k s).map Sum.inl).or (((unG yA4 y3l) s).map Sum.inr)
theorem yg8 : ∀ s t, y6S s = some t → y3m t = s := y6o yg6 yg7
def ybA : Gk K5 := fun κ => Yf (fun t => κ (some 0) ⟨dd 2 (.box 2 0 :: .box 3 0 :: dd 22 []), [(2, .box [.nils, .nils]), (3, .box [.own 10000000, .nils]), (10000000, .root true 3 yh t)]⟩) (fun t => κ (some 0) ⟨dd 2 (.box 2 0 :: .box 3 0 :: dd 22 []), [(2, .box [.nils, .nils]), (3, .box [.own 10000000, .own 10000001]), (10000000, .root true 3 yh t.1), (10000001, .root true 140 yj t.2)]⟩)
def ye6 : Lp := lpC 3 y6S @ybA lpN
theorem yg9 : LF ye5 ye6 206 3 Tryz.f206 0 y3m @ybA fun v : ymO => .inl v := fun R κ again v => by kernel_rfl
theorem yga : LF ye5 ye6 206 3 Tryz.f206 0 y3m @ybA fun v : ymP => .inr v := fun R κ again v => by kernel_rfl
theorem yrC : LF ye5 ye6 206 3 Tryz.f206 0 y3m @ybA fun t => t := (LC.sum yg9 yga)
theorem yrD : LK ye5 ye6 206 Tryz.f206 0 := lkN (u := y6S) yg8 yrC
theorem ywo : EV ye5 ye6 206 Tryz.f206 yoF Wk Wk zx := fun x => by kernel_rfl
def yBl : QF := ⟨206, zx, okN (n := 1) Tryz.func206 ⟨yrD, trivial⟩ ywo⟩
def zK (x : List ya) : Option (List ya) :=
 if (List.length ([] : List ya) + List.length x) * 16 < 140737488355328 then some (([] : List ya) ++ x) else none
theorem ywp : EV [] lpN 207 Tryz.f207 yoG [(.sl 146 yk)] [(.sl 146 yk)] zK := fun x => by kernel_rfl
def yBm : QF := ⟨207, zK, okN (n := 0) Tryz.func207 trivial ywp⟩
def zA (x : List y7) : Option (List y7) :=
 if (List.length ([] : List y7) + List.length x) * 24 < 140737488355328 then some (([] : List y7) ++ x) else none
theorem ywq : EV [] lpN 208 Tryz.f208 yoH [(.sl 113 yg)] [(.sl 113 yg)] zA := fun x => by kernel_rfl
def ywr : QF := ⟨208, zA, okN (n := 0) Tryz.func208 trivial ywq⟩
def ym (x : y6q) : Option y6q :=
 Option.bind (zx (x.1, x.2.1)) fun r1 => Option.bind (zK x.2.2.1) fun r2 => Option.bind (zA x.2.2.2.1) fun r3 => if (List.length ([] : List ye) + List.length x.2.2.2.2.1) * 40 < 140737488355328 then some (r1.1, r1.2, r2, r3, (([] : List ye) ++ x.2.2.2.2.1), x.2.2.2.2.2) else none
theorem yCG : EV [yBl, yBm, ywr] lpN 91 Tryz.f91 yAD YK YK ym := fun x => by kernel_rfl
def q91 : QF := ⟨91, ym, okN (n := 0) Tryz.func91 trivial yCG⟩
def Kn (x : yC8) : Option yCa :=
 some (((ByteArray.toList x.1) == (ByteArray.toList x.2.2.2.2)), x.2.2.2.2)
theorem yws : EV [] lpN 243 Tryz.f243 yoI yC9 yCb Kn := fun x => by kernel_rfl
def yCH : QF := ⟨243, Kn, okN (n := 0) Tryz.func243 trivial yws⟩
abbrev zH : Type := yA5
def yS (k0 : yA7 → Option R) (k1 : ByteArray → Option R) (again : zH → Option R) (t2 : zH) : Option R :=
 bif (decide (t2.2.2.1 < t2.2.1)) then if (0 : Int) ≤ t2.2.2.1 then if t2.2.2.1 < (List.length t2.1 : Int) then Option.bind (Kn ((y8 t2.1 t2.2.2.1).1, (y8 t2.1 t2.2.2.1).2.1, (y8 t2.1 t2.2.2.1).2.2.1, (y8 t2.1 t2.2.2.1).2.2.2, t2.2.2.2)) fun r1 => bif r1.1 then k0 (t2.2.2.1, r1.2) else again (t2.1, t2.2.1, (Go.IntKind.wrap .i64 (t2.2.2.1 + (1 : Int))), r1.2) else none else none else k1 t2.2.2.2
def YF k0 k1 := zI (@yS R k0 k1) Y0
def zh (x : yCd) : Option yA7 :=
 YF (fun x2 => some x2) (fun x3 => some ((-1 : Int), x3)) (x.1, (List.length x.1 : Int), (0 : Int), x.2)
def y6T : List QF := [yCH]
def y1i (t : yA5) : St := ⟨Yu t.1 :: .clo 243 901 :: dd 5 (vI t.2.1 :: vI t.2.2.1 :: dd 10 []), [(901, .box [vS t.2.2.2])]⟩
def y8W : Gk zH := fun κ => yS (fun t => κ none ⟨.dead :: .clo 243 901 :: dd 2 (vI t.1 :: dd 14 []), [(901, .box [vS t.2])]⟩) (fun t => κ (some 0) ⟨.dead :: .clo 243 901 :: dd 17 [], [(901, .box [vS t])]⟩)
def y6U : Lp := lpC 2 (unG yA6 y1i) @y8W lpN
theorem ye7 : LF y6T y6U 100003 2 Tryz.f242 0 y1i @y8W fun t => t := fun R κ again t => by kernel_rfl
theorem ye8 : LK y6T y6U 100003 Tryz.f242 0 := lkN (u := (unG yA6 y1i)) (yr fun t => by kernel_rfl) ye7
theorem ygb : EV y6T y6U 100003 Tryz.f242 ybw yCe yCc zh := fun x => by kernel_rfl
def yka : QF := ⟨100003, zh, okN (n := 1) Tryz.func242 ⟨ye8, trivial⟩ ygb⟩
def Zj (x : yjk) : Option Int :=
 Option.bind (zh (x.2.2.2.2.1, x.2.2.2.2.2.2)) fun r1 => some r1.1
theorem ywt : EV [yka] lpN 116 Tryz.f116 yoJ yjl [(.int .i64)] Zj := fun x => by kernel_rfl
def yuf : QF := ⟨116, Zj, okN (n := 0) Tryz.func116 trivial ywt⟩
abbrev Jx : Type := ymK
def Wx (k0 : ymK → Option R) (again : Jx → Option R) (t2 : Jx) : Option R :=
 Option.bind (bif (decide (t2.2.2.2 < (List.length t2.1 : Int))) then if (0 : Int) ≤ t2.2.2.2 then if t2.2.2.2 < (List.length t2.1 : Int) then some (decide ((yD t2.1 t2.2.2.2).1 ≤ t2.2.1)) else none else none else some false) fun u1 => bif u1 then again (t2.1, t2.2.1, t2.2.2.1, (Go.IntKind.wrap .i64 (t2.2.2.2 + (1 : Int)))) else k0 t2
def QL k0 := zI (@Wx R k0) Y0
def jr (x : yu8) : Option ymL :=
 QL (fun x2 => Option.bind (zK x2.1) fun r3 => Option.bind (zR (r3, x2.2.2.2, ([(x2.2.1, x2.2.2.1)] : List ya))) fun r4 => Option.bind (Yq (x2.1, x2.2.1)) fun r5 => Option.bind (bif (decide (r5 ≥ (0 : Int))) then some true else Option.bind (jp r4) fun r7 => some (!r7)) fun u6 => bif u6 then Option.bind (zK x2.1) fun r8 => some (r8, false) else some (r4, true)) (x.1, x.2.1, x.2.2, (0 : Int))
def ykb : List QF := [yBh, yBm, yCl, yrj]
def y6V (t : ymK) : St := ⟨zm t.1 :: vI t.2.1 :: vI t.2.2.1 :: dd 5 (vI t.2.2.2 :: dd 36 []), []⟩
def yi4 : Gk Jx := fun κ => Wx (fun t => κ (some 0) ⟨zm t.1 :: vI t.2.1 :: vI t.2.2.1 :: dd 5 (vI t.2.2.2 :: dd 36 []), []⟩)
def ykc : Lp := lpC 2 (unG yu2 y6V) @yi4 lpN
theorem yrE : LF ykb ykc 118 2 Tryz.f118 0 y6V @yi4 fun t => t := fun R κ again t => by kernel_rfl
theorem yrF : LK ykb ykc 118 Tryz.f118 0 := lkN (u := (unG yu2 y6V)) (yr fun t => by kernel_rfl) yrE
theorem ywu : EV ykb ykc 118 Tryz.f118 yoK yu9 yuG jr := fun x => by kernel_rfl
def yBn : QF := ⟨118, jr, okN (n := 1) Tryz.func118 ⟨yrF, trivial⟩ ywu⟩
abbrev Jc : Type := yA8
def Jd (k0 : yCf → Option R) (again : Jc → Option R) (t4 : Jc) : Option R :=
 bif (decide (t4.2.2.2.1 < t4.2.2.1)) then if (0 : Int) ≤ t4.2.2.2.1 then if t4.2.2.2.1 < (List.length t4.2.1 : Int) then Option.bind (bif (!t4.1) then some (!(Go.Op.bytesLess (ByteArray.toList ((y8 t4.2.1 t4.2.2.2.1).1)) (ByteArray.toList t4.2.2.2.2.1) || (ByteArray.toList ((y8 t4.2.1 t4.2.2.2.1).1)) == (ByteArray.toList t4.2.2.2.2.1))) else some false) fun u1 => bif u1 then if (List.length t4.2.2.2.2.2.2.2.2 + List.length ([(t4.2.2.2.2.1, t4.2.2.2.2.2.1, t4.2.2.2.2.2.2.1, t4.2.2.2.2.2.2.2.1)] : List ye)) * 40 < 140737488355328 then if (List.length (t4.2.2.2.2.2.2.2.2 ++ ([(t4.2.2.2.2.1, t4.2.2.2.2.2.1, t4.2.2.2.2.2.2.1, t4.2.2.2.2.2.2.2.1)] : List ye)) + List.length ([((y8 t4.2.1 t4.2.2.2.1).1, (y8 t4.2.1 t4.2.2.2.1).2.1, (y8 t4.2.1 t4.2.2.2.1).2.2.1, (y8 t4.2.1 t4.2.2.2.1).2.2.2)] : List ye)) * 40 < 140737488355328 then again (true, t4.2.1, t4.2.2.1, (Go.IntKind.wrap .i64 (t4.2.2.2.1 + (1 : Int))), t4.2.2.2.2.1, t4.2.2.2.2.2.1, t4.2.2.2.2.2.2.1, t4.2.2.2.2.2.2.2.1, ((t4.2.2.2.2.2.2.2.2 ++ ([(t4.2.2.2.2.1, t4.2.2.2.2.2.1, t4.2.2.2.2.2.2.1, t4.2.2.2.2.2.2.2.1)] : List ye)) ++ ([((y8 t4.2.1 t4.2.2.2.1).1, (y8 t4.2.1 t4.2.2.2.1).2.1, (y8 t4.2.1 t4.2.2.2.1).2.2.1, (y8 t4.2.1 t4.2.2.2.1).2.2.2)] : List ye))) else none else none else if (List.length t4.2.2.2.2.2.2.2.2 + List.length ([((y8 t4.2.1 t4.2.2.2.1).1, (y8 t4.2.1 t4.2.2.2.1).2.1, (y8 t4.2.1 t4.2.2.2.1).2.2.1, (y8 t4.2.1 t4.2.2.2.1).2.2.2)] : List ye)) * 40 < 140737488355328 then again (t4.1, t4.2.1, t4.2.2.1, (Go.IntKind.wrap .i64 (t4.2.2.2.1 + (1 : Int))), t4.2.2.2.2.1, t4.2.2.2.2.2.1, t4.2.2.2.2.2.2.1, t4.2.2.2.2.2.2.2.1, (t4.2.2.2.2.2.2.2.2 ++ ([((y8 t4.2.1 t4.2.2.2.1).1, (y8 t4.2.1 t4.2.2.2.1).2.1, (y8 t4.2.1 t4.2.2.2.1).2.2.1, (y8 t4.2.1 t4.2.2.2.1).2.2.2)] : List ye))) else none else none else none else k0 (t4.1, t4.2.2.2.2)
def Vz k0 := zI (@Jd R k0) Y0
def Z8 (x : yu5) : Option (List ye) :=
 Vz (fun x2 => bif (!x2.1) then if (List.length x2.2.2.2.2.2 + List.length ([(x2.2.1, x2.2.2.1, x2.2.2.2.1, x2.2.2.2.2.1)] : List ye)) * 40 < 140737488355328 then some (x2.2.2.2.2.2 ++ ([(x2.2.1, x2.2.2.1, x2.2.2.2.1, x2.2.2.2.2.1)] : List ye)) else none else some x2.2.2.2.2.2) (false, x.1, (List.length x.1 : Int), (0 : Int), x.2.1, x.2.2.1, x.2.2.2.1, x.2.2.2.2, ([] : List ye))
def ykd : List QF := []
def y6W (t : yA8) : St := ⟨dd 3 (.box 3 0 :: .dead :: .own 10000000 :: vB t.1 :: dd 3 (Yu t.2.1 :: vI t.2.2.1 :: vI t.2.2.2.1 :: dd 28 [])), [(3, .box [vS t.2.2.2.2.1, vI t.2.2.2.2.2.1, vI t.2.2.2.2.2.2.1, vB t.2.2.2.2.2.2.2.1]), (10000000, .root true 46 yE t.2.2.2.2.2.2.2.2)]⟩
def yi5 : Gk Jc := fun κ => Jd (fun t => κ (some 0) ⟨dd 3 (.box 3 0 :: .dead :: .own 10000000 :: vB t.1 :: dd 34 []), [(3, .box [vS t.2.1, vI t.2.2.1, vI t.2.2.2.1, vB t.2.2.2.2.1]), (10000000, .root true 46 yE t.2.2.2.2.2)]⟩)
def yke : Lp := lpC 4 (unG yA9 y6W) @yi5 lpN
theorem yrG : LF ykd yke 119 4 Tryz.f119 0 y6W @yi5 fun t => t := fun R κ again t => by kernel_rfl
theorem yrH : LK ykd yke 119 Tryz.f119 0 := lkN (u := (unG yA9 y6W)) (yr fun t => by kernel_rfl) yrG
theorem ywv : EV ykd yke 119 Tryz.f119 yoL yu6 [(.sl 46 yE)] Z8 := fun x => by kernel_rfl
def yBo : QF := ⟨119, Z8, okN (n := 1) Tryz.func119 ⟨yrH, trivial⟩ ywv⟩
def yU (x : yAa) : Option y4Y :=
 Option.bind (bif (!x.2.2.2.2.2.2.2.2.2.2.2.2) then some true else Option.bind (Yk (x.2.2.2.2.2.2.1, x.2.2.2.2.2.2.2.1, x.2.2.2.2.2.2.2.2.1, x.2.2.2.2.2.2.2.2.2.1, x.2.2.2.2.2.2.2.2.2.2.1, x.2.2.2.2.2.2.2.2.2.2.2.1)) fun r2 => some (!r2)) fun u1 => bif u1 then Option.bind (ym (x.1, x.2.1, x.2.2.1, x.2.2.2.1, x.2.2.2.2.1, x.2.2.2.2.2.1)) fun r3 => some (r3.1, r3.2.1, r3.2.2.1, r3.2.2.2.1, r3.2.2.2.2.1, r3.2.2.2.2.2, (6 : Int)) else some (x.2.2.2.2.2.2.1, x.2.2.2.2.2.2.2.1, x.2.2.2.2.2.2.2.2.1, x.2.2.2.2.2.2.2.2.2.1, x.2.2.2.2.2.2.2.2.2.2.1, x.2.2.2.2.2.2.2.2.2.2.2.1, (0 : Int))
theorem yww : EV [q30, q91] lpN 120 Tryz.f120 yoM yAb y4Z yU := fun x => by kernel_rfl
def ymk : QF := ⟨120, yU, okN (n := 0) Tryz.func120 trivial yww⟩
def vG (x : yuI) : Option y4Y :=
 Option.bind (Zj (x.1, x.2.1, x.2.2.1, x.2.2.2.1, x.2.2.2.2.1, x.2.2.2.2.2.1, x.2.2.2.2.2.2.1)) fun r1 => Option.bind (Yk (x.1, x.2.1, x.2.2.1, x.2.2.2.1, x.2.2.2.2.1, x.2.2.2.2.2.1)) fun r2 => Option.bind (bif (!r2) then some true else Option.bind (Yj x.2.2.2.2.2.2.1) fun r4 => some (!r4)) fun u3 => Option.bind (bif u3 then some true else Option.bind (Yj x.2.2.2.2.2.2.2.1) fun r6 => some (!r6)) fun u5 => bif u5 then Option.bind (ym (x.1, x.2.1, x.2.2.1, x.2.2.2.1, x.2.2.2.2.1, x.2.2.2.2.2.1)) fun r7 => some (r7.1, r7.2.1, r7.2.2.1, r7.2.2.2.1, r7.2.2.2.2.1, r7.2.2.2.2.2, (1 : Int)) else bif (decide (r1 < (0 : Int))) then Option.bind (ym (x.1, x.2.1, x.2.2.1, x.2.2.2.1, x.2.2.2.2.1, x.2.2.2.2.2.1)) fun r8 => some (r8.1, r8.2.1, r8.2.2.1, r8.2.2.2.1, r8.2.2.2.2.1, r8.2.2.2.2.2, (2 : Int)) else Option.bind (Zj (x.1, x.2.1, x.2.2.1, x.2.2.2.1, x.2.2.2.2.1, x.2.2.2.2.2.1, x.2.2.2.2.2.2.2.1)) fun r9 => bif (decide (r9 ≥ (0 : Int))) then Option.bind (ym (x.1, x.2.1, x.2.2.1, x.2.2.2.1, x.2.2.2.2.1, x.2.2.2.2.2.1)) fun r10 => some (r10.1, r10.2.1, r10.2.2.1, r10.2.2.2.1, r10.2.2.2.2.1, r10.2.2.2.2.2, (3 : Int)) else Option.bind (ym (x.1, x.2.1, x.2.2.1, x.2.2.2.1, x.2.2.2.2.1, x.2.2.2.2.2.1)) fun r11 => if (0 : Int) ≤ r1 then if r1 < (List.length x.2.2.2.2.1 : Int) then Option.bind (jr (x.2.2.1, x.2.2.2.2.2.1, (y8 x.2.2.2.2.1 r1).2.1)) fun r12 => Option.bind (jr (r12.1, (Go.IntKind.wrap .i64 (x.2.2.2.2.2.1 + (1 : Int))), (y8 x.2.2.2.2.1 r1).2.1)) fun r13 => if (0 : Int) ≤ r1 then if r1 < (List.length r11.2.2.2.2.1 : Int) then Option.bind (Z8 ((List.set r11.2.2.2.2.1 (Int.toNat r1) ((y8 r11.2.2.2.2.1 r1).1, x.2.2.2.2.2.1, (y8 r11.2.2.2.2.1 r1).2.2)), x.2.2.2.2.2.2.2.1, (Go.IntKind.wrap .i64 (x.2.2.2.2.2.1 + (1 : Int))), (y8 x.2.2.2.2.1 r1).2.2.1, x.2.2.2.2.2.2.2.2)) fun r14 => Option.bind (bif r12.2 then some r13.2 else some false) fun u15 => Option.bind (yU (x.1, x.2.1, x.2.2.1, x.2.2.2.1, x.2.2.2.2.1, x.2.2.2.2.2.1, r11.1, r11.2.1, r13.1, r11.2.2.2.1, r14, (Go.IntKind.wrap .i64 (r11.2.2.2.2.2 + (2 : Int))), u15)) fun r16 => some r16 else none else none else none else none
theorem yCI : EV [q30, q91, yuf, yrq, yBn, yBo, ymk] lpN 21 Tryz.f21 yAE yuJ y4Z vG := fun x => by kernel_rfl
def q21 : QF := ⟨21, vG, okN (n := 0) Tryz.func21 trivial yCI⟩
abbrev vH : Type := ymf
def Jy (k0 : Int → Option R) (k1 : Unit → Option R) (again : vH → Option R) (t2 : vH) : Option R :=
 bif (decide (t2.2.2 < t2.2.1)) then if (0 : Int) ≤ t2.2.2 then if t2.2.2 < (List.length t2.1 : Int) then bif (!((yl t2.1 t2.2.2).2.1)) then k0 t2.2.2 else again (t2.1, t2.2.1, (Go.IntKind.wrap .i64 (t2.2.2 + (1 : Int)))) else none else none else k1 ()
def QM k0 k1 := zI (@Jy R k0 k1) Y0
def Wy (x : List y7) : Option Int :=
 QM (fun x1 => some x1) (fun x2 => some (-1 : Int)) (x, (List.length x : Int), (0 : Int))
def ywx : List QF := []
def yaw (t : ymf) : St := ⟨dd 5 (yW t.1 :: vI t.2.1 :: vI t.2.2 :: dd 9 []), []⟩
def yrI : Gk vH := fun κ => Jy (fun t => κ none ⟨dd 2 (vI t :: dd 14 []), []⟩) (fun t => κ (some 0) ⟨dd 17 [], []⟩)
def ywy : Lp := lpC 2 (unG ymg yaw) @yrI lpN
theorem ywz : LF ywx ywy 98 2 Tryz.f98 0 yaw @yrI fun t => t := fun R κ again t => by kernel_rfl
theorem ywA : LK ywx ywy 98 Tryz.f98 0 := lkN (u := (unG ymg yaw)) (yr fun t => by kernel_rfl) ywz
theorem yCJ : EV ywx ywy 98 Tryz.f98 yAF [(.sl 113 yg)] [(.int .i64)] Wy := fun x => by kernel_rfl
def q98 : QF := ⟨98, Wy, okN (n := 1) Tryz.func98 ⟨ywA, trivial⟩ yCJ⟩
def ZV (x : ymi) : Option yAc :=
 Option.bind (zA x.1) fun r1 => Option.bind (Wy x.1) fun r2 => Option.bind (bif (decide (r2 < (0 : Int))) then some true else Option.bind (jq x.2) fun r4 => some (!r4)) fun u3 => Option.bind (bif u3 then some true else Option.bind (Zz x.1) fun r6 => some (!r6)) fun u5 => bif u5 then some (r1, (0 : Int), false) else if (0 : Int) ≤ r2 then if r2 < (List.length r1 : Int) then if (0 : Int) ≤ r2 then if r2 < ((List.length (List.set r1 (Int.toNat r2) ((yl r1 r2).1, true, (yl r1 r2).2.2)) : Nat) : Int) then some ((List.set (List.set r1 (Int.toNat r2) ((yl r1 r2).1, true, (yl r1 r2).2.2)) (Int.toNat r2) ((yl (List.set r1 (Int.toNat r2) ((yl r1 r2).1, true, (yl r1 r2).2.2)) r2).1, (yl (List.set r1 (Int.toNat r2) ((yl r1 r2).1, true, (yl r1 r2).2.2)) r2).2.1, x.2)), r2, true) else none else none else none else none
theorem yCK : EV [q98, yw1, yw3, ywr] lpN 99 Tryz.f99 yAG ymj yAd ZV := fun x => by kernel_rfl
def q99 : QF := ⟨99, ZV, okN (n := 0) Tryz.func99 trivial yCK⟩
def Y7 (x : yCg) : Option yfH :=
 Option.bind (Zj (x.1, x.2.1, x.2.2.1, x.2.2.2.1, x.2.2.2.2.1, x.2.2.2.2.2.1, x.2.2.2.2.2.2.1)) fun r1 => Option.bind (Yk (x.1, x.2.1, x.2.2.1, x.2.2.2.1, x.2.2.2.2.1, x.2.2.2.2.2.1)) fun r2 => Option.bind (bif (!r2) then some true else Option.bind (Yj x.2.2.2.2.2.2.1) fun r4 => some (!r4)) fun u3 => bif u3 then some (r1, (1 : Int)) else bif (decide (r1 < (0 : Int))) then some (r1, (2 : Int)) else Option.bind (bif x.2.2.2.2.2.2.2.2 then if (0 : Int) ≤ r1 then if r1 < (List.length x.2.2.2.2.1 : Int) then some ((y8 x.2.2.2.2.1 r1).2.2.2) else none else none else some false) fun u5 => bif u5 then some (r1, (5 : Int)) else if (0 : Int) ≤ r1 then if r1 < (List.length x.2.2.2.2.1 : Int) then Option.bind (yw (x.2.2.2.2.2.2.2.1, (0 : Int), (Go.IntKind.wrap .i64 ((y8 x.2.2.2.2.1 r1).2.2.1 - (1 : Int))))) fun r6 => bif (!r6) then some (r1, (4 : Int)) else some (r1, (0 : Int)) else none else none
theorem ywB : EV [q30, q92, yuf, yrq] lpN 124 Tryz.f124 yoN yCh yhJ Y7 := fun x => by kernel_rfl
def yug : QF := ⟨124, Y7, okN (n := 0) Tryz.func124 trivial ywB⟩
abbrev wV : Type := yAe
def wW (k0 : Int → Option R) (k1 : Unit → Option R) (again : wV → Option R) (t2 : wV) : Option R :=
 bif (decide (t2.2.2.1 ≥ (0 : Int))) then if (0 : Int) ≤ t2.2.2.1 then if t2.2.2.1 < (List.length t2.2.2.2.1 : Int) then Option.bind (Zh (t2.1, t2.2.1)) fun r1 => bif (decide ((zu t2.2.2.2.1 t2.2.2.1) ≤ r1)) then k0 t2.2.2.1 else again (t2.1, t2.2.1, (Go.IntKind.wrap .i64 (t2.2.2.1 - (1 : Int))), t2.2.2.2.1, t2.2.2.2.2) else none else none else k1 ()
def Qb k0 k1 := zI (@wW R k0 k1) Y0
def J0 (x : yua) : Option Int :=
 Qb (fun x2 => some x2) (fun x3 => some (-1 : Int)) (x.2.2.1, x.2.2.2, (Go.IntKind.wrap .i64 ((List.length x.1 : Int) - (1 : Int))), x.1, x.2.1)
def ykf : List QF := [yvU]
def y6X (t : yAe) : St := ⟨.dead :: vI t.1 :: vI t.2.1 :: .box 3 0 :: dd 3 (vI t.2.2.1 :: dd 18 []), [(3, .box [zg t.2.2.2.1, yI t.2.2.2.2])]⟩
def yi6 : Gk wV := fun κ => wW (fun t => κ none ⟨dd 6 (vI t :: dd 19 []), []⟩) (fun t => κ (some 0) ⟨dd 26 [], []⟩)
def ykg : Lp := lpC 2 (unG yAf y6X) @yi6 lpN
theorem yrJ : LF ykf ykg 219 2 Tryz.f219 0 y6X @yi6 fun t => t := fun R κ again t => by kernel_rfl
theorem yrK : LK ykf ykg 219 Tryz.f219 0 := lkN (u := (unG yAf y6X)) (yr fun t => by kernel_rfl) yrJ
theorem ywC : EV ykf ykg 219 Tryz.f219 yoO yub [(.int .i64)] J0 := fun x => by kernel_rfl
def yBp : QF := ⟨219, J0, okN (n := 1) Tryz.func219 ⟨yrK, trivial⟩ ywC⟩
def zL (x : yuK) : Option (List y9) :=
 Option.bind (yK x.1) fun r1 => Option.bind (jo (r1, x.2)) fun r2 => Option.bind (Jp r2) fun r3 => some r3
theorem ywD : EV [yr8, yBd, yvK] lpN 221 Tryz.f221 yoP yuL [(.sl 64 yi)] zL := fun x => by kernel_rfl
def yBq : QF := ⟨221, zL, okN (n := 0) Tryz.func221 trivial ywD⟩
def zn (x : List y9) : Option (List yb) :=
 bif ((List.length x : Int) == (0 : Int)) then some ([] : List yb) else Option.bind (Y1 x) fun r1 => some ([r1] : List yb)
theorem ywE : EV [yvM] lpN 224 Tryz.f224 yoQ [(.sl 64 yi)] [(.sl 58 yn)] zn := fun x => by kernel_rfl
def ywF : QF := ⟨224, zn, okN (n := 0) Tryz.func224 trivial ywE⟩
abbrev VJ : Type := yAg
def wy (k0 : yuc → Option R) (k1 : yeW → Option R) (again : VJ → Option R) (t2 : VJ) : Option R :=
 bif (decide (t2.2.2.2.2.1 < t2.2.2.2.1)) then if (0 : Int) ≤ t2.2.2.2.2.1 then if t2.2.2.2.2.1 < (List.length t2.2.2.1 : Int) then Option.bind (bif ((y6 t2.2.2.1 t2.2.2.2.2.1).1 == t2.1) then some ((y6 t2.2.2.1 t2.2.2.2.2.1).2.1 == t2.2.1) else some false) fun u1 => bif u1 then k0 (true, (y6 t2.2.2.1 t2.2.2.2.2.1).1, (y6 t2.2.2.1 t2.2.2.2.2.1).2.1, (y6 t2.2.2.1 t2.2.2.2.2.1).2.2.1, (y6 t2.2.2.1 t2.2.2.2.2.1).2.2.2.1, (y6 t2.2.2.1 t2.2.2.2.2.1).2.2.2.2) else again (t2.1, t2.2.1, t2.2.2.1, t2.2.2.2.1, (Go.IntKind.wrap .i64 (t2.2.2.2.2.1 + (1 : Int))), t2.2.2.2.2.2.1, t2.2.2.2.2.2.2.1, t2.2.2.2.2.2.2.2.1, t2.2.2.2.2.2.2.2.2.1, t2.2.2.2.2.2.2.2.2.2) else none else none else k1 t2.2.2.2.2.2
def y0S k0 k1 := zI (@wy R k0 k1) Y0
def Wc (x : yAi) : Option ycY :=
 y0S (fun x2 => some (x2.2.1, x2.2.2.1, x2.2.2.2.1, x2.2.2.2.2.1, x2.2.2.2.2.2, x2.1)) (fun x3 => some ((0 : Int), (0 : Int), (0 : Int), (0 : Int), (0 : Int), false)) (x.2.1, x.2.2, x.1, (List.length x.1 : Int), (0 : Int), (0 : Int), (0 : Int), (0 : Int), (0 : Int), (0 : Int))
def ykh : List QF := []
def y6Y (t : yAg) : St := ⟨.dead :: vI t.1 :: vI t.2.1 :: dd 3 (.box 6 0 :: dd 3 (qQ t.2.2.1 :: vI t.2.2.2.1 :: vI t.2.2.2.2.1 :: dd 16 [])), [(6, .box [vI t.2.2.2.2.2.1, vI t.2.2.2.2.2.2.1, vI t.2.2.2.2.2.2.2.1, vI t.2.2.2.2.2.2.2.2.1, vI t.2.2.2.2.2.2.2.2.2])]⟩
def yi7 : Gk VJ := fun κ => wy (fun t => κ none ⟨dd 6 (.box 6 0 :: vB t.1 :: dd 21 []), [(6, .box [vI t.2.1, vI t.2.2.1, vI t.2.2.2.1, vI t.2.2.2.2.1, vI t.2.2.2.2.2])]⟩) (fun t => κ (some 0) ⟨dd 6 (.box 6 0 :: dd 22 []), [(6, .box [vI t.1, vI t.2.1, vI t.2.2.1, vI t.2.2.2.1, vI t.2.2.2.2])]⟩)
def yki : Lp := lpC 2 (unG yAh y6Y) @yi7 lpN
theorem yrL : LF ykh yki 301 2 Tryz.f301 0 y6Y @yi7 fun t => t := fun R κ again t => by kernel_rfl
theorem yrM : LK ykh yki 301 Tryz.f301 0 := lkN (u := (unG yAh y6Y)) (yr fun t => by kernel_rfl) yrL
theorem ywG : EV ykh yki 301 Tryz.f301 yoR yAj ycZ Wc := fun x => by kernel_rfl
def yBr : QF := ⟨301, Wc, okN (n := 1) Tryz.func301 ⟨yrM, trivial⟩ ywG⟩
def wz (x : yuK) : Option yAk :=
 Option.bind (zw x.1) fun r1 => bif (decide ((Go.IntKind.wrap .i64 ((List.length x.1 : Int) - (1 : Int))) ≥ (0 : Int))) then if (0 : Int) ≤ (Go.IntKind.wrap .i64 ((List.length x.1 : Int) - (1 : Int))) then if (Go.IntKind.wrap .i64 ((List.length x.1 : Int) - (1 : Int))) < (List.length x.1 : Int) then Option.bind (Wc ((yo x.1 (Go.IntKind.wrap .i64 ((List.length x.1 : Int) - (1 : Int)))), x.2.1, x.2.2.1)) fun r2 => Option.bind (bif r2.2.2.2.2.2 then some true else if (0 : Int) ≤ (Go.IntKind.wrap .i64 ((List.length x.1 : Int) - (1 : Int))) then if (Go.IntKind.wrap .i64 ((List.length x.1 : Int) - (1 : Int))) < (List.length x.1 : Int) then some (decide (((List.length (yo x.1 (Go.IntKind.wrap .i64 ((List.length x.1 : Int) - (1 : Int)))) : Nat) : Int) < (4 : Int))) else none else none) fun u3 => bif u3 then if (0 : Int) ≤ (Go.IntKind.wrap .i64 ((List.length x.1 : Int) - (1 : Int))) then if (Go.IntKind.wrap .i64 ((List.length x.1 : Int) - (1 : Int))) < (List.length x.1 : Int) then Option.bind (jo ((yo x.1 (Go.IntKind.wrap .i64 ((List.length x.1 : Int) - (1 : Int)))), x.2.1, x.2.2.1, x.2.2.2.1, x.2.2.2.2.1, x.2.2.2.2.2)) fun r4 => if (0 : Int) ≤ (Go.IntKind.wrap .i64 ((List.length x.1 : Int) - (1 : Int))) then if (Go.IntKind.wrap .i64 ((List.length x.1 : Int) - (1 : Int))) < (List.length r1 : Int) then Option.bind (zB (List.set r1 (Int.toNat (Go.IntKind.wrap .i64 ((List.length x.1 : Int) - (1 : Int)))) r4)) fun r5 => bif r5 then some ((List.set r1 (Int.toNat (Go.IntKind.wrap .i64 ((List.length x.1 : Int) - (1 : Int)))) r4), true) else Option.bind (zL x) fun r6 => Option.bind (zn r6) fun r7 => Option.bind (bif (decide ((List.length r6 : Int) > (8 : Int))) then some true else Option.bind (zB r7) fun r9 => some (!r9)) fun u8 => bif u8 then Option.bind (zw x.1) fun r10 => some (r10, false) else some (r7, true) else none else none else none else none else if (List.length r1 + List.length ([([x.2] : List y9)] : List yb)) * 24 < 140737488355328 then Option.bind (zB (r1 ++ ([([x.2] : List y9)] : List yb))) fun r11 => bif r11 then some ((r1 ++ ([([x.2] : List y9)] : List yb)), true) else Option.bind (zL x) fun r12 => Option.bind (zn r12) fun r13 => Option.bind (bif (decide ((List.length r12 : Int) > (8 : Int))) then some true else Option.bind (zB r13) fun r15 => some (!r15)) fun u14 => bif u14 then Option.bind (zw x.1) fun r16 => some (r16, false) else some (r13, true) else none else none else none else if (List.length r1 + List.length ([([x.2] : List y9)] : List yb)) * 24 < 140737488355328 then Option.bind (zB (r1 ++ ([([x.2] : List y9)] : List yb))) fun r17 => bif r17 then some ((r1 ++ ([([x.2] : List y9)] : List yb)), true) else Option.bind (zL x) fun r18 => Option.bind (zn r18) fun r19 => Option.bind (bif (decide ((List.length r18 : Int) > (8 : Int))) then some true else Option.bind (zB r19) fun r21 => some (!r21)) fun u20 => bif u20 then Option.bind (zw x.1) fun r22 => some (r22, false) else some (r19, true) else none
theorem ywH : EV [yBq, ywF, yBf, yBk, yBr, yvK] lpN 220 Tryz.f220 yoS yuL yAl wz := fun x => by kernel_rfl
def yCL : QF := ⟨220, wz, okN (n := 0) Tryz.func220 trivial ywH⟩
def Y2 (x : yCi) : Option y4f :=
 if (0 : Int) ≤ (0 : Int) then if (0 : Int) ≤ x.2.2.1 then if x.2.2.1 ≤ (List.length x.1 : Int) then Option.bind (ZU (List.drop (Int.toNat (0 : Int)) (List.take (Int.toNat x.2.2.1) x.1))) fun r1 => if (List.length r1 + List.length x.2.2.2.2.1) * 8 < 140737488355328 then if (0 : Int) ≤ (Go.IntKind.wrap .i64 (x.2.2.1 + x.2.2.2.1)) then if (Go.IntKind.wrap .i64 (x.2.2.1 + x.2.2.2.1)) ≤ (List.length x.1 : Int) then if (List.length x.1 : Int) ≤ (List.length x.1 : Int) then if (List.length (r1 ++ x.2.2.2.2.1) + List.length (List.drop (Int.toNat (Go.IntKind.wrap .i64 (x.2.2.1 + x.2.2.2.1))) (List.take (Int.toNat (List.length x.1 : Int)) x.1))) * 8 < 140737488355328 then if (0 : Int) ≤ (0 : Int) then if (0 : Int) ≤ x.2.2.1 then if x.2.2.1 ≤ (List.length x.2.1 : Int) then if (List.length ([] : List y0) + List.length (List.drop (Int.toNat (0 : Int)) (List.take (Int.toNat x.2.2.1) x.2.1))) * 24 < 140737488355328 then if (List.length (([] : List y0) ++ (List.drop (Int.toNat (0 : Int)) (List.take (Int.toNat x.2.2.1) x.2.1))) + List.length x.2.2.2.2.2) * 24 < 140737488355328 then if (0 : Int) ≤ (Go.IntKind.wrap .i64 (x.2.2.1 + x.2.2.2.1)) then if (Go.IntKind.wrap .i64 (x.2.2.1 + x.2.2.2.1)) ≤ (List.length x.2.1 : Int) then if (List.length x.2.1 : Int) ≤ (List.length x.2.1 : Int) then if (List.length ((([] : List y0) ++ (List.drop (Int.toNat (0 : Int)) (List.take (Int.toNat x.2.2.1) x.2.1))) ++ x.2.2.2.2.2) + List.length (List.drop (Int.toNat (Go.IntKind.wrap .i64 (x.2.2.1 + x.2.2.2.1))) (List.take (Int.toNat (List.length x.2.1 : Int)) x.2.1))) * 24 < 140737488355328 then some (((r1 ++ x.2.2.2.2.1) ++ (List.drop (Int.toNat (Go.IntKind.wrap .i64 (x.2.2.1 + x.2.2.2.1))) (List.take (Int.toNat (List.length x.1 : Int)) x.1))), (((([] : List y0) ++ (List.drop (Int.toNat (0 : Int)) (List.take (Int.toNat x.2.2.1) x.2.1))) ++ x.2.2.2.2.2) ++ (List.drop (Int.toNat (Go.IntKind.wrap .i64 (x.2.2.1 + x.2.2.2.1))) (List.take (Int.toNat (List.length x.2.1 : Int)) x.2.1)))) else none else none else none else none else none else none else none else none else none else none else none else none else none else none else none else none else none
theorem ywI : EV [yBj] lpN 222 Tryz.f222 yoT yCj Wk Y2 := fun x => by kernel_rfl
def yBs : QF := ⟨222, Y2, okN (n := 0) Tryz.func222 trivial ywI⟩
abbrev vJ : Type := y9N ⊕ y9N
def vK (k0 : y4f → Option R) (k1 : y4f → Option R) (again : vJ → Option R) : vJ → Option R
 | .inl t2 => bif (decide ((Go.IntKind.wrap .i64 (t2.1 + (1 : Int))) < (List.length t2.2.2 : Int))) then if (0 : Int) ≤ t2.1 then if t2.1 < (List.length t2.2.2 : Int) then Option.bind (yK (yf t2.2.2 t2.1)) fun r1 => if (0 : Int) ≤ (Go.IntKind.wrap .i64 (t2.1 + (1 : Int))) then if (Go.IntKind.wrap .i64 (t2.1 + (1 : Int))) < (List.length t2.2.2 : Int) then Option.bind (yK (yf t2.2.2 (Go.IntKind.wrap .i64 (t2.1 + (1 : Int))))) fun r2 => if (List.length r1 + List.length r2) * 40 < 140737488355328 then bif (decide ((List.length (r1 ++ r2) : Int) ≤ (6 : Int))) then if (0 : Int) ≤ t2.1 then if t2.1 < (List.length t2.2.1 : Int) then Option.bind (zn (r1 ++ r2)) fun r3 => Option.bind (Y2 (t2.2.1, t2.2.2, t2.1, (2 : Int), ([(zu t2.2.1 t2.1)] : List yd), ([r3] : List y0))) fun r4 => again (Sum.inr ((Go.IntKind.wrap .i64 ((-1 : Int) + (1 : Int))), r4.1, r4.2)) else none else none else again (Sum.inl ((Go.IntKind.wrap .i64 (t2.1 + (1 : Int))), t2.2.1, t2.2.2)) else none else none else none else none else none else k0 t2.2
 | .inr t2 => bif (decide ((Go.IntKind.wrap .i64 (t2.1 + (1 : Int))) < (List.length t2.2.2 : Int))) then if (0 : Int) ≤ t2.1 then if t2.1 < (List.length t2.2.2 : Int) then Option.bind (yK (yf t2.2.2 t2.1)) fun r5 => if (0 : Int) ≤ (Go.IntKind.wrap .i64 (t2.1 + (1 : Int))) then if (Go.IntKind.wrap .i64 (t2.1 + (1 : Int))) < (List.length t2.2.2 : Int) then Option.bind (yK (yf t2.2.2 (Go.IntKind.wrap .i64 (t2.1 + (1 : Int))))) fun r6 => if (List.length r5 + List.length r6) * 40 < 140737488355328 then bif (decide ((List.length (r5 ++ r6) : Int) ≤ (6 : Int))) then if (0 : Int) ≤ t2.1 then if t2.1 < (List.length t2.2.1 : Int) then Option.bind (zn (r5 ++ r6)) fun r7 => Option.bind (Y2 (t2.2.1, t2.2.2, t2.1, (2 : Int), ([(zu t2.2.1 t2.1)] : List yd), ([r7] : List y0))) fun r8 => again (Sum.inr ((Go.IntKind.wrap .i64 ((-1 : Int) + (1 : Int))), r8.1, r8.2)) else none else none else again (Sum.inr ((Go.IntKind.wrap .i64 (t2.1 + (1 : Int))), t2.2.1, t2.2.2)) else none else none else none else none else none else k1 t2.2
def QN k0 k1 := zI (@vK R k0 k1) Y0
def Zk (x : y4f) : Option y4f :=
 QN (fun x9 => some x9) (fun x10 => some x10) (Sum.inl ((0 : Int), x.1, x.2))
def ye9 : List QF := [yr8, yBs, ywF]
def y3n (t : y9N) : St := ⟨.dead :: .box 1 0 :: .box 2 0 :: vI t.1 :: dd 39 [], [(1, .box [zg t.2.1, yI t.2.2]), (2, .box [.nils, .nils])]⟩
theorem ygc : ∀ s t, unG yf0 y3n s = some t → y3n t = s := yr fun t => by kernel_rfl
def y3o (t : y9N) : St := ⟨.dead :: .box 1 0 :: .box 2 0 :: vI t.1 :: dd 39 [], [(1, .box [.own 10000000, .own 10000001]), (2, .box [.nils, .nils]), (10000000, .root true 3 yh t.2.1), (10000001, .root true 140 yj t.2.2)]⟩
theorem ygd : ∀ s t, unG yf0 y3o s = some t → y3o t = s := yr fun t => by kernel_rfl
def y3p : (y9N ⊕ y9N) → St := Sum.elim y3n y3o
def y6Z (s : St) : Option (y9N ⊕ y9N) := ((unG yf0 y3n s).map Sum.inl).or (((unG yf0 y3o) s).map Sum.inr)
theorem yge : ∀ s t, y6Z s = some t → y3p t = s := y6o ygc ygd
def ybB : Gk vJ := fun κ => vK (fun t => κ (some 0) ⟨.dead :: .box 1 0 :: .box 2 0 :: dd 40 [], [(1, .box [zg t.1, yI t.2]), (2, .box [.nils, .nils])]⟩) (fun t => κ (some 0) ⟨.dead :: .box 1 0 :: .box 2 0 :: dd 40 [], [(1, .box [.own 10000000, .own 10000001]), (2, .box [.nils, .nils]), (10000000, .root true 3 yh t.1), (10000001, .root true 140 yj t.2)]⟩)
def yea : Lp := lpC 2 y6Z @ybB lpN
theorem ygf : LF ye9 yea 225 2 Tryz.f225 0 y3p @ybB fun v : y9N => .inl v := fun R κ again v => by kernel_rfl
theorem ygg : LF ye9 yea 225 2 Tryz.f225 0 y3p @ybB fun v : y9N => .inr v := fun R κ again v => by kernel_rfl
theorem yrN : LF ye9 yea 225 2 Tryz.f225 0 y3p @ybB fun t => t := (LC.sum ygf ygg)
theorem yrO : LK ye9 yea 225 Tryz.f225 0 := lkN (u := y6Z) yge yrN
theorem ywJ : EV ye9 yea 225 Tryz.f225 yoU Wk Wk Zk := fun x => by kernel_rfl
def yCM : QF := ⟨225, Zk, okN (n := 1) Tryz.func225 ⟨yrO, trivial⟩ ywJ⟩
def wA (x : yAm) : Option yAo :=
 Option.bind (Yi (x.1, x.2.1)) fun r1 => Option.bind (bif (!r1) then some true else Option.bind (Wb x.2.2) fun r3 => some (!r3)) fun u2 => bif u2 then Option.bind (zx (x.1, x.2.1)) fun r4 => some (r4.1, r4.2, false) else Option.bind (J0 (x.1, x.2.1, x.2.2.1, x.2.2.2.1)) fun r5 => Option.bind (zx (x.1, x.2.1)) fun r6 => if (0 : Int) ≤ r5 then if r5 < (List.length r6.2 : Int) then Option.bind (wz ((yf r6.2 r5), x.2.2.1, x.2.2.2.1, x.2.2.2.2.1, x.2.2.2.2.2.1, x.2.2.2.2.2.2)) fun r7 => bif (!r7.2) then if (0 : Int) ≤ r5 then if r5 < (List.length r6.2 : Int) then Option.bind (zL ((yf r6.2 r5), x.2.2.1, x.2.2.2.1, x.2.2.2.2.1, x.2.2.2.2.2.1, x.2.2.2.2.2.2)) fun r8 => if (0 : Int) ≤ (Go.IntKind.wrap .i64 (Int.tdiv (Go.IntKind.wrap .i64 ((List.length r8 : Int) + (1 : Int))) (2 : Int))) then if (Go.IntKind.wrap .i64 (Int.tdiv (Go.IntKind.wrap .i64 ((List.length r8 : Int) + (1 : Int))) (2 : Int))) < (List.length r8 : Int) then if (0 : Int) ≤ r5 then if r5 < (List.length x.1 : Int) then Option.bind (Zh ((y6 r8 (Go.IntKind.wrap .i64 (Int.tdiv (Go.IntKind.wrap .i64 ((List.length r8 : Int) + (1 : Int))) (2 : Int)))).1, (y6 r8 (Go.IntKind.wrap .i64 (Int.tdiv (Go.IntKind.wrap .i64 ((List.length r8 : Int) + (1 : Int))) (2 : Int)))).2.1)) fun r9 => if (0 : Int) ≤ (0 : Int) then if (0 : Int) ≤ (Go.IntKind.wrap .i64 (Int.tdiv (Go.IntKind.wrap .i64 ((List.length r8 : Int) + (1 : Int))) (2 : Int))) then if (Go.IntKind.wrap .i64 (Int.tdiv (Go.IntKind.wrap .i64 ((List.length r8 : Int) + (1 : Int))) (2 : Int))) ≤ (List.length r8 : Int) then Option.bind (zn (List.drop (Int.toNat (0 : Int)) (List.take (Int.toNat (Go.IntKind.wrap .i64 (Int.tdiv (Go.IntKind.wrap .i64 ((List.length r8 : Int) + (1 : Int))) (2 : Int)))) r8))) fun r10 => if (0 : Int) ≤ (Go.IntKind.wrap .i64 (Int.tdiv (Go.IntKind.wrap .i64 ((List.length r8 : Int) + (1 : Int))) (2 : Int))) then if (Go.IntKind.wrap .i64 (Int.tdiv (Go.IntKind.wrap .i64 ((List.length r8 : Int) + (1 : Int))) (2 : Int))) ≤ (List.length r8 : Int) then if (List.length r8 : Int) ≤ (List.length r8 : Int) then Option.bind (zn (List.drop (Int.toNat (Go.IntKind.wrap .i64 (Int.tdiv (Go.IntKind.wrap .i64 ((List.length r8 : Int) + (1 : Int))) (2 : Int)))) (List.take (Int.toNat (List.length r8 : Int)) r8))) fun r11 => Option.bind (Y2 (r6.1, r6.2, r5, (1 : Int), ([(zu x.1 r5), r9] : List yd), ([r10, r11] : List y0))) fun r12 => Option.bind (Zk r12) fun r13 => Option.bind (Yi r13) fun r14 => bif (!r14) then Option.bind (zx (x.1, x.2.1)) fun r15 => some (r15.1, r15.2, false) else some (r13.1, r13.2, true) else none else none else none else none else none else none else none else none else none else none else none else none else Option.bind (bif (decide (r5 > (0 : Int))) then Option.bind (yK r7.1) fun r17 => some ((List.length r17 : Int) == (0 : Int)) else some false) fun u16 => bif u16 then Option.bind (Y2 (r6.1, r6.2, r5, (1 : Int), ([] : List yd), ([] : List y0))) fun r18 => Option.bind (Zk r18) fun r19 => Option.bind (Yi r19) fun r20 => bif (!r20) then Option.bind (zx (x.1, x.2.1)) fun r21 => some (r21.1, r21.2, false) else some (r19.1, r19.2, true) else if (0 : Int) ≤ r5 then if r5 < (List.length r6.2 : Int) then Option.bind (Zk (r6.1, (List.set r6.2 (Int.toNat r5) r7.1))) fun r22 => Option.bind (Yi r22) fun r23 => bif (!r23) then Option.bind (zx (x.1, x.2.1)) fun r24 => some (r24.1, r24.2, false) else some (r22.1, r22.2, true) else none else none else none else none
theorem ywK : EV [yr8, yBg, yBl, yBe, yBp, yCL, yBq, yBs, yvU, ywF, yCM] lpN 100 Tryz.f100 yoV yAn yAp wA := fun x => by kernel_rfl
def yCN : QF := ⟨100, wA, okN (n := 0) Tryz.func100 trivial ywK⟩
def Jz (x : ymi) : Option (List y7) :=
 Option.bind (zA x.1) fun r1 => Option.bind (Zz x.1) fun r2 => Option.bind (bif (!r2) then some true else Option.bind (yw (x.2, (0 : Int), (23 : Int))) fun r4 => some (!r4)) fun u3 => Option.bind (bif u3 then some true else if (0 : Int) ≤ x.2 then if x.2 < (List.length x.1 : Int) then some (!((yl x.1 x.2).2.1)) else none else none) fun u5 => bif u5 then some r1 else if (0 : Int) ≤ x.2 then if x.2 < (List.length x.1 : Int) then if (0 : Int) ≤ x.2 then if x.2 < (List.length r1 : Int) then some (List.set r1 (Int.toNat x.2) ((Int.tmod (Go.IntKind.wrap .i64 ((yl x.1 x.2).1 + (1 : Int))) (1000 : Int)), false, (0 : Int))) else none else none else none else none
theorem ywL : EV [q92, yw3, ywr] lpN 101 Tryz.f101 yoW ymj [(.sl 113 yg)] Jz := fun x => by kernel_rfl
def yCO : QF := ⟨101, Jz, okN (n := 0) Tryz.func101 trivial ywL⟩
abbrev Wz : Type := yud
def WA (k0 : yeW → Option R) (k1 : yuc → Option R) (again : Wz → Option R) (t2 : Wz) : Option R :=
 bif (decide (t2.2.2.1 ≥ (0 : Int))) then if (0 : Int) ≤ t2.2.2.1 then if t2.2.2.1 < (List.length t2.2.2.2.1 : Int) then Option.bind (Wc ((yo t2.2.2.2.1 t2.2.2.1), t2.1, t2.2.1)) fun r1 => bif (!r1.2.2.2.2.2) then again (t2.1, t2.2.1, (Go.IntKind.wrap .i64 (t2.2.2.1 - (1 : Int))), t2.2.2.2.1, t2.2.2.2.2.1, t2.2.2.2.2.2.1, t2.2.2.2.2.2.2.1, t2.2.2.2.2.2.2.2.1, t2.2.2.2.2.2.2.2.2) else bif (r1.2.2.1 == (0 : Int)) then k0 t2.2.2.2.2 else k1 (true, r1.1, r1.2.1, r1.2.2.1, r1.2.2.2.1, r1.2.2.2.2.1) else none else none else k0 t2.2.2.2.2
def QO k0 k1 := zI (@WA R k0 k1) Y0
def WB (x : yjj) : Option ycY :=
 QO (fun x2 => some ((0 : Int), (0 : Int), (0 : Int), (0 : Int), (0 : Int), false)) (fun x3 => some (x3.2.1, x3.2.2.1, x3.2.2.2.1, x3.2.2.2.2.1, x3.2.2.2.2.2, x3.1)) (x.2.1, x.2.2, (Go.IntKind.wrap .i64 ((List.length x.1 : Int) - (1 : Int))), x.1, (0 : Int), (0 : Int), (0 : Int), (0 : Int), (0 : Int))
def ykj : List QF := [yBr]
def y70 (t : yud) : St := ⟨.dead :: vI t.1 :: vI t.2.1 :: .box 3 0 :: dd 2 (.box 6 0 :: .dead :: vI t.2.2.1 :: dd 28 []), [(3, .box [Yp t.2.2.2.1]), (6, .box [vI t.2.2.2.2.1, vI t.2.2.2.2.2.1, vI t.2.2.2.2.2.2.1, vI t.2.2.2.2.2.2.2.1, vI t.2.2.2.2.2.2.2.2])]⟩
def yi8 : Gk Wz := fun κ => WA (fun t => κ (some 0) ⟨dd 6 (.box 6 0 :: dd 30 []), [(6, .box [vI t.1, vI t.2.1, vI t.2.2.1, vI t.2.2.2.1, vI t.2.2.2.2])]⟩) (fun t => κ none ⟨dd 6 (.box 6 0 :: vB t.1 :: dd 29 []), [(6, .box [vI t.2.1, vI t.2.2.1, vI t.2.2.2.1, vI t.2.2.2.2.1, vI t.2.2.2.2.2])]⟩)
def ykk : Lp := lpC 2 (unG yue y70) @yi8 lpN
theorem yrP : LF ykj ykk 322 2 Tryz.f322 0 y70 @yi8 fun t => t := fun R κ again t => by kernel_rfl
theorem yrQ : LK ykj ykk 322 Tryz.f322 0 := lkN (u := (unG yue y70)) (yr fun t => by kernel_rfl) yrP
theorem ywM : EV ykj ykk 322 Tryz.f322 yoX yu7 ycZ WB := fun x => by kernel_rfl
def yCP : QF := ⟨322, WB, okN (n := 1) Tryz.func322 ⟨yrQ, trivial⟩ ywM⟩
def w5 (x : yua) : Option ycY :=
 Option.bind (J0 x) fun r1 => Option.bind (yw (r1, (0 : Int), (Go.IntKind.wrap .i64 ((List.length x.2.1 : Int) - (1 : Int))))) fun r2 => bif (!r2) then some ((0 : Int), (0 : Int), (0 : Int), (0 : Int), (0 : Int), false) else if (0 : Int) ≤ r1 then if r1 < (List.length x.2.1 : Int) then Option.bind (WB ((yf x.2.1 r1), x.2.2.1, x.2.2.2)) fun r3 => some r3 else none else none
theorem ywN : EV [q92, yBp, yCP] lpN 248 Tryz.f248 yoY yub ycZ w5 := fun x => by kernel_rfl
def yBt : QF := ⟨248, w5, okN (n := 0) Tryz.func248 trivial ywN⟩
def zp (x : ymQ) : Option yfI :=
 Option.bind (w5 (x.1, x.2.1, x.2.2.2.2.2.2.1, x.2.2.2.2.2.2.2.1)) fun r1 => Option.bind (wA (x.1, x.2.1, x.2.2.2.2.2.2)) fun r2 => Option.bind (bif r2.2.2 then some r1.2.2.2.2.2 else some false) fun u3 => Option.bind (bif u3 then some (r1.2.2.1 == (1 : Int)) else some false) fun u4 => bif u4 then Option.bind (Jz (x.2.2.2.1, r1.2.2.2.1)) fun r5 => some (r2.2.2, r2.1, r2.2.1, x.2.2.1, r5, x.2.2.2.2.1, x.2.2.2.2.2.1) else some (r2.2.2, r2.1, r2.2.1, x.2.2.1, x.2.2.2.1, x.2.2.2.2.1, x.2.2.2.2.2.1)
theorem ywO : EV [yCN, yCO, yBt] lpN 126 Tryz.f126 yoZ ymR ymM zp := fun x => by kernel_rfl
def yBu : QF := ⟨126, zp, okN (n := 0) Tryz.func126 trivial ywO⟩
def KA (x : yuM) : Option y4Y :=
 Option.bind (Y7 (x.1, x.2.1, x.2.2.1, x.2.2.2.1, x.2.2.2.2.1, x.2.2.2.2.2.1, x.2.2.2.2.2.2.1, x.2.2.2.2.2.2.2.1, true)) fun r1 => Option.bind (bif (r1.2 == (0 : Int)) then Option.bind (jq x.2.2.2.2.2.2.2.2) fun r3 => some (!r3) else some false) fun u2 => bif u2 then bif ((4 : Int) != (0 : Int)) then Option.bind (ym (x.1, x.2.1, x.2.2.1, x.2.2.2.1, x.2.2.2.2.1, x.2.2.2.2.2.1)) fun r4 => some (r4.1, r4.2.1, r4.2.2.1, r4.2.2.2.1, r4.2.2.2.2.1, r4.2.2.2.2.2, (4 : Int)) else Option.bind (ym (x.1, x.2.1, x.2.2.1, x.2.2.2.1, x.2.2.2.2.1, x.2.2.2.2.2.1)) fun r5 => Option.bind (ZV (x.2.2.2.1, x.2.2.2.2.2.2.2.2)) fun r6 => bif (!r6.2.2) then Option.bind (ym (x.1, x.2.1, x.2.2.1, x.2.2.2.1, x.2.2.2.2.1, x.2.2.2.2.2.1)) fun r7 => some (r7.1, r7.2.1, r7.2.2.1, r7.2.2.2.1, r7.2.2.2.2.1, r7.2.2.2.2.2, (6 : Int)) else if (0 : Int) ≤ r1.1 then if r1.1 < (List.length x.2.2.2.2.1 : Int) then if (0 : Int) ≤ r6.2.1 then if r6.2.1 < (List.length r6.1 : Int) then Option.bind (zp (r5.1, r5.2.1, r5.2.2.1, r6.1, r5.2.2.2.2.1, r5.2.2.2.2.2, x.2.2.2.2.2.2.2.1, (y8 x.2.2.2.2.1 r1.1).2.1, (1 : Int), r6.2.1, (yl r6.1 r6.2.1).1)) fun r8 => Option.bind (yU (x.1, x.2.1, x.2.2.1, x.2.2.2.1, x.2.2.2.2.1, x.2.2.2.2.2.1, r8.2.1, r8.2.2.1, r8.2.2.2.1, r8.2.2.2.2.1, r8.2.2.2.2.2.1, r8.2.2.2.2.2.2, r8.1)) fun r9 => some r9 else none else none else none else none else bif (r1.2 != (0 : Int)) then Option.bind (ym (x.1, x.2.1, x.2.2.1, x.2.2.2.1, x.2.2.2.2.1, x.2.2.2.2.2.1)) fun r10 => some (r10.1, r10.2.1, r10.2.2.1, r10.2.2.2.1, r10.2.2.2.2.1, r10.2.2.2.2.2, r1.2) else Option.bind (ym (x.1, x.2.1, x.2.2.1, x.2.2.2.1, x.2.2.2.2.1, x.2.2.2.2.2.1)) fun r11 => Option.bind (ZV (x.2.2.2.1, x.2.2.2.2.2.2.2.2)) fun r12 => bif (!r12.2.2) then Option.bind (ym (x.1, x.2.1, x.2.2.1, x.2.2.2.1, x.2.2.2.2.1, x.2.2.2.2.2.1)) fun r13 => some (r13.1, r13.2.1, r13.2.2.1, r13.2.2.2.1, r13.2.2.2.2.1, r13.2.2.2.2.2, (6 : Int)) else if (0 : Int) ≤ r1.1 then if r1.1 < (List.length x.2.2.2.2.1 : Int) then if (0 : Int) ≤ r12.2.1 then if r12.2.1 < (List.length r12.1 : Int) then Option.bind (zp (r11.1, r11.2.1, r11.2.2.1, r12.1, r11.2.2.2.2.1, r11.2.2.2.2.2, x.2.2.2.2.2.2.2.1, (y8 x.2.2.2.2.1 r1.1).2.1, (1 : Int), r12.2.1, (yl r12.1 r12.2.1).1)) fun r14 => Option.bind (yU (x.1, x.2.1, x.2.2.1, x.2.2.2.1, x.2.2.2.2.1, x.2.2.2.2.2.1, r14.2.1, r14.2.2.1, r14.2.2.2.1, r14.2.2.2.2.1, r14.2.2.2.2.2.1, r14.2.2.2.2.2.2, r14.1)) fun r15 => some r15 else none else none else none else none
theorem yCQ : EV [q91, q99, ymk, yug, yw1, yBu] lpN 25 Tryz.f25 yAH yuN y4Z KA := fun x => by kernel_rfl
def q25 : QF := ⟨25, KA, okN (n := 0) Tryz.func25 trivial yCQ⟩
abbrev vL : Type := yAq
def JA (k0 : List y9 → Option R) (again : vL → Option R) (t3 : vL) : Option R :=
 bif (decide (t3.2.2.1 < t3.2.1)) then if (0 : Int) ≤ t3.2.2.1 then if t3.2.2.1 < (List.length t3.2.2.2.2 : Int) then bif ((y6 t3.2.2.2.2 t3.2.2.1).1 == t3.1) then if (List.length t3.2.2.2.1 + List.length ([((y6 t3.2.2.2.2 t3.2.2.1).1, (y6 t3.2.2.2.2 t3.2.2.1).2.1, (y6 t3.2.2.2.2 t3.2.2.1).2.2.1, (y6 t3.2.2.2.2 t3.2.2.1).2.2.2.1, (y6 t3.2.2.2.2 t3.2.2.1).2.2.2.2)] : List y9)) * 40 < 140737488355328 then again (t3.1, t3.2.1, (Go.IntKind.wrap .i64 (t3.2.2.1 + (1 : Int))), (t3.2.2.2.1 ++ ([((y6 t3.2.2.2.2 t3.2.2.1).1, (y6 t3.2.2.2.2 t3.2.2.1).2.1, (y6 t3.2.2.2.2 t3.2.2.1).2.2.1, (y6 t3.2.2.2.2 t3.2.2.1).2.2.2.1, (y6 t3.2.2.2.2 t3.2.2.1).2.2.2.2)] : List y9)), t3.2.2.2.2) else none else again (t3.1, t3.2.1, (Go.IntKind.wrap .i64 (t3.2.2.1 + (1 : Int))), t3.2.2.2.1, t3.2.2.2.2) else none else none else k0 t3.2.2.2.1
def QP k0 := zI (@JA R k0) Y0
def WC (x : ymI) : Option (List y9) :=
 Option.bind (Yr (x.1, x.2.1)) fun r1 => QP (fun x2 => some x2) (x.2.2, (List.length r1 : Int), (0 : Int), ([] : List y9), r1)
def ykl : List QF := [q29]
def y71 (t : yAq) : St := ⟨.dead :: vI t.1 :: dd 3 (.own 10000000 :: dd 4 (.own 10000001 :: vI t.2.1 :: vI t.2.2.1 :: dd 13 [])), [(10000000, .root true 64 yi t.2.2.2.1), (10000001, .root true 64 yi t.2.2.2.2)]⟩
def yi9 : Gk vL := fun κ => JA (fun t => κ (some 0) ⟨dd 5 (.own 10000000 :: dd 20 []), [(10000000, .root true 64 yi t)]⟩)
def ykm : Lp := lpC 3 (unG yAr y71) @yi9 lpN
theorem yrR : LF ykl ykm 348 3 Tryz.f348 0 y71 @yi9 fun t => t := fun R κ again t => by kernel_rfl
theorem yrS : LK ykl ykm 348 Tryz.f348 0 := lkN (u := (unG yAr y71)) (yr fun t => by kernel_rfl) yrR
theorem ywP : EV ykl ykm 348 Tryz.f348 yp0 ymJ [(.sl 64 yi)] WC := fun x => by kernel_rfl
def yCR : QF := ⟨348, WC, okN (n := 1) Tryz.func348 ⟨yrS, trivial⟩ ywP⟩
abbrev wq : Type := yAs
def YG (k0 : Int → Option R) (k1 : Unit → Option R) (again : wq → Option R) (t2 : wq) : Option R :=
 bif (decide (t2.2.2.2 < t2.2.2.1)) then if (0 : Int) ≤ t2.2.2.2 then if t2.2.2.2 < (List.length t2.1 : Int) then bif (t2.2.1 == (zu t2.1 t2.2.2.2)) then k0 t2.2.2.2 else again (t2.1, t2.2.1, t2.2.2.1, (Go.IntKind.wrap .i64 (t2.2.2.2 + (1 : Int)))) else none else none else k1 ()
def va k0 k1 := zI (@YG R k0 k1) Y0
def Zl (x : yuO) : Option Int :=
 va (fun x1 => some x1) (fun x2 => some (-1 : Int)) (x.1, x.2, (List.length x.1 : Int), (0 : Int))
def ykn : List QF := []
def y72 (t : yAs) : St := ⟨zg t.1 :: vI t.2.1 :: dd 5 (vI t.2.2.1 :: vI t.2.2.2 :: dd 10 []), []⟩
def yia : Gk wq := fun κ => YG (fun t => κ none ⟨dd 4 (vI t :: dd 14 []), []⟩) (fun t => κ (some 0) ⟨dd 19 [], []⟩)
def yko : Lp := lpC 2 (unG yAt y72) @yia lpN
theorem yrT : LF ykn yko 361 2 Tryz.f361 0 y72 @yia fun t => t := fun R κ again t => by kernel_rfl
theorem yrU : LK ykn yko 361 Tryz.f361 0 := lkN (u := (unG yAt y72)) (yr fun t => by kernel_rfl) yrT
theorem ywQ : EV ykn yko 361 Tryz.f361 yp1 yuP [(.int .i64)] Zl := fun x => by kernel_rfl
def yCS : QF := ⟨361, Zl, okN (n := 1) Tryz.func361 ⟨yrU, trivial⟩ ywQ⟩
def Ys (x : yuO) : Option Bool :=
 Option.bind (Zl x) fun r1 => some (decide (r1 ≥ (0 : Int)))
theorem ywR : EV [yCS] lpN 349 Tryz.f349 yp2 yuP [.bool] Ys := fun x => by kernel_rfl
def yCT : QF := ⟨349, Ys, okN (n := 0) Tryz.func349 trivial ywR⟩
abbrev vM : Type := yAu
def JB (k0 : yAw → Option R) (again : vM → Option R) (t3 : vM) : Option R :=
 bif (decide (t3.2.2.2.1 < t3.2.2.1)) then if (0 : Int) ≤ t3.2.2.2.1 then if t3.2.2.2.1 < (List.length t3.2.2.2.2.2.2.2.2.2.2.2.2.2.2 : Int) then Option.bind (Ys (t3.1, (y6 t3.2.2.2.2.2.2.2.2.2.2.2.2.2.2 t3.2.2.2.1).2.1)) fun r2 => Option.bind (bif r2 then Option.bind (bif (!t3.2.1) then some true else some (decide ((y6 t3.2.2.2.2.2.2.2.2.2.2.2.2.2.2 t3.2.2.2.1).2.1 > t3.2.2.2.2.2.2.2.2.2.2.1))) fun u4 => some u4 else some false) fun u3 => bif u3 then again (t3.1, true, t3.2.2.1, (Go.IntKind.wrap .i64 (t3.2.2.2.1 + (1 : Int))), t3.2.2.2.2.1, t3.2.2.2.2.2.1, t3.2.2.2.2.2.2.1, t3.2.2.2.2.2.2.2.1, t3.2.2.2.2.2.2.2.2.1, (y6 t3.2.2.2.2.2.2.2.2.2.2.2.2.2.2 t3.2.2.2.1).1, (y6 t3.2.2.2.2.2.2.2.2.2.2.2.2.2.2 t3.2.2.2.1).2.1, (y6 t3.2.2.2.2.2.2.2.2.2.2.2.2.2.2 t3.2.2.2.1).2.2.1, (y6 t3.2.2.2.2.2.2.2.2.2.2.2.2.2.2 t3.2.2.2.1).2.2.2.1, (y6 t3.2.2.2.2.2.2.2.2.2.2.2.2.2.2 t3.2.2.2.1).2.2.2.2, t3.2.2.2.2.2.2.2.2.2.2.2.2.2.2) else again (t3.1, t3.2.1, t3.2.2.1, (Go.IntKind.wrap .i64 (t3.2.2.2.1 + (1 : Int))), t3.2.2.2.2.1, t3.2.2.2.2.2.1, t3.2.2.2.2.2.2.1, t3.2.2.2.2.2.2.2.1, t3.2.2.2.2.2.2.2.2.1, t3.2.2.2.2.2.2.2.2.2.1, t3.2.2.2.2.2.2.2.2.2.2.1, t3.2.2.2.2.2.2.2.2.2.2.2.1, t3.2.2.2.2.2.2.2.2.2.2.2.2.1, t3.2.2.2.2.2.2.2.2.2.2.2.2.2.1, t3.2.2.2.2.2.2.2.2.2.2.2.2.2.2) else none else none else k0 (t3.2.1, t3.2.2.2.2.1, t3.2.2.2.2.2.1, t3.2.2.2.2.2.2.1, t3.2.2.2.2.2.2.2.1, t3.2.2.2.2.2.2.2.2.1, t3.2.2.2.2.2.2.2.2.2.1, t3.2.2.2.2.2.2.2.2.2.2.1, t3.2.2.2.2.2.2.2.2.2.2.2.1, t3.2.2.2.2.2.2.2.2.2.2.2.2.1, t3.2.2.2.2.2.2.2.2.2.2.2.2.2.1)
def QQ k0 := zI (@JB R k0) Y0
def jt (x : ymS) : Option ycY :=
 Option.bind (WC (x.1, x.2.1, x.2.2.1)) fun r1 => QQ (fun x5 => some (x5.2.2.2.2.2.2.1, x5.2.2.2.2.2.2.2.1, x5.2.2.2.2.2.2.2.2.1, x5.2.2.2.2.2.2.2.2.2.1, x5.2.2.2.2.2.2.2.2.2.2, x5.1)) (x.2.2.2, false, (List.length r1 : Int), (0 : Int), (0 : Int), (0 : Int), (0 : Int), (0 : Int), (0 : Int), (0 : Int), (0 : Int), (0 : Int), (0 : Int), (0 : Int), r1)
def ykp : List QF := [yCR, yCT]
def y73 (t : yAu) : St := ⟨dd 2 (zg t.1 :: dd 3 (.box 6 0 :: .dead :: .box 8 0 :: vB t.2.1 :: dd 5 (.own 10000000 :: vI t.2.2.1 :: vI t.2.2.2.1 :: dd 22 []))), [(6, .box [vI t.2.2.2.2.1, vI t.2.2.2.2.2.1, vI t.2.2.2.2.2.2.1, vI t.2.2.2.2.2.2.2.1, vI t.2.2.2.2.2.2.2.2.1]), (8, .box [vI t.2.2.2.2.2.2.2.2.2.1, vI t.2.2.2.2.2.2.2.2.2.2.1, vI t.2.2.2.2.2.2.2.2.2.2.2.1, vI t.2.2.2.2.2.2.2.2.2.2.2.2.1, vI t.2.2.2.2.2.2.2.2.2.2.2.2.2.1]), (10000000, .root true 64 yi t.2.2.2.2.2.2.2.2.2.2.2.2.2.2)]⟩
def yib : Gk vM := fun κ => JB (fun t => κ (some 0) ⟨dd 6 (.box 6 0 :: .dead :: .box 8 0 :: vB t.1 :: dd 30 []), [(6, .box [vI t.2.1, vI t.2.2.1, vI t.2.2.2.1, vI t.2.2.2.2.1, vI t.2.2.2.2.2.1]), (8, .box [vI t.2.2.2.2.2.2.1, vI t.2.2.2.2.2.2.2.1, vI t.2.2.2.2.2.2.2.2.1, vI t.2.2.2.2.2.2.2.2.2.1, vI t.2.2.2.2.2.2.2.2.2.2])]⟩)
def ykq : Lp := lpC 3 (unG yAv y73) @yib lpN
theorem yrV : LF ykp ykq 320 3 Tryz.f320 0 y73 @yib fun t => t := fun R κ again t => by kernel_rfl
theorem yrW : LK ykp ykq 320 Tryz.f320 0 := lkN (u := (unG yAv y73)) (yr fun t => by kernel_rfl) yrV
theorem ywS : EV ykp ykq 320 Tryz.f320 yp3 ymT ycZ jt := fun x => by kernel_rfl
def yBv : QF := ⟨320, jt, okN (n := 1) Tryz.func320 ⟨yrW, trivial⟩ ywS⟩
abbrev WD : Type := ymU
def WE (k0 : List yd → Option R) (again : WD → Option R) (t3 : WD) : Option R :=
 bif (decide (t3.2.2.2.1 < t3.2.2.1)) then Option.bind (Yq (t3.1, t3.2.1)) fun r1 => bif (decide (r1 < (0 : Int))) then k0 t3.2.2.2.2 else if (List.length t3.2.2.2.2 + List.length ([t3.2.1] : List yd)) * 8 < 140737488355328 then if (0 : Int) ≤ r1 then if r1 < (List.length t3.1 : Int) then again (t3.1, (yD t3.1 r1).2, t3.2.2.1, (Go.IntKind.wrap .i64 (t3.2.2.2.1 + (1 : Int))), (t3.2.2.2.2 ++ ([t3.2.1] : List yd))) else none else none else none else k0 t3.2.2.2.2
def QR k0 := zI (@WE R k0) Y0
def w6 (x : yeX) : Option (List yd) :=
 QR (fun x2 => some x2) (x.1, x.2, (Go.IntKind.wrap .i64 ((List.length x.1 : Int) + (1 : Int))), (0 : Int), ([] : List yd))
def ykr : List QF := [yrj]
def y74 (t : ymU) : St := ⟨zm t.1 :: vI t.2.1 :: dd 3 (.own 10000000 :: dd 4 (vI t.2.2.1 :: vI t.2.2.2.1 :: dd 17 [])), [(10000000, .root true 3 yh t.2.2.2.2)]⟩
def yic : Gk WD := fun κ => WE (fun t => κ (some 0) ⟨dd 5 (.own 10000000 :: dd 23 []), [(10000000, .root true 3 yh t)]⟩)
def yks : Lp := lpC 3 (unG ymV y74) @yic lpN
theorem yrX : LF ykr yks 321 3 Tryz.f321 0 y74 @yic fun t => t := fun R κ again t => by kernel_rfl
theorem yrY : LK ykr yks 321 Tryz.f321 0 := lkN (u := (unG ymV y74)) (yr fun t => by kernel_rfl) yrX
theorem ywT : EV ykr yks 321 Tryz.f321 yp4 yeY [(.sl 3 yh)] w6 := fun x => by kernel_rfl
def yBw : QF := ⟨321, w6, okN (n := 1) Tryz.func321 ⟨yrY, trivial⟩ ywT⟩
def vN (x : yfJ) : Option ycY :=
 Option.bind (w6 (x.2.2.1, x.2.2.2.2)) fun r1 => Option.bind (jt (x.1, x.2.1, x.2.2.2.1, r1)) fun r2 => some r2
theorem ywU : EV [yBv, yBw] lpN 246 Tryz.f246 yp5 yfK ycZ vN := fun x => by kernel_rfl
def yCU : QF := ⟨246, vN, okN (n := 0) Tryz.func246 trivial ywU⟩
def wB (x : yfL) : Option Int :=
 Option.bind (yw (x.2.2.2.2.2.2.1, (0 : Int), (Go.IntKind.wrap .i64 ((List.length x.2.2.2.2.1 : Int) - (1 : Int))))) fun r1 => Option.bind (bif (!r1) then some true else if (0 : Int) ≤ x.2.2.2.2.2.2.1 then if x.2.2.2.2.2.2.1 < (List.length x.2.2.2.2.1 : Int) then Option.bind (yw (x.2.2.2.2.2.2.2, (0 : Int), (Go.IntKind.wrap .i64 ((y8 x.2.2.2.2.1 x.2.2.2.2.2.2.1).2.2.1 - (1 : Int))))) fun r3 => some (!r3) else none else none) fun u2 => bif u2 then some (0 : Int) else if (0 : Int) ≤ x.2.2.2.2.2.2.1 then if x.2.2.2.2.2.2.1 < (List.length x.2.2.2.2.1 : Int) then Option.bind (vN (x.1, x.2.1, x.2.2.1, x.2.2.2.2.2.2.2, (y8 x.2.2.2.2.1 x.2.2.2.2.2.2.1).2.1)) fun r4 => Option.bind (bif (!r4.2.2.2.2.2) then some true else some (r4.2.2.1 != (1 : Int))) fun u5 => bif u5 then some (0 : Int) else Option.bind (w4 (x.2.2.2.1, r4.2.2.2.1, r4.2.2.2.2.1)) fun r6 => some r6.1 else none else none
theorem ywV : EV [q92, yCU, yBi] lpN 121 Tryz.f121 yp6 yfM [(.int .i64)] wB := fun x => by kernel_rfl
def yCV : QF := ⟨121, wB, okN (n := 0) Tryz.func121 trivial ywV⟩
def vO (x : y2W) : Option yfH :=
 Option.bind (Y7 (x.1, x.2.1, x.2.2.1, x.2.2.2.1, x.2.2.2.2.1, x.2.2.2.2.2.1, x.2.2.2.2.2.2.1, x.2.2.2.2.2.2.2, false)) fun r1 => bif (r1.2 != (0 : Int)) then some ((0 : Int), r1.2) else Option.bind (wB (x.1, x.2.1, x.2.2.1, x.2.2.2.1, x.2.2.2.2.1, x.2.2.2.2.2.1, r1.1, x.2.2.2.2.2.2.2)) fun r2 => some (r2, (0 : Int))
theorem yCW : EV [yCV, yug] lpN 26 Tryz.f26 yAI y2X yhJ vO := fun x => by kernel_rfl
def q26 : QF := ⟨26, vO, okN (n := 0) Tryz.func26 trivial yCW⟩
abbrev VK : Type := qR
def Ko (k0 : ymW → Option R) (again : VK → Option R) (t3 : VK) : Option R :=
 Option.bind (bif (decide (t3.2.2 < (List.length t3.1 : Int))) then some (decide (t3.2.2 < (4000 : Int))) else some false) fun u1 => bif u1 then if (0 : Int) ≤ t3.2.2 then if t3.2.2 < (List.length t3.1 : Int) then again (t3.1, (Go.bits .and .i64 (Go.IntKind.wrap .i64 ((Go.IntKind.wrap .i64 ((Go.IntKind.wrap .i64 (t3.2.1 * (137 : Int))) + (Go.IntKind.wrap .i64 (ymH t3.1 t3.2.2)))) + (11 : Int))) (1073741823 : Int)), (Go.IntKind.wrap .i64 (t3.2.2 + (1 : Int)))) else none else none else k0 (t3.1, t3.2.1)
def y51 k0 := zI (@Ko R k0) Y0
def VA (x : List Vn) : Option qR :=
 y51 (fun x2 => some (x2.1, (0 : Int), x2.2)) (x, (Go.IntKind.wrap .i64 ((941941 : Int) + (List.length x : Int))), (0 : Int))
def ykt : List QF := []
def y75 (t : qR) : St := ⟨y5M t.1 :: dd 2 (vI t.2.1 :: vI t.2.2 :: dd 27 []), []⟩
def yid : Gk VK := fun κ => Ko (fun t => κ (some 0) ⟨y5M t.1 :: dd 2 (vI t.2 :: dd 28 []), []⟩)
def yku : Lp := lpC 3 (unG Z5 y75) @yid lpN
theorem yrZ : LF ykt yku 112 3 Tryz.f112 0 y75 @yid fun t => t := fun R κ again t => by kernel_rfl
theorem ys0 : LK ykt yku 112 Tryz.f112 0 := lkN (u := (unG Z5 y75)) (yr fun t => by kernel_rfl) yrZ
theorem ywW : EV ykt yku 112 Tryz.f112 yp7 [(.sl 5 Yt)] Z5 VA := fun x => by kernel_rfl
def yCX : QF := ⟨112, VA, okN (n := 1) Tryz.func112 ⟨ys0, trivial⟩ ywW⟩
def WF (x : ymW) : Option Int :=
 bif (decide ((Go.IntKind.wrap .i64 ((3 : Int) + (Go.IntKind.wrap .i64 (Int.tdiv (List.length x.1 : Int) (12 : Int))))) > x.2)) then some x.2 else some (Go.IntKind.wrap .i64 ((3 : Int) + (Go.IntKind.wrap .i64 (Int.tdiv (List.length x.1 : Int) (12 : Int)))))
theorem ywX : EV [] lpN 114 Tryz.f114 yp8 yuQ [(.int .i64)] WF := fun x => by kernel_rfl
def yCY : QF := ⟨114, WF, okN (n := 0) Tryz.func114 trivial ywX⟩
def Zm (x : qR) : Option y50 :=
 bif (decide (x.2.1 < (List.length x.1 : Int))) then if (0 : Int) ≤ x.2.1 then if x.2.1 < (List.length x.1 : Int) then some ((Go.bits .and .i64 (Go.IntKind.wrap .i64 ((Go.bits .and .i64 (Go.bits .xor .i64 (Int.fdiv (Go.IntKind.wrap .i64 ((Go.IntKind.wrap .i64 (x.2.2 * (6364136223846793005 : Int))) + (1442695040888963407 : Int))) (2 ^ (min (Int.toNat (33 : Int)) (Go.IntKind.bits .i64)))) (Int.fdiv (Go.IntKind.wrap .i64 ((Go.IntKind.wrap .i64 (x.2.2 * (6364136223846793005 : Int))) + (1442695040888963407 : Int))) (2 ^ (min (Int.toNat (47 : Int)) (Go.IntKind.bits .i64))))) (255 : Int)) + (Go.IntKind.wrap .i64 (ymH x.1 x.2.1)))) (255 : Int)), x.1, (Go.IntKind.wrap .i64 (x.2.1 + (1 : Int))), (Go.IntKind.wrap .i64 ((Go.IntKind.wrap .i64 (x.2.2 * (6364136223846793005 : Int))) + (1442695040888963407 : Int)))) else none else none else some ((Go.bits .and .i64 (Go.bits .xor .i64 (Int.fdiv (Go.IntKind.wrap .i64 ((Go.IntKind.wrap .i64 (x.2.2 * (6364136223846793005 : Int))) + (1442695040888963407 : Int))) (2 ^ (min (Int.toNat (33 : Int)) (Go.IntKind.bits .i64)))) (Int.fdiv (Go.IntKind.wrap .i64 ((Go.IntKind.wrap .i64 (x.2.2 * (6364136223846793005 : Int))) + (1442695040888963407 : Int))) (2 ^ (min (Int.toNat (47 : Int)) (Go.IntKind.bits .i64))))) (255 : Int)), x.1, x.2.1, (Go.IntKind.wrap .i64 ((Go.IntKind.wrap .i64 (x.2.2 * (6364136223846793005 : Int))) + (1442695040888963407 : Int))))
theorem ywY : EV [] lpN 263 Tryz.f263 yp9 Z5 yan Zm := fun x => by kernel_rfl
def yCZ : QF := ⟨263, Zm, okN (n := 0) Tryz.func263 trivial ywY⟩
def yc (x : y8R) : Option y50 :=
 bif (decide (x.2.2.2 ≤ (0 : Int))) then some ((0 : Int), x.1, x.2.1, x.2.2.1) else bif (decide (x.2.2.2 ≤ (256 : Int))) then Option.bind (Zm (x.1, x.2.1, x.2.2.1)) fun r1 => if x.2.2.2 = 0 then none else some ((Int.tmod r1.1 x.2.2.2), r1.2.1, r1.2.2.1, r1.2.2.2) else Option.bind (Zm (x.1, x.2.1, x.2.2.1)) fun r2 => Option.bind (Zm r2.2) fun r3 => Option.bind (Zm r3.2) fun r4 => if x.2.2.2 = 0 then none else some ((Int.tmod (Go.IntKind.wrap .i64 ((Go.IntKind.wrap .i64 ((Go.IntKind.wrap .i64 (r2.1 * (65536 : Int))) + (Go.IntKind.wrap .i64 (r3.1 * (256 : Int))))) + r4.1)) x.2.2.2), r4.2.1, r4.2.2.1, r4.2.2.2)
theorem ywZ : EV [yCZ] lpN 145 Tryz.f145 ypa y8S yan yc := fun x => by kernel_rfl
def y5N : QF := ⟨145, yc, okN (n := 0) Tryz.func145 trivial ywZ⟩
def yq (x : yuR) : Option y50 :=
 Option.bind (yc (x.1, x.2.1, x.2.2.1, (List.length x.2.2.2 : Int))) fun r1 => if (0 : Int) ≤ r1.1 then if r1.1 < (List.length x.2.2.2 : Int) then some ((zu x.2.2.2 r1.1), r1.2.1, r1.2.2.1, r1.2.2.2) else none else none
theorem yD0 : EV [y5N] lpN 90 Tryz.f90 yAJ yuS yan yq := fun x => by kernel_rfl
def q90 : QF := ⟨90, yq, okN (n := 0) Tryz.func90 trivial yD0⟩
def jg (x : yuT) : Option yjm :=
 Option.bind (yc (x.1, x.2.1, x.2.2.1, (List.length x.2.2.2 : Int))) fun r1 => if (0 : Int) ≤ r1.1 then if r1.1 < (List.length x.2.2.2 : Int) then some ((ydJ x.2.2.2 r1.1), r1.2.1, r1.2.2.1, r1.2.2.2) else none else none
theorem yx0 : EV [y5N] lpN 240 Tryz.f240 ypb yuU yjn jg := fun x => by kernel_rfl
def yuh : QF := ⟨240, jg, okN (n := 0) Tryz.func240 trivial yx0⟩
def YL (x : qR) : Option yjm :=
 Option.bind (jg (x.1, x.2.1, x.2.2, ([{ data := #[97] }, { data := #[98] }, { data := #[99] }, { data := #[100] }, { data := #[101, 53] }] : List Vv))) fun r1 => some r1
theorem yx1 : EV [yuh] lpN 236 Tryz.f236 ypc Z5 yjn YL := fun x => by kernel_rfl
def yD1 : QF := ⟨236, YL, okN (n := 0) Tryz.func236 trivial yx1⟩
def YM (x : qR) : Option y50 :=
 Option.bind (yc (x.1, x.2.1, x.2.2, (200 : Int))) fun r1 => Option.bind (yq (r1.2.1, r1.2.2.1, r1.2.2.2, ([(0 : Int), (1 : Int), (2 : Int), (7 : Int), (65535 : Int), (Go.IntKind.wrap .i64 ((1 : Int) + r1.1))] : List yd))) fun r2 => some r2
theorem yx2 : EV [q90, y5N] lpN 241 Tryz.f241 ypd Z5 yan YM := fun x => by kernel_rfl
def yD2 : QF := ⟨241, YM, okN (n := 0) Tryz.func241 trivial yx2⟩
def ZA (x : qR) : Option yuV :=
 Option.bind (yq (x.1, x.2.1, x.2.2, ([(1 : Int), (1 : Int), (1 : Int), (2 : Int), (2 : Int), (3 : Int), (4 : Int), (4 : Int), (4 : Int), (4 : Int), (4 : Int), (4 : Int), (5 : Int), (6 : Int), (7 : Int), (7 : Int), (8 : Int), (9 : Int)] : List yd))) fun r1 => bif (decide (r1.1 < (7 : Int))) then Option.bind (jg (r1.2.1, r1.2.2.1, r1.2.2.2, ([{ data := #[97] }, { data := #[97] }, { data := #[98] }, { data := #[99] }, { data := #[100] }] : List Vv))) fun r2 => bif (r1.1 == (1 : Int)) then bif (r1.1 == (1 : Int)) then Option.bind (yq (r2.2.1, r2.2.2.1, r2.2.2.2, ([(1 : Int), (3 : Int), (4 : Int), (12 : Int), (5 : Int)] : List yd))) fun r3 => some (r1.1, r2.1, (⟨#[]⟩ : ByteArray), r3.1, (0 : Int), r3.2.1, r3.2.2.1, r3.2.2.2) else bif (r1.1 == (2 : Int)) then Option.bind (YL r2.2) fun r4 => Option.bind (yq (r4.2.1, r4.2.2.1, r4.2.2.2, ([(0 : Int), (0 : Int), (0 : Int), (1 : Int)] : List yd))) fun r5 => some (r1.1, r2.1, r4.1, (0 : Int), r5.1, r5.2.1, r5.2.2.1, r5.2.2.2) else bif (r1.1 == (4 : Int)) then Option.bind (yc (r2.2.1, r2.2.2.1, r2.2.2.2, (5 : Int))) fun r6 => Option.bind (YM r6.2) fun r7 => some (r1.1, r2.1, (⟨#[]⟩ : ByteArray), r6.1, r7.1, r7.2.1, r7.2.2.1, r7.2.2.2) else bif (r1.1 == (5 : Int)) then Option.bind (yc (r2.2.1, r2.2.2.1, r2.2.2.2, (5 : Int))) fun r8 => some (r1.1, r2.1, (⟨#[]⟩ : ByteArray), r8.1, (0 : Int), r8.2.1, r8.2.2.1, r8.2.2.2) else bif (r1.1 == (8 : Int)) then bif (r1.1 == (8 : Int)) then Option.bind (yc (r2.2.1, r2.2.2.1, r2.2.2.2, (6 : Int))) fun r9 => some (r1.1, r2.1, (⟨#[]⟩ : ByteArray), r9.1, (0 : Int), r9.2.1, r9.2.2.1, r9.2.2.2) else some (r1.1, r2.1, (⟨#[]⟩ : ByteArray), (0 : Int), (0 : Int), r2.2.1, r2.2.2.1, r2.2.2.2) else bif (r1.1 == (9 : Int)) then Option.bind (yc (r2.2.1, r2.2.2.1, r2.2.2.2, (6 : Int))) fun r10 => some (r1.1, r2.1, (⟨#[]⟩ : ByteArray), r10.1, (0 : Int), r10.2.1, r10.2.2.1, r10.2.2.2) else some (r1.1, r2.1, (⟨#[]⟩ : ByteArray), (0 : Int), (0 : Int), r2.2.1, r2.2.2.1, r2.2.2.2) else bif (r1.1 == (6 : Int)) then Option.bind (yq (r2.2.1, r2.2.2.1, r2.2.2.2, ([(1 : Int), (3 : Int), (4 : Int), (12 : Int), (5 : Int)] : List yd))) fun r11 => some (r1.1, r2.1, (⟨#[]⟩ : ByteArray), r11.1, (0 : Int), r11.2.1, r11.2.2.1, r11.2.2.2) else bif (r1.1 == (2 : Int)) then Option.bind (YL r2.2) fun r12 => Option.bind (yq (r12.2.1, r12.2.2.1, r12.2.2.2, ([(0 : Int), (0 : Int), (0 : Int), (1 : Int)] : List yd))) fun r13 => some (r1.1, r2.1, r12.1, (0 : Int), r13.1, r13.2.1, r13.2.2.1, r13.2.2.2) else bif (r1.1 == (4 : Int)) then Option.bind (yc (r2.2.1, r2.2.2.1, r2.2.2.2, (5 : Int))) fun r14 => Option.bind (YM r14.2) fun r15 => some (r1.1, r2.1, (⟨#[]⟩ : ByteArray), r14.1, r15.1, r15.2.1, r15.2.2.1, r15.2.2.2) else bif (r1.1 == (5 : Int)) then Option.bind (yc (r2.2.1, r2.2.2.1, r2.2.2.2, (5 : Int))) fun r16 => some (r1.1, r2.1, (⟨#[]⟩ : ByteArray), r16.1, (0 : Int), r16.2.1, r16.2.2.1, r16.2.2.2) else bif (r1.1 == (8 : Int)) then bif (r1.1 == (8 : Int)) then Option.bind (yc (r2.2.1, r2.2.2.1, r2.2.2.2, (6 : Int))) fun r17 => some (r1.1, r2.1, (⟨#[]⟩ : ByteArray), r17.1, (0 : Int), r17.2.1, r17.2.2.1, r17.2.2.2) else some (r1.1, r2.1, (⟨#[]⟩ : ByteArray), (0 : Int), (0 : Int), r2.2.1, r2.2.2.1, r2.2.2.2) else bif (r1.1 == (9 : Int)) then Option.bind (yc (r2.2.1, r2.2.2.1, r2.2.2.2, (6 : Int))) fun r18 => some (r1.1, r2.1, (⟨#[]⟩ : ByteArray), r18.1, (0 : Int), r18.2.1, r18.2.2.1, r18.2.2.2) else some (r1.1, r2.1, (⟨#[]⟩ : ByteArray), (0 : Int), (0 : Int), r2.2.1, r2.2.2.1, r2.2.2.2) else bif (r1.1 == (1 : Int)) then bif (r1.1 == (1 : Int)) then Option.bind (yq (r1.2.1, r1.2.2.1, r1.2.2.2, ([(1 : Int), (3 : Int), (4 : Int), (12 : Int), (5 : Int)] : List yd))) fun r19 => some (r1.1, (⟨#[]⟩ : ByteArray), (⟨#[]⟩ : ByteArray), r19.1, (0 : Int), r19.2.1, r19.2.2.1, r19.2.2.2) else bif (r1.1 == (2 : Int)) then Option.bind (YL r1.2) fun r20 => Option.bind (yq (r20.2.1, r20.2.2.1, r20.2.2.2, ([(0 : Int), (0 : Int), (0 : Int), (1 : Int)] : List yd))) fun r21 => some (r1.1, (⟨#[]⟩ : ByteArray), r20.1, (0 : Int), r21.1, r21.2.1, r21.2.2.1, r21.2.2.2) else bif (r1.1 == (4 : Int)) then Option.bind (yc (r1.2.1, r1.2.2.1, r1.2.2.2, (5 : Int))) fun r22 => Option.bind (YM r22.2) fun r23 => some (r1.1, (⟨#[]⟩ : ByteArray), (⟨#[]⟩ : ByteArray), r22.1, r23.1, r23.2.1, r23.2.2.1, r23.2.2.2) else bif (r1.1 == (5 : Int)) then Option.bind (yc (r1.2.1, r1.2.2.1, r1.2.2.2, (5 : Int))) fun r24 => some (r1.1, (⟨#[]⟩ : ByteArray), (⟨#[]⟩ : ByteArray), r24.1, (0 : Int), r24.2.1, r24.2.2.1, r24.2.2.2) else bif (r1.1 == (8 : Int)) then bif (r1.1 == (8 : Int)) then Option.bind (yc (r1.2.1, r1.2.2.1, r1.2.2.2, (6 : Int))) fun r25 => some (r1.1, (⟨#[]⟩ : ByteArray), (⟨#[]⟩ : ByteArray), r25.1, (0 : Int), r25.2.1, r25.2.2.1, r25.2.2.2) else some (r1.1, (⟨#[]⟩ : ByteArray), (⟨#[]⟩ : ByteArray), (0 : Int), (0 : Int), r1.2.1, r1.2.2.1, r1.2.2.2) else bif (r1.1 == (9 : Int)) then Option.bind (yc (r1.2.1, r1.2.2.1, r1.2.2.2, (6 : Int))) fun r26 => some (r1.1, (⟨#[]⟩ : ByteArray), (⟨#[]⟩ : ByteArray), r26.1, (0 : Int), r26.2.1, r26.2.2.1, r26.2.2.2) else some (r1.1, (⟨#[]⟩ : ByteArray), (⟨#[]⟩ : ByteArray), (0 : Int), (0 : Int), r1.2.1, r1.2.2.1, r1.2.2.2) else bif (r1.1 == (6 : Int)) then Option.bind (yq (r1.2.1, r1.2.2.1, r1.2.2.2, ([(1 : Int), (3 : Int), (4 : Int), (12 : Int), (5 : Int)] : List yd))) fun r27 => some (r1.1, (⟨#[]⟩ : ByteArray), (⟨#[]⟩ : ByteArray), r27.1, (0 : Int), r27.2.1, r27.2.2.1, r27.2.2.2) else bif (r1.1 == (2 : Int)) then Option.bind (YL r1.2) fun r28 => Option.bind (yq (r28.2.1, r28.2.2.1, r28.2.2.2, ([(0 : Int), (0 : Int), (0 : Int), (1 : Int)] : List yd))) fun r29 => some (r1.1, (⟨#[]⟩ : ByteArray), r28.1, (0 : Int), r29.1, r29.2.1, r29.2.2.1, r29.2.2.2) else bif (r1.1 == (4 : Int)) then Option.bind (yc (r1.2.1, r1.2.2.1, r1.2.2.2, (5 : Int))) fun r30 => Option.bind (YM r30.2) fun r31 => some (r1.1, (⟨#[]⟩ : ByteArray), (⟨#[]⟩ : ByteArray), r30.1, r31.1, r31.2.1, r31.2.2.1, r31.2.2.2) else bif (r1.1 == (5 : Int)) then Option.bind (yc (r1.2.1, r1.2.2.1, r1.2.2.2, (5 : Int))) fun r32 => some (r1.1, (⟨#[]⟩ : ByteArray), (⟨#[]⟩ : ByteArray), r32.1, (0 : Int), r32.2.1, r32.2.2.1, r32.2.2.2) else bif (r1.1 == (8 : Int)) then bif (r1.1 == (8 : Int)) then Option.bind (yc (r1.2.1, r1.2.2.1, r1.2.2.2, (6 : Int))) fun r33 => some (r1.1, (⟨#[]⟩ : ByteArray), (⟨#[]⟩ : ByteArray), r33.1, (0 : Int), r33.2.1, r33.2.2.1, r33.2.2.2) else some (r1.1, (⟨#[]⟩ : ByteArray), (⟨#[]⟩ : ByteArray), (0 : Int), (0 : Int), r1.2.1, r1.2.2.1, r1.2.2.2) else bif (r1.1 == (9 : Int)) then Option.bind (yc (r1.2.1, r1.2.2.1, r1.2.2.2, (6 : Int))) fun r34 => some (r1.1, (⟨#[]⟩ : ByteArray), (⟨#[]⟩ : ByteArray), r34.1, (0 : Int), r34.2.1, r34.2.2.1, r34.2.2.2) else some (r1.1, (⟨#[]⟩ : ByteArray), (⟨#[]⟩ : ByteArray), (0 : Int), (0 : Int), r1.2.1, r1.2.2.1, r1.2.2.2)
theorem yx3 : EV [q90, y5N, yD1, yuh, yD2] lpN 115 Tryz.f115 ype Z5 yuW ZA := fun x => by kernel_rfl
def yD3 : QF := ⟨115, ZA, okN (n := 0) Tryz.func115 trivial yx3⟩
def J1 (x : Unit) : Option y4f :=
 some (([(0 : Int)] : List yd), ([([] : List yb)] : List y0))
theorem yx4 : EV [] lpN 312 Tryz.f312 ypf [] Wk J1 := fun x => by kernel_rfl
def yBx : QF := ⟨312, J1, okN (n := 0) Tryz.func312 trivial yx4⟩
def ZW (x : Unit) : Option (List y7) :=
 if (0 : Int) ≤ (24 : Int) then if (24 : Int) ≤ (24 : Int) then if (24 : Int) * ((24 : Nat) : Int) ≤ 140737488351232 then some (List.replicate (Int.toNat (24 : Int)) zW) else none else none else none
theorem yx5 : EV [] lpN 313 Tryz.f313 ypg [] [(.sl 113 yg)] ZW := fun x => by kernel_rfl
def yBy : QF := ⟨313, ZW, okN (n := 0) Tryz.func313 trivial yx5⟩
def Kp (x : Unit) : Option y6q :=
 Option.bind (J1 ()) fun r1 => Option.bind (ZW ()) fun r2 => some (r1.1, r1.2, ([] : List ya), r2, ([] : List ye), (1 : Int))
theorem yx6 : EV [yBx, yBy] lpN 238 Tryz.f238 yph [] YK Kp := fun x => by kernel_rfl
def yD4 : QF := ⟨238, Kp, okN (n := 0) Tryz.func238 trivial yx6⟩
abbrev vP : Type := yhI ⊕ Qz4
def YV (k0 : Unit → Option R) (k1 : List yb → Option R) (again : vP → Option R) : vP → Option R
 | .inl t3 => bif (decide (t3.1 < (List.length t3.2 : Int))) then if (0 : Int) ≤ t3.1 then if t3.1 < (List.length t3.2 : Int) then if (List.length ([] : List y9) + List.length (yo t3.2 t3.1)) * 40 < 140737488355328 then if List.length ([(([] : List y9) ++ (yo t3.2 t3.1))] : List yb) * 24 < 140737488355328 then again (Sum.inr ((Go.IntKind.wrap .i64 (t3.1 + (1 : Int))), t3.2, ([(([] : List y9) ++ (yo t3.2 t3.1))] : List yb))) else none else none else none else none else k0 ()
 | .inr t3 => bif (decide (t3.1 < (List.length t3.2.1 : Int))) then if (0 : Int) ≤ t3.1 then if t3.1 < (List.length t3.2.1 : Int) then if (List.length ([] : List y9) + List.length (yo t3.2.1 t3.1)) * 40 < 140737488355328 then if (List.length t3.2.2 + List.length ([(([] : List y9) ++ (yo t3.2.1 t3.1))] : List yb)) * 24 < 140737488355328 then again (Sum.inr ((Go.IntKind.wrap .i64 (t3.1 + (1 : Int))), t3.2.1, (t3.2.2 ++ ([(([] : List y9) ++ (yo t3.2.1 t3.1))] : List yb)))) else none else none else none else none else k1 t3.2.2
def QS k0 k1 := zI (@YV R k0 k1) Y0
def zc (x : List yb) : Option (List yb) :=
 QS (fun x1 => some ([] : List yb)) (fun x2 => some x2) (Sum.inl ((0 : Int), x))
def yeb : List QF := []
def y3q (t : yhI) : St := ⟨.dead :: .box 1 0 :: .box 2 0 :: .box 3 0 :: vI t.1 :: dd 21 [], [(1, .box [Yp t.2]), (2, .box [.nils]), (3, .box [.nils])]⟩
theorem ygh : ∀ s t, unG yu1 y3q s = some t → y3q t = s := yr fun t => by kernel_rfl
def y3r (t : Qz4) : St := ⟨.dead :: .box 1 0 :: .box 2 0 :: .box 3 0 :: vI t.1 :: dd 21 [], [(1, .box [Yp t.2.1]), (2, .box [.nils]), (3, .box [.own 10000000]), (10000000, .root true 58 yn t.2.2)]⟩
theorem ygi : ∀ s t, unG qz4 y3r s = some t → y3r t = s := yr fun t => by kernel_rfl
def y3s : (yhI ⊕ Qz4) → St := Sum.elim y3q y3r
def y76 (s : St) : Option (yhI ⊕ Qz4) := ((unG yu1 y3q s).map Sum.inl).or (((unG qz4 y3r) s).map Sum.inr)
theorem ygj : ∀ s t, y76 s = some t → y3s t = s := y6o ygh ygi
def ybC : Gk vP := fun κ => YV (fun t => κ (some 0) ⟨dd 2 (.box 2 0 :: .box 3 0 :: dd 22 []), [(2, .box [.nils]), (3, .box [.nils])]⟩) (fun t => κ (some 0) ⟨dd 2 (.box 2 0 :: .box 3 0 :: dd 22 []), [(2, .box [.nils]), (3, .box [.own 10000000]), (10000000, .root true 58 yn t)]⟩)
def yec : Lp := lpC 3 y76 @ybC lpN
theorem ygk : LF yeb yec 299 3 Tryz.f299 0 y3s @ybC fun v : yhI => .inl v := fun R κ again v => by kernel_rfl
theorem ygl : LF yeb yec 299 3 Tryz.f299 0 y3s @ybC fun v : Qz4 => .inr v := fun R κ again v => by kernel_rfl
theorem ys1 : LF yeb yec 299 3 Tryz.f299 0 y3s @ybC fun t => t := (LC.sum ygk ygl)
theorem ys2 : LK yeb yec 299 Tryz.f299 0 := lkN (u := y76) ygj ys1
theorem yx7 : EV yeb yec 299 Tryz.f299 ypi [(.sl 58 yn)] [(.sl 58 yn)] zc := fun x => by kernel_rfl
def yBz : QF := ⟨299, zc, okN (n := 1) Tryz.func299 ⟨ys2, trivial⟩ yx7⟩
abbrev vQ : Type := ydM ⊕ Qz6
def YW (k0 : List yd → Option R) (k1 : y4f → Option R) (again : vQ → Option R) : vQ → Option R
 | .inl t3 => bif (decide (t3.1 < (List.length t3.2.2.1 : Int))) then if (0 : Int) ≤ t3.1 then if t3.1 < (List.length t3.2.2.1 : Int) then Option.bind (zc (yf t3.2.2.1 t3.1)) fun r1 => if List.length ([r1] : List y0) * 24 < 140737488355328 then again (Sum.inr ((Go.IntKind.wrap .i64 (t3.1 + (1 : Int))), t3.2.1, t3.2.2.1, t3.2.2.2, ([r1] : List y0))) else none else none else none else k0 t3.2.2.2
 | .inr t3 => bif (decide (t3.1 < (List.length t3.2.2.1 : Int))) then if (0 : Int) ≤ t3.1 then if t3.1 < (List.length t3.2.2.1 : Int) then Option.bind (zc (yf t3.2.2.1 t3.1)) fun r2 => if (List.length t3.2.2.2.2 + List.length ([r2] : List y0)) * 24 < 140737488355328 then again (Sum.inr ((Go.IntKind.wrap .i64 (t3.1 + (1 : Int))), t3.2.1, t3.2.2.1, t3.2.2.2.1, (t3.2.2.2.2 ++ ([r2] : List y0)))) else none else none else none else k1 t3.2.2.2
def QT k0 k1 := zI (@YW R k0 k1) Y0
def Zn (x : y4f) : Option y4f :=
 if (List.length ([] : List yd) + List.length x.1) * 8 < 140737488355328 then QT (fun x3 => some (x3, ([] : List y0))) (fun x4 => some x4) (Sum.inl ((0 : Int), x.1, x.2, (([] : List yd) ++ x.1))) else none
def yed : List QF := [yBz]
def y3t (t : ydM) : St := ⟨.dead :: .box 1 0 :: .box 2 0 :: .box 3 0 :: vI t.1 :: dd 24 [], [(1, .box [zg t.2.1, yI t.2.2.1]), (2, .box [.nils, .nils]), (3, .box [.own 10000000, .nils]), (10000000, .root true 3 yh t.2.2.2)]⟩
theorem ygm : ∀ s t, unG ymX y3t s = some t → y3t t = s := yr fun t => by kernel_rfl
def y3u (t : Qz6) : St := ⟨.dead :: .box 1 0 :: .box 2 0 :: .box 3 0 :: vI t.1 :: dd 24 [], [(1, .box [zg t.2.1, yI t.2.2.1]), (2, .box [.nils, .nils]), (3, .box [.own 10000000, .own 10000001]), (10000000, .root true 3 yh t.2.2.2.1), (10000001, .root true 140 yj t.2.2.2.2)]⟩
theorem ygn : ∀ s t, unG qz6 y3u s = some t → y3u t = s := yr fun t => by kernel_rfl
def y3v : (ydM ⊕ Qz6) → St := Sum.elim y3t y3u
def y77 (s : St) : Option (ydM ⊕ Qz6) := ((unG ymX y3t s).map Sum.inl).or (((unG qz6 y3u) s).map Sum.inr)
theorem ygo : ∀ s t, y77 s = some t → y3v t = s := y6o ygm ygn
def ybD : Gk vQ := fun κ => YW (fun t => κ (some 0) ⟨dd 2 (.box 2 0 :: .box 3 0 :: dd 25 []), [(2, .box [.nils, .nils]), (3, .box [.own 10000000, .nils]), (10000000, .root true 3 yh t)]⟩) (fun t => κ (some 0) ⟨dd 2 (.box 2 0 :: .box 3 0 :: dd 25 []), [(2, .box [.nils, .nils]), (3, .box [.own 10000000, .own 10000001]), (10000000, .root true 3 yh t.1), (10000001, .root true 140 yj t.2)]⟩)
def yee : Lp := lpC 3 y77 @ybD lpN
theorem ygp : LF yed yee 210 3 Tryz.f210 0 y3v @ybD fun v : ydM => .inl v := fun R κ again v => by kernel_rfl
theorem ygq : LF yed yee 210 3 Tryz.f210 0 y3v @ybD fun v : Qz6 => .inr v := fun R κ again v => by kernel_rfl
theorem ys3 : LF yed yee 210 3 Tryz.f210 0 y3v @ybD fun t => t := (LC.sum ygp ygq)
theorem ys4 : LK yed yee 210 Tryz.f210 0 := lkN (u := y77) ygo ys3
theorem yx8 : EV yed yee 210 Tryz.f210 ypj Wk Wk Zn := fun x => by kernel_rfl
def yx9 : QF := ⟨210, Zn, okN (n := 1) Tryz.func210 ⟨ys4, trivial⟩ yx8⟩
def Y3 (x : List y7) : Option (List y7) :=
 if (List.length ([] : List y7) + List.length x) * 24 < 140737488355328 then some (([] : List y7) ++ x) else none
theorem yxa : EV [] lpN 211 Tryz.f211 ypk [(.sl 113 yg)] [(.sl 113 yg)] Y3 := fun x => by kernel_rfl
def yxb : QF := ⟨211, Y3, okN (n := 0) Tryz.func211 trivial yxa⟩
def yp (x : y6q) : Option y6q :=
 Option.bind (Zn (x.1, x.2.1)) fun r1 => if (List.length ([] : List ya) + List.length x.2.2.1) * 16 < 140737488355328 then Option.bind (Y3 x.2.2.2.1) fun r2 => if (List.length ([] : List ye) + List.length x.2.2.2.2.1) * 40 < 140737488355328 then some (r1.1, r1.2, (([] : List ya) ++ x.2.2.1), r2, (([] : List ye) ++ x.2.2.2.2.1), x.2.2.2.2.2) else none else none
theorem yD5 : EV [yx9, yxb] lpN 94 Tryz.f94 yAK YK YK yp := fun x => by kernel_rfl
def q94 : QF := ⟨94, yp, okN (n := 0) Tryz.func94 trivial yD5⟩
def yu (x : yuD) : Option Bool :=
 Option.bind (bif (decide (x.1 ≥ x.2.1)) then some (decide (x.1 ≤ x.2.2)) else some false) fun u1 => some u1
theorem yD6 : EV [] lpN 96 Tryz.f96 yAL yuE [.bool] yu := fun x => by kernel_rfl
def q96 : QF := ⟨96, yu, okN (n := 0) Tryz.func96 trivial yD6⟩
abbrev qT : Type := yfN
def WG (k0 : List y9 → Option R) (again : qT → Option R) (t3 : qT) : Option R :=
 bif (decide (t3.2.1 < (List.length t3.1 : Int))) then if (0 : Int) ≤ t3.2.1 then if t3.2.1 < (List.length t3.1 : Int) then bif ((y6 t3.1 t3.2.1).2.2.1 != (0 : Int)) then if (0 : Int) ≤ t3.2.1 then if t3.2.1 < (List.length t3.1 : Int) then if (List.length t3.2.2 + List.length ([((y6 t3.1 t3.2.1).1, (y6 t3.1 t3.2.1).2.1, (y6 t3.1 t3.2.1).2.2.1, (y6 t3.1 t3.2.1).2.2.2.1, (y6 t3.1 t3.2.1).2.2.2.2)] : List y9)) * 40 < 140737488355328 then again (t3.1, (Go.IntKind.wrap .i64 (t3.2.1 + (1 : Int))), (t3.2.2 ++ ([((y6 t3.1 t3.2.1).1, (y6 t3.1 t3.2.1).2.1, (y6 t3.1 t3.2.1).2.2.1, (y6 t3.1 t3.2.1).2.2.2.1, (y6 t3.1 t3.2.1).2.2.2.2)] : List y9))) else none else none else none else again (t3.1, (Go.IntKind.wrap .i64 (t3.2.1 + (1 : Int))), t3.2.2) else none else none else k0 t3.2.2
def y1O k0 := zI (@WG R k0) Y0
def Y4 (x : List y9) : Option (List y9) :=
 y1O (fun x1 => some x1) (x, (0 : Int), ([] : List y9))
def ykv : List QF := []
def y78 (t : yfN) : St := ⟨qQ t.1 :: dd 2 (.own 10000000 :: vI t.2.1 :: dd 21 []), [(10000000, .root true 64 yi t.2.2)]⟩
def yie : Gk qT := fun κ => WG (fun t => κ (some 0) ⟨dd 3 (.own 10000000 :: dd 22 []), [(10000000, .root true 64 yi t)]⟩)
def ykw : Lp := lpC 3 (unG yfO y78) @yie lpN
theorem ys5 : LF ykv ykw 230 3 Tryz.f230 0 y78 @yie fun t => t := fun R κ again t => by kernel_rfl
theorem ys6 : LK ykv ykw 230 Tryz.f230 0 := lkN (u := (unG yfO y78)) (yr fun t => by kernel_rfl) ys5
theorem yxc : EV ykv ykw 230 Tryz.f230 ypl [(.sl 64 yi)] [(.sl 64 yi)] Y4 := fun x => by kernel_rfl
def yxd : QF := ⟨230, Y4, okN (n := 1) Tryz.func230 ⟨ys6, trivial⟩ yxc⟩
def J2 (x : ytX) : Option Bool :=
 bif (x.1 != x.2.2.2.2.2.1) then some (decide (x.1 < x.2.2.2.2.2.1)) else some (decide (x.2.1 < x.2.2.2.2.2.2.1))
theorem yxe : EV [] lpN 307 Tryz.f307 ypm ytY [.bool] J2 := fun x => by kernel_rfl
def yBA : QF := ⟨307, J2, okN (n := 0) Tryz.func307 trivial yxe⟩
def ZX (x : ytX) : Option Bool :=
 Option.bind (bif (x.1 == x.2.2.2.2.2.1) then some (x.2.1 == x.2.2.2.2.2.2.1) else some false) fun u1 => some u1
theorem yxf : EV [] lpN 308 Tryz.f308 ypn ytY [.bool] ZX := fun x => by kernel_rfl
def yD7 : QF := ⟨308, ZX, okN (n := 0) Tryz.func308 trivial yxf⟩
abbrev WH : Type := ymY
def YX (k0 : yzn → Option R) (again : WH → Option R) (t4 : WH) : Option R :=
 bif (decide (t4.2.2.1 < (List.length t4.1 : Int))) then Option.bind (bif (!t4.2.1) then if (0 : Int) ≤ t4.2.2.1 then if t4.2.2.1 < (List.length t4.1 : Int) then Option.bind (J2 ((y6 t4.1 t4.2.2.1).1, (y6 t4.1 t4.2.2.1).2.1, (y6 t4.1 t4.2.2.1).2.2.1, (y6 t4.1 t4.2.2.1).2.2.2.1, (y6 t4.1 t4.2.2.1).2.2.2.2, t4.2.2.2.1, t4.2.2.2.2.1, t4.2.2.2.2.2.1, t4.2.2.2.2.2.2.1, t4.2.2.2.2.2.2.2.1)) fun r2 => some (!r2) else none else none else some false) fun u1 => bif u1 then if (List.length t4.2.2.2.2.2.2.2.2 + List.length ([(t4.2.2.2.1, t4.2.2.2.2.1, t4.2.2.2.2.2.1, t4.2.2.2.2.2.2.1, t4.2.2.2.2.2.2.2.1)] : List y9)) * 40 < 140737488355328 then if (0 : Int) ≤ t4.2.2.1 then if t4.2.2.1 < (List.length t4.1 : Int) then Option.bind (ZX ((y6 t4.1 t4.2.2.1).1, (y6 t4.1 t4.2.2.1).2.1, (y6 t4.1 t4.2.2.1).2.2.1, (y6 t4.1 t4.2.2.1).2.2.2.1, (y6 t4.1 t4.2.2.1).2.2.2.2, t4.2.2.2.1, t4.2.2.2.2.1, t4.2.2.2.2.2.1, t4.2.2.2.2.2.2.1, t4.2.2.2.2.2.2.2.1)) fun r3 => bif (!r3) then if (0 : Int) ≤ t4.2.2.1 then if t4.2.2.1 < (List.length t4.1 : Int) then if (List.length (t4.2.2.2.2.2.2.2.2 ++ ([(t4.2.2.2.1, t4.2.2.2.2.1, t4.2.2.2.2.2.1, t4.2.2.2.2.2.2.1, t4.2.2.2.2.2.2.2.1)] : List y9)) + List.length ([((y6 t4.1 t4.2.2.1).1, (y6 t4.1 t4.2.2.1).2.1, (y6 t4.1 t4.2.2.1).2.2.1, (y6 t4.1 t4.2.2.1).2.2.2.1, (y6 t4.1 t4.2.2.1).2.2.2.2)] : List y9)) * 40 < 140737488355328 then again (t4.1, true, (Go.IntKind.wrap .i64 (t4.2.2.1 + (1 : Int))), t4.2.2.2.1, t4.2.2.2.2.1, t4.2.2.2.2.2.1, t4.2.2.2.2.2.2.1, t4.2.2.2.2.2.2.2.1, ((t4.2.2.2.2.2.2.2.2 ++ ([(t4.2.2.2.1, t4.2.2.2.2.1, t4.2.2.2.2.2.1, t4.2.2.2.2.2.2.1, t4.2.2.2.2.2.2.2.1)] : List y9)) ++ ([((y6 t4.1 t4.2.2.1).1, (y6 t4.1 t4.2.2.1).2.1, (y6 t4.1 t4.2.2.1).2.2.1, (y6 t4.1 t4.2.2.1).2.2.2.1, (y6 t4.1 t4.2.2.1).2.2.2.2)] : List y9))) else none else none else none else again (t4.1, true, (Go.IntKind.wrap .i64 (t4.2.2.1 + (1 : Int))), t4.2.2.2.1, t4.2.2.2.2.1, t4.2.2.2.2.2.1, t4.2.2.2.2.2.2.1, t4.2.2.2.2.2.2.2.1, (t4.2.2.2.2.2.2.2.2 ++ ([(t4.2.2.2.1, t4.2.2.2.2.1, t4.2.2.2.2.2.1, t4.2.2.2.2.2.2.1, t4.2.2.2.2.2.2.2.1)] : List y9))) else none else none else none else if (0 : Int) ≤ t4.2.2.1 then if t4.2.2.1 < (List.length t4.1 : Int) then Option.bind (ZX ((y6 t4.1 t4.2.2.1).1, (y6 t4.1 t4.2.2.1).2.1, (y6 t4.1 t4.2.2.1).2.2.1, (y6 t4.1 t4.2.2.1).2.2.2.1, (y6 t4.1 t4.2.2.1).2.2.2.2, t4.2.2.2.1, t4.2.2.2.2.1, t4.2.2.2.2.2.1, t4.2.2.2.2.2.2.1, t4.2.2.2.2.2.2.2.1)) fun r4 => bif (!r4) then if (0 : Int) ≤ t4.2.2.1 then if t4.2.2.1 < (List.length t4.1 : Int) then if (List.length t4.2.2.2.2.2.2.2.2 + List.length ([((y6 t4.1 t4.2.2.1).1, (y6 t4.1 t4.2.2.1).2.1, (y6 t4.1 t4.2.2.1).2.2.1, (y6 t4.1 t4.2.2.1).2.2.2.1, (y6 t4.1 t4.2.2.1).2.2.2.2)] : List y9)) * 40 < 140737488355328 then again (t4.1, t4.2.1, (Go.IntKind.wrap .i64 (t4.2.2.1 + (1 : Int))), t4.2.2.2.1, t4.2.2.2.2.1, t4.2.2.2.2.2.1, t4.2.2.2.2.2.2.1, t4.2.2.2.2.2.2.2.1, (t4.2.2.2.2.2.2.2.2 ++ ([((y6 t4.1 t4.2.2.1).1, (y6 t4.1 t4.2.2.1).2.1, (y6 t4.1 t4.2.2.1).2.2.1, (y6 t4.1 t4.2.2.1).2.2.2.1, (y6 t4.1 t4.2.2.1).2.2.2.2)] : List y9))) else none else none else none else again (t4.1, t4.2.1, (Go.IntKind.wrap .i64 (t4.2.2.1 + (1 : Int))), t4.2.2.2.1, t4.2.2.2.2.1, t4.2.2.2.2.2.1, t4.2.2.2.2.2.2.1, t4.2.2.2.2.2.2.2.1, t4.2.2.2.2.2.2.2.2) else none else none else k0 (t4.2.1, t4.2.2.2)
def vR k0 := zI (@YX R k0) Y0
def zq (x : yzo) : Option (List y9) :=
 vR (fun x5 => bif (!x5.1) then if (List.length x5.2.2.2.2.2.2 + List.length ([(x5.2.1, x5.2.2.1, x5.2.2.2.1, x5.2.2.2.2.1, x5.2.2.2.2.2.1)] : List y9)) * 40 < 140737488355328 then some (x5.2.2.2.2.2.2 ++ ([(x5.2.1, x5.2.2.1, x5.2.2.2.1, x5.2.2.2.2.1, x5.2.2.2.2.2.1)] : List y9)) else none else some x5.2.2.2.2.2.2) (x.1, false, (0 : Int), x.2.1, x.2.2.1, x.2.2.2.1, x.2.2.2.2.1, x.2.2.2.2.2, ([] : List y9))
def ykx : List QF := [yBA, yD7]
def y79 (t : ymY) : St := ⟨qQ t.1 :: dd 2 (.box 3 0 :: .dead :: .own 10000000 :: vB t.2.1 :: vI t.2.2.1 :: dd 43 []), [(3, .box [vI t.2.2.2.1, vI t.2.2.2.2.1, vI t.2.2.2.2.2.1, vI t.2.2.2.2.2.2.1, vI t.2.2.2.2.2.2.2.1]), (10000000, .root true 64 yi t.2.2.2.2.2.2.2.2)]⟩
def yif : Gk WH := fun κ => YX (fun t => κ (some 0) ⟨dd 3 (.box 3 0 :: .dead :: .own 10000000 :: vB t.1 :: dd 44 []), [(3, .box [vI t.2.1, vI t.2.2.1, vI t.2.2.2.1, vI t.2.2.2.2.1, vI t.2.2.2.2.2.1]), (10000000, .root true 64 yi t.2.2.2.2.2.2)]⟩)
def yky : Lp := lpC 4 (unG ymZ y79) @yif lpN
theorem ys7 : LF ykx yky 231 4 Tryz.f231 0 y79 @yif fun t => t := fun R κ again t => by kernel_rfl
theorem ys8 : LK ykx yky 231 Tryz.f231 0 := lkN (u := (unG ymZ y79)) (yr fun t => by kernel_rfl) ys7
theorem yxg : EV ykx yky 231 Tryz.f231 ypo yzp [(.sl 64 yi)] zq := fun x => by kernel_rfl
def yui : QF := ⟨231, zq, okN (n := 1) Tryz.func231 ⟨ys8, trivial⟩ yxg⟩
abbrev WI : Type := yfN
def Zo (k0 : List y9 → Option R) (again : WI → Option R) (t3 : WI) : Option R :=
 bif (decide (t3.2.1 < (List.length t3.1 : Int))) then if (0 : Int) ≤ t3.2.1 then if t3.2.1 < (List.length t3.1 : Int) then Option.bind (zq (t3.2.2, (y6 t3.1 t3.2.1).1, (y6 t3.1 t3.2.1).2.1, (y6 t3.1 t3.2.1).2.2.1, (y6 t3.1 t3.2.1).2.2.2.1, (y6 t3.1 t3.2.1).2.2.2.2)) fun r1 => again (t3.1, (Go.IntKind.wrap .i64 (t3.2.1 + (1 : Int))), r1) else none else none else k0 t3.2.2
def VB k0 := zI (@Zo R k0) Y0
def Z9 (x : Qz3) : Option (List y9) :=
 if (List.length ([] : List y9) + List.length x.1) * 40 < 140737488355328 then VB (fun x2 => some x2) (x.2, (0 : Int), (([] : List y9) ++ x.1)) else none
def ykz : List QF := [yui]
def y7a (t : yfN) : St := ⟨.dead :: qQ t.1 :: dd 3 (.own 10000000 :: vI t.2.1 :: dd 16 []), [(10000000, .root true 64 yi t.2.2)]⟩
def yig : Gk WI := fun κ => Zo (fun t => κ (some 0) ⟨dd 5 (.own 10000000 :: dd 17 []), [(10000000, .root true 64 yi t)]⟩)
def ykA : Lp := lpC 3 (unG yfO y7a) @yig lpN
theorem ys9 : LF ykz ykA 309 3 Tryz.f309 0 y7a @yig fun t => t := fun R κ again t => by kernel_rfl
theorem ysa : LK ykz ykA 309 Tryz.f309 0 := lkN (u := (unG yfO y7a)) (yr fun t => by kernel_rfl) ys9
theorem yxh : EV ykz ykA 309 Tryz.f309 ypp qz3 [(.sl 64 yi)] Z9 := fun x => by kernel_rfl
def yD8 : QF := ⟨309, Z9, okN (n := 1) Tryz.func309 ⟨ysa, trivial⟩ yxh⟩
abbrev K6 : Type := yn0
def ZY (k0 : List y9 → Option R) (again : K6 → Option R) (t3 : K6) : Option R :=
 bif (decide (t3.1 < (List.length t3.2.1 : Int))) then if (0 : Int) ≤ t3.1 then if t3.1 < (List.length t3.2.1 : Int) then Option.bind (Z9 (t3.2.2, (yo t3.2.1 t3.1))) fun r1 => again ((Go.IntKind.wrap .i64 (t3.1 + (1 : Int))), t3.2.1, r1) else none else none else k0 t3.2.2
def qw k0 := zI (@ZY R k0) Y0
def yA (x : List yb) : Option (List y9) :=
 qw (fun x2 => Option.bind (Y4 x2) fun r3 => some r3) ((0 : Int), x, ([] : List y9))
def ykB : List QF := [yxd, yD8]
def y7b (t : yn0) : St := ⟨.dead :: .box 1 0 :: .dead :: .own 10000000 :: vI t.1 :: dd 17 [], [(1, .box [Yp t.2.1]), (10000000, .root true 64 yi t.2.2)]⟩
def yih : Gk K6 := fun κ => ZY (fun t => κ (some 0) ⟨dd 3 (.own 10000000 :: dd 18 []), [(10000000, .root true 64 yi t)]⟩)
def ykC : Lp := lpC 3 (unG yn1 y7b) @yih lpN
theorem ysb : LF ykB ykC 232 3 Tryz.f232 0 y7b @yih fun t => t := fun R κ again t => by kernel_rfl
theorem ysc : LK ykB ykC 232 Tryz.f232 0 := lkN (u := (unG yn1 y7b)) (yr fun t => by kernel_rfl) ysb
theorem yxi : EV ykB ykC 232 Tryz.f232 ypq [(.sl 58 yn)] [(.sl 64 yi)] yA := fun x => by kernel_rfl
def ykD : QF := ⟨232, yA, okN (n := 1) Tryz.func232 ⟨ysc, trivial⟩ yxi⟩
abbrev K7 : Type := yn2
def ZZ (k0 : List y9 → Option R) (again : K7 → Option R) (t3 : K7) : Option R :=
 bif (decide (t3.1 < (List.length t3.2.2.1 : Int))) then if (0 : Int) ≤ t3.1 then if t3.1 < (List.length t3.2.2.1 : Int) then Option.bind (yA (yf t3.2.2.1 t3.1)) fun r1 => if (List.length t3.2.2.2 + List.length r1) * 40 < 140737488355328 then again ((Go.IntKind.wrap .i64 (t3.1 + (1 : Int))), t3.2.1, t3.2.2.1, (t3.2.2.2 ++ r1)) else none else none else none else k0 t3.2.2.2
def qx k0 := zI (@ZZ R k0) Y0
def yL (x : y4f) : Option (List y9) :=
 qx (fun x2 => some x2) ((0 : Int), x.1, x.2, ([] : List y9))
def ykE : List QF := [ykD]
def y7c (t : yn2) : St := ⟨.dead :: .box 1 0 :: .dead :: .own 10000000 :: vI t.1 :: dd 17 [], [(1, .box [zg t.2.1, yI t.2.2.1]), (10000000, .root true 64 yi t.2.2.2)]⟩
def yii : Gk K7 := fun κ => ZZ (fun t => κ (some 0) ⟨dd 3 (.own 10000000 :: dd 18 []), [(10000000, .root true 64 yi t)]⟩)
def ykF : Lp := lpC 3 (unG yn3 y7c) @yii lpN
theorem ysd : LF ykE ykF 137 3 Tryz.f137 0 y7c @yii fun t => t := fun R κ again t => by kernel_rfl
theorem yse : LK ykE ykF 137 Tryz.f137 0 := lkN (u := (unG yn3 y7c)) (yr fun t => by kernel_rfl) ysd
theorem yxj : EV ykE ykF 137 Tryz.f137 ypr Wk [(.sl 64 yi)] yL := fun x => by kernel_rfl
def ykG : QF := ⟨137, yL, okN (n := 1) Tryz.func137 ⟨yse, trivial⟩ yxj⟩
def w7 (x : yfH) : Option Int :=
 some (Go.IntKind.wrap .i64 ((Go.IntKind.wrap .i64 ((64 : Int) * x.1)) + x.2))
theorem yxk : EV [] lpN 304 Tryz.f304 yps yhJ [(.int .i64)] w7 := fun x => by kernel_rfl
def yBB : QF := ⟨304, w7, okN (n := 0) Tryz.func304 trivial yxk⟩
def w8 (x : yeW) : Option Int :=
 Option.bind (w7 (x.1, x.2.1)) fun r1 => some r1
theorem yxl : EV [yBB] lpN 233 Tryz.f233 ypt Vm [(.int .i64)] w8 := fun x => by kernel_rfl
def yBC : QF := ⟨233, w8, okN (n := 0) Tryz.func233 trivial yxl⟩
def Wd (x : yeW) : Option Bool :=
 Option.bind (yu (x.1, (0 : Int), (15 : Int))) fun r1 => Option.bind (bif (!r1) then some true else Option.bind (yu (x.2.1, (1 : Int), (60 : Int))) fun r3 => some (!r3)) fun u2 => Option.bind (bif u2 then some true else Option.bind (yu (x.2.2.1, (0 : Int), (2 : Int))) fun r5 => some (!r5)) fun u4 => bif u4 then some false else bif (x.2.2.1 == (1 : Int)) then Option.bind (yu (x.2.2.2.1, (0 : Int), (23 : Int))) fun r6 => Option.bind (bif r6 then Option.bind (yu (x.2.2.2.2, (0 : Int), (999 : Int))) fun r8 => some r8 else some false) fun u7 => some u7 else Option.bind (bif (x.2.2.2.1 == (0 : Int)) then some (x.2.2.2.2 == (0 : Int)) else some false) fun u9 => some u9
theorem yxm : EV [q96] lpN 226 Tryz.f226 ypu Vm [.bool] Wd := fun x => by kernel_rfl
def yBD : QF := ⟨226, Wd, okN (n := 0) Tryz.func226 trivial yxm⟩
abbrev KP : Type := yfP
def jJ (k0 : Bool → Option R) (k1 : Unit → Option R) (again : KP → Option R) (t2 : KP) : Option R :=
 bif (decide (t2.2 < (List.length t2.1 : Int))) then if (0 : Int) ≤ (Go.IntKind.wrap .i64 (t2.2 - (1 : Int))) then if (Go.IntKind.wrap .i64 (t2.2 - (1 : Int))) < (List.length t2.1 : Int) then if (0 : Int) ≤ t2.2 then if t2.2 < (List.length t2.1 : Int) then Option.bind (J2 ((y6 t2.1 (Go.IntKind.wrap .i64 (t2.2 - (1 : Int)))).1, (y6 t2.1 (Go.IntKind.wrap .i64 (t2.2 - (1 : Int)))).2.1, (y6 t2.1 (Go.IntKind.wrap .i64 (t2.2 - (1 : Int)))).2.2.1, (y6 t2.1 (Go.IntKind.wrap .i64 (t2.2 - (1 : Int)))).2.2.2.1, (y6 t2.1 (Go.IntKind.wrap .i64 (t2.2 - (1 : Int)))).2.2.2.2, (y6 t2.1 t2.2).1, (y6 t2.1 t2.2).2.1, (y6 t2.1 t2.2).2.2.1, (y6 t2.1 t2.2).2.2.2.1, (y6 t2.1 t2.2).2.2.2.2)) fun r1 => bif (!r1) then k0 false else again (t2.1, (Go.IntKind.wrap .i64 (t2.2 + (1 : Int)))) else none else none else none else none else k1 ()
def Qc k0 k1 := zI (@jJ R k0 k1) Y0
def wC (x : List y9) : Option Bool :=
 Qc (fun x2 => some x2) (fun x3 => some true) (x, (1 : Int))
def ykH : List QF := [yBA]
def y7d (t : yfP) : St := ⟨qQ t.1 :: dd 2 (vI t.2 :: dd 17 []), []⟩
def yij : Gk KP := fun κ => jJ (fun t => κ none ⟨dd 2 (vB t :: dd 18 []), []⟩) (fun t => κ (some 0) ⟨dd 21 [], []⟩)
def ykI : Lp := lpC 2 (unG yfQ y7d) @yij lpN
theorem ysf : LF ykH ykI 359 2 Tryz.f359 0 y7d @yij fun t => t := fun R κ again t => by kernel_rfl
theorem ysg : LK ykH ykI 359 Tryz.f359 0 := lkN (u := (unG yfQ y7d)) (yr fun t => by kernel_rfl) ysf
theorem yxn : EV ykH ykI 359 Tryz.f359 ypv [(.sl 64 yi)] [.bool] wC := fun x => by kernel_rfl
def yD9 : QF := ⟨359, wC, okN (n := 1) Tryz.func359 ⟨ysg, trivial⟩ yxn⟩
abbrev VL : Type := yfP
def wD (k0 : yzu → Option R) (k1 : List y9 → Option R) (again : VL → Option R) (t2 : VL) : Option R :=
 bif (decide (t2.2 < (List.length t2.1 : Int))) then if (0 : Int) ≤ t2.2 then if t2.2 < (List.length t2.1 : Int) then Option.bind (Wd ((y6 t2.1 t2.2).1, (y6 t2.1 t2.2).2.1, (y6 t2.1 t2.2).2.2.1, (y6 t2.1 t2.2).2.2.2.1, (y6 t2.1 t2.2).2.2.2.2)) fun r1 => bif (!r1) then k0 (t2.1, false) else again (t2.1, (Go.IntKind.wrap .i64 (t2.2 + (1 : Int)))) else none else none else k1 t2.1
def y0T k0 k1 := zI (@wD R k0 k1) Y0
def KB (x : List y9) : Option Bool :=
 y0T (fun x2 => some x2.2) (fun x3 => Option.bind (wC x3) fun r4 => Option.bind (bif r4 then some (decide ((List.length x3 : Int) ≤ (60 : Int))) else some false) fun u5 => some u5) (x, (0 : Int))
def ykJ : List QF := [yBD, yD9]
def y7e (t : yfP) : St := ⟨qQ t.1 :: dd 2 (vI t.2 :: dd 19 []), []⟩
def yik : Gk VL := fun κ => wD (fun t => κ none ⟨qQ t.1 :: .dead :: vB t.2 :: dd 20 [], []⟩) (fun t => κ (some 0) ⟨qQ t :: dd 22 [], []⟩)
def ykK : Lp := lpC 2 (unG yfQ y7e) @yik lpN
theorem ysh : LF ykJ ykK 344 2 Tryz.f344 0 y7e @yik fun t => t := fun R κ again t => by kernel_rfl
theorem ysi : LK ykJ ykK 344 Tryz.f344 0 := lkN (u := (unG yfQ y7e)) (yr fun t => by kernel_rfl) ysh
theorem yxo : EV ykJ ykK 344 Tryz.f344 ypw [(.sl 64 yi)] [.bool] KB := fun x => by kernel_rfl
def yDa : QF := ⟨344, KB, okN (n := 1) Tryz.func344 ⟨ysi, trivial⟩ yxo⟩
abbrev KQ : Type := yn4
def jK (k0 : Int → Option R) (again : KQ → Option R) (t3 : KQ) : Option R :=
 bif (decide (t3.2.1 < (List.length t3.2.2 : Int))) then if (0 : Int) ≤ t3.2.1 then if t3.2.1 < (List.length t3.2.2 : Int) then again ((Go.IntKind.wrap .i64 (t3.1 + (List.length (yo t3.2.2 t3.2.1) : Int))), (Go.IntKind.wrap .i64 (t3.2.1 + (1 : Int))), t3.2.2) else none else none else k0 t3.1
def Qd k0 := zI (@jK R k0) Y0
def wE (x : List yb) : Option Int :=
 Qd (fun x1 => some x1) ((0 : Int), (0 : Int), x)
def ykL : List QF := []
def y7f (t : yn4) : St := ⟨.dead :: .box 1 0 :: .dead :: vI t.1 :: vI t.2.1 :: dd 16 [], [(1, .box [Yp t.2.2])]⟩
def yil : Gk KQ := fun κ => jK (fun t => κ (some 0) ⟨dd 3 (vI t :: dd 17 []), []⟩)
def ykM : Lp := lpC 3 (unG yn5 y7f) @yil lpN
theorem ysj : LF ykL ykM 345 3 Tryz.f345 0 y7f @yil fun t => t := fun R κ again t => by kernel_rfl
theorem ysk : LK ykL ykM 345 Tryz.f345 0 := lkN (u := (unG yn5 y7f)) (yr fun t => by kernel_rfl) ysj
theorem yxp : EV ykL ykM 345 Tryz.f345 ypx [(.sl 58 yn)] [(.int .i64)] wE := fun x => by kernel_rfl
def yDb : QF := ⟨345, wE, okN (n := 1) Tryz.func345 ⟨ysk, trivial⟩ yxp⟩
abbrev vT : Type := yhI
def JC (k0 : yuX → Option R) (k1 : List yb → Option R) (again : vT → Option R) (t2 : vT) : Option R :=
 bif (decide (t2.1 < (List.length t2.2 : Int))) then if (0 : Int) ≤ t2.1 then if t2.1 < (List.length t2.2 : Int) then Option.bind (KB (yo t2.2 t2.1)) fun r1 => Option.bind (bif (!r1) then some true else if (0 : Int) ≤ t2.1 then if t2.1 < (List.length t2.2 : Int) then some ((List.length (yo t2.2 t2.1) : Int) == (0 : Int)) else none else none) fun u2 => bif u2 then k0 (false, t2.2) else again ((Go.IntKind.wrap .i64 (t2.1 + (1 : Int))), t2.2) else none else none else k1 t2.2
def QU k0 k1 := zI (@JC R k0 k1) Y0
def zi (x : List yb) : Option Bool :=
 QU (fun x3 => some x3.1) (fun x4 => Option.bind (bif (decide ((List.length x4 : Int) ≤ (3 : Int))) then Option.bind (wE x4) fun r6 => some (decide (r6 ≤ (8 : Int))) else some false) fun u5 => some u5) ((0 : Int), x)
def ykN : List QF := [yDa, yDb]
def y7g (t : yhI) : St := ⟨.dead :: .box 1 0 :: .dead :: vI t.1 :: dd 32 [], [(1, .box [Yp t.2])]⟩
def yim : Gk vT := fun κ => JC (fun t => κ none ⟨.dead :: .box 1 0 :: vB t.1 :: dd 33 [], [(1, .box [Yp t.2])]⟩) (fun t => κ (some 0) ⟨.dead :: .box 1 0 :: dd 34 [], [(1, .box [Yp t])]⟩)
def ykO : Lp := lpC 2 (unG yu1 y7g) @yim lpN
theorem ysl : LF ykN ykO 306 2 Tryz.f306 0 y7g @yim fun t => t := fun R κ again t => by kernel_rfl
theorem ysm : LK ykN ykO 306 Tryz.f306 0 := lkN (u := (unG yu1 y7g)) (yr fun t => by kernel_rfl) ysl
theorem yxq : EV ykN ykO 306 Tryz.f306 ypy [(.sl 58 yn)] [.bool] zi := fun x => by kernel_rfl
def yBE : QF := ⟨306, zi, okN (n := 1) Tryz.func306 ⟨ysm, trivial⟩ yxq⟩
abbrev vU : Type := yn6
def JD (k0 : yuY → Option R) (k1 : yjo → Option R) (again : vU → Option R) (t8 : vU) : Option R :=
 if (0 : Int) ≤ t8.2.1 then if t8.2.1 < (List.length t8.2.2.2.2.2 : Int) then bif (decide (t8.2.2.1 < (List.length (yo t8.2.2.2.2.2 t8.2.1) : Int))) then if (0 : Int) ≤ t8.2.1 then if t8.2.1 < (List.length t8.2.2.2.2.2 : Int) then if (0 : Int) ≤ t8.2.2.1 then if t8.2.2.1 < (List.length (yo t8.2.2.2.2.2 t8.2.1) : Int) then Option.bind (w8 ((y6 (yo t8.2.2.2.2.2 t8.2.1) t8.2.2.1).1, (y6 (yo t8.2.2.2.2.2 t8.2.1) t8.2.2.1).2.1, (y6 (yo t8.2.2.2.2.2 t8.2.1) t8.2.2.1).2.2.1, (y6 (yo t8.2.2.2.2.2 t8.2.1) t8.2.2.1).2.2.2.1, (y6 (yo t8.2.2.2.2.2 t8.2.1) t8.2.2.1).2.2.2.2)) fun r5 => if (0 : Int) ≤ t8.1 then if t8.1 < (List.length t8.2.2.2.1 : Int) then Option.bind (bif (decide (r5 < (zu t8.2.2.2.1 t8.1))) then some true else Option.bind (bif (decide ((Go.IntKind.wrap .i64 (t8.1 + (1 : Int))) < (List.length t8.2.2.2.1 : Int))) then if (0 : Int) ≤ (Go.IntKind.wrap .i64 (t8.1 + (1 : Int))) then if (Go.IntKind.wrap .i64 (t8.1 + (1 : Int))) < (List.length t8.2.2.2.1 : Int) then some (decide (r5 ≥ (zu t8.2.2.2.1 (Go.IntKind.wrap .i64 (t8.1 + (1 : Int)))))) else none else none else some false) fun u7 => some u7) fun u6 => bif u6 then k0 (t8.1, false, t8.2.1, t8.2.2.2) else again (t8.1, t8.2.1, (Go.IntKind.wrap .i64 (t8.2.2.1 + (1 : Int))), t8.2.2.2.1, t8.2.2.2.2.1, t8.2.2.2.2.2) else none else none else none else none else none else none else k1 (t8.1, t8.2.1, t8.2.2.2) else none else none
def vV k0 k1 := zI (@JD R k0 k1) Y0
abbrev vW : Type := yjo
def JE (k0 : Bool → Option R) (k1 : Unit → Option R) (again : vW → Option R) (t5 : vW) : Option R :=
 bif (decide (t5.2.1 < (List.length t5.2.2.2.2 : Int))) then vV (fun x8 => k0 x8.2.1) (fun x9 => again (x9.1, (Go.IntKind.wrap .i64 (x9.2.1 + (1 : Int))), x9.2.2.1, x9.2.2.2.1, x9.2.2.2.2)) (t5.1, t5.2.1, (0 : Int), t5.2.2.1, t5.2.2.2.1, t5.2.2.2.2) else k1 ()
def vX k0 k1 := zI (@JE R k0 k1) Y0
def WJ (x : ymI) : Option Bool :=
 if (0 : Int) ≤ x.2.2 then if x.2.2 < (List.length x.2.1 : Int) then Option.bind (zi (yf x.2.1 x.2.2)) fun r1 => Option.bind (bif (!r1) then some true else Option.bind (bif (decide (x.2.2 > (0 : Int))) then Option.bind (yA (yf x.2.1 x.2.2)) fun r4 => some ((List.length r4 : Int) == (0 : Int)) else some false) fun u3 => some u3) fun u2 => bif u2 then some false else vX (fun x10 => some x10) (fun x11 => some true) (x.2.2, (0 : Int), x.1, x.2.1, (yf x.2.1 x.2.2)) else none else none
def yef : List QF := [ykD, yBC, yBE]
def y7h (t : yn6) : St := ⟨.dead :: vI t.1 :: .box 2 0 :: dd 2 (.box 5 0 :: vI t.2.1 :: vI t.2.2.1 :: dd 70 []), [(2, .box [zg t.2.2.2.1, yI t.2.2.2.2.1]), (5, .box [Yp t.2.2.2.2.2])]⟩
def yin : Gk vU := fun κ => JD (fun t => κ none ⟨.dead :: vI t.1 :: .box 2 0 :: .dead :: vB t.2.1 :: .box 5 0 :: vI t.2.2.1 :: dd 71 [], [(2, .box [zg t.2.2.2.1, yI t.2.2.2.2.1]), (5, .box [Yp t.2.2.2.2.2])]⟩) (fun t => κ (some 2) ⟨.dead :: vI t.1 :: .box 2 0 :: dd 2 (.box 5 0 :: vI t.2.1 :: dd 71 []), [(2, .box [zg t.2.2.1, yI t.2.2.2.1]), (5, .box [Yp t.2.2.2.2])]⟩)
def y7i (t : yjo) : St := ⟨.dead :: vI t.1 :: .box 2 0 :: dd 2 (.box 5 0 :: vI t.2.1 :: dd 71 []), [(2, .box [zg t.2.2.1, yI t.2.2.2.1]), (5, .box [Yp t.2.2.2.2])]⟩
def yio : Gk vW := fun κ => JE (fun t => κ none ⟨dd 4 (vB t :: dd 73 []), []⟩) (fun t => κ (some 0) ⟨dd 78 [], []⟩)
def yeg : Lp := lpC 5 (unG yn8 y7i) @yio (lpC 8 (unG yn7 y7h) @yin lpN)
theorem ysn : LF yef yeg 300 8 Tryz.f300 1 y7h @yin fun t => t := fun R κ again t => by kernel_rfl
theorem yso : LK yef yeg 300 Tryz.f300 1 := lkN (u := (unG yn7 y7h)) (yr fun t => by kernel_rfl) ysn
theorem ysp : LF yef yeg 300 5 Tryz.f300 0 y7i @yio fun t => t := fun R κ again t => by kernel_rfl
theorem ysq : LK yef yeg 300 Tryz.f300 0 := lkN (u := (unG yn8 y7i)) (yr fun t => by kernel_rfl) ysp
theorem yxr : EV yef yeg 300 Tryz.f300 ypz ymJ [.bool] WJ := fun x => by kernel_rfl
def yDc : QF := ⟨300, WJ, okN (n := 2) Tryz.func300 ⟨ysq, yso, trivial⟩ yxr⟩
abbrev vY : Type := y9N
def JF (k0 : yuZ → Option R) (k1 : y4f → Option R) (again : vY → Option R) (t4 : vY) : Option R :=
 bif (decide (t4.1 < (List.length t4.2.2 : Int))) then Option.bind (bif (decide (t4.1 > (0 : Int))) then if (0 : Int) ≤ (Go.IntKind.wrap .i64 (t4.1 - (1 : Int))) then if (Go.IntKind.wrap .i64 (t4.1 - (1 : Int))) < (List.length t4.2.1 : Int) then if (0 : Int) ≤ t4.1 then if t4.1 < (List.length t4.2.1 : Int) then some (decide ((zu t4.2.1 (Go.IntKind.wrap .i64 (t4.1 - (1 : Int)))) ≥ (zu t4.2.1 t4.1))) else none else none else none else none else some false) fun u4 => Option.bind (bif u4 then some true else Option.bind (WJ (t4.2.1, t4.2.2, t4.1)) fun r6 => some (!r6)) fun u5 => bif u5 then k0 (false, t4.2) else again ((Go.IntKind.wrap .i64 (t4.1 + (1 : Int))), t4.2.1, t4.2.2) else k1 t4.2
def QV k0 k1 := zI (@JF R k0 k1) Y0
def Yl (x : y4f) : Option Bool :=
 Option.bind (yu ((List.length x.2 : Int), (1 : Int), (20 : Int))) fun r1 => Option.bind (bif (!r1) then some true else some ((List.length x.1 : Int) != (List.length x.2 : Int))) fun u2 => Option.bind (bif u2 then some true else if (0 : Int) ≤ (0 : Int) then if (0 : Int) < (List.length x.1 : Int) then some ((zu x.1 (0 : Int)) != (0 : Int)) else none else none) fun u3 => bif u3 then some false else QV (fun x7 => some x7.1) (fun x8 => Option.bind (yL x8) fun r9 => some (decide ((List.length r9 : Int) ≤ (60 : Int)))) ((0 : Int), x.1, x.2)
def ykP : List QF := [q96, ykG, yDc]
def y7j (t : y9N) : St := ⟨.dead :: .box 1 0 :: .dead :: vI t.1 :: dd 54 [], [(1, .box [zg t.2.1, yI t.2.2])]⟩
def yip : Gk vY := fun κ => JF (fun t => κ none ⟨.dead :: .box 1 0 :: vB t.1 :: dd 55 [], [(1, .box [zg t.2.1, yI t.2.2])]⟩) (fun t => κ (some 0) ⟨.dead :: .box 1 0 :: dd 56 [], [(1, .box [zg t.1, yI t.2])]⟩)
def ykQ : Lp := lpC 4 (unG yf0 y7j) @yip lpN
theorem ysr : LF ykP ykQ 212 4 Tryz.f212 0 y7j @yip fun t => t := fun R κ again t => by kernel_rfl
theorem yss : LK ykP ykQ 212 Tryz.f212 0 := lkN (u := (unG yf0 y7j)) (yr fun t => by kernel_rfl) ysr
theorem yxs : EV ykP ykQ 212 Tryz.f212 ypA Wk [.bool] Yl := fun x => by kernel_rfl
def yBF : QF := ⟨212, Yl, okN (n := 1) Tryz.func212 ⟨yss, trivial⟩ yxs⟩
abbrev VM : Type := yu8
def wF (k0 : Int → Option R) (k1 : Unit → Option R) (again : VM → Option R) (t2 : VM) : Option R :=
 bif (decide (t2.2.2 < (List.length t2.1 : Int))) then if (0 : Int) ≤ t2.2.2 then if t2.2.2 < (List.length t2.1 : Int) then bif ((yD t2.1 t2.2.2).1 == t2.2.1) then k0 t2.2.2 else again (t2.1, t2.2.1, (Go.IntKind.wrap .i64 (t2.2.2 + (1 : Int)))) else none else none else k1 ()
def y0U k0 k1 := zI (@wF R k0 k1) Y0
def zy (x : yeX) : Option Int :=
 y0U (fun x1 => some x1) (fun x2 => some (-1 : Int)) (x.1, x.2, (0 : Int))
def ykR : List QF := []
def y7k (t : yu8) : St := ⟨zm t.1 :: vI t.2.1 :: dd 3 (vI t.2.2 :: dd 14 []), []⟩
def yiq : Gk VM := fun κ => wF (fun t => κ none ⟨dd 4 (vI t :: dd 15 []), []⟩) (fun t => κ (some 0) ⟨dd 20 [], []⟩)
def ykS : Lp := lpC 2 (unG yu9 y7k) @yiq lpN
theorem yst : LF ykR ykS 262 2 Tryz.f262 0 y7k @yiq fun t => t := fun R κ again t => by kernel_rfl
theorem ysu : LK ykR ykS 262 Tryz.f262 0 := lkN (u := (unG yu9 y7k)) (yr fun t => by kernel_rfl) yst
theorem yxt : EV ykR ykS 262 Tryz.f262 ypB yeY [(.int .i64)] zy := fun x => by kernel_rfl
def yml : QF := ⟨262, zy, okN (n := 1) Tryz.func262 ⟨ysu, trivial⟩ yxt⟩
abbrev vZ : Type := yeX
def JG (k0 : ymL → Option R) (k1 : List ya → Option R) (again : vZ → Option R) (t2 : vZ) : Option R :=
 bif (decide (t2.2 < (List.length t2.1 : Int))) then if (0 : Int) ≤ t2.2 then if t2.2 < (List.length t2.1 : Int) then Option.bind (yu ((yD t2.1 t2.2).1, (1 : Int), (60 : Int))) fun r1 => Option.bind (bif (!r1) then some true else Option.bind (bif (decide (t2.2 > (0 : Int))) then if (0 : Int) ≤ (Go.IntKind.wrap .i64 (t2.2 - (1 : Int))) then if (Go.IntKind.wrap .i64 (t2.2 - (1 : Int))) < (List.length t2.1 : Int) then if (0 : Int) ≤ t2.2 then if t2.2 < (List.length t2.1 : Int) then some (decide ((yD t2.1 (Go.IntKind.wrap .i64 (t2.2 - (1 : Int)))).1 ≥ (yD t2.1 t2.2).1)) else none else none else none else none else some false) fun u3 => some u3) fun u2 => bif u2 then k0 (t2.1, false) else if (0 : Int) ≤ t2.2 then if t2.2 < (List.length t2.1 : Int) then Option.bind (bif ((yD t2.1 t2.2).2 != (0 : Int)) then if (0 : Int) ≤ (0 : Int) then if (0 : Int) ≤ t2.2 then if t2.2 ≤ (List.length t2.1 : Int) then if (0 : Int) ≤ t2.2 then if t2.2 < (List.length t2.1 : Int) then Option.bind (zy ((List.drop (Int.toNat (0 : Int)) (List.take (Int.toNat t2.2) t2.1)), (yD t2.1 t2.2).2)) fun r5 => some (decide (r5 < (0 : Int))) else none else none else none else none else none else some false) fun u4 => bif u4 then k0 (t2.1, false) else again (t2.1, (Go.IntKind.wrap .i64 (t2.2 + (1 : Int)))) else none else none else none else none else k1 t2.1
def QW k0 k1 := zI (@JG R k0 k1) Y0
def YN (x : List ya) : Option Bool :=
 QW (fun x6 => some x6.2) (fun x7 => some (decide ((List.length x7 : Int) ≤ (16 : Int)))) (x, (0 : Int))
def ykT : List QF := [q96, yml]
def y7l (t : yeX) : St := ⟨zm t.1 :: dd 2 (vI t.2 :: dd 52 []), []⟩
def yir : Gk vZ := fun κ => JG (fun t => κ none ⟨zm t.1 :: .dead :: vB t.2 :: dd 53 [], []⟩) (fun t => κ (some 0) ⟨zm t :: dd 55 [], []⟩)
def ykU : Lp := lpC 2 (unG yeY y7l) @yir lpN
theorem ysv : LF ykT ykU 213 2 Tryz.f213 0 y7l @yir fun t => t := fun R κ again t => by kernel_rfl
theorem ysw : LK ykT ykU 213 Tryz.f213 0 := lkN (u := (unG yeY y7l)) (yr fun t => by kernel_rfl) ysv
theorem yxu : EV ykT ykU 213 Tryz.f213 ypC [(.sl 146 yk)] [.bool] YN := fun x => by kernel_rfl
def yxv : QF := ⟨213, YN, okN (n := 1) Tryz.func213 ⟨ysw, trivial⟩ yxu⟩
def zj (x : Int) : Option Bool :=
 Option.bind (yu (x, (0 : Int), (65535 : Int))) fun r1 => some r1
theorem yxw : EV [q96] lpN 182 Tryz.f182 ypD [(.int .i64)] [.bool] zj := fun x => by kernel_rfl
def yuj : QF := ⟨182, zj, okN (n := 0) Tryz.func182 trivial yxw⟩
abbrev KR : Type := ymi
def jL (k0 : yzH → Option R) (k1 : List y7 → Option R) (again : KR → Option R) (t2 : KR) : Option R :=
 bif (decide (t2.2 < (List.length t2.1 : Int))) then if (0 : Int) ≤ t2.2 then if t2.2 < (List.length t2.1 : Int) then Option.bind (yu ((yl t2.1 t2.2).1, (0 : Int), (999 : Int))) fun r1 => Option.bind (bif (!r1) then some true else if (0 : Int) ≤ t2.2 then if t2.2 < (List.length t2.1 : Int) then Option.bind (zj ((yl t2.1 t2.2).2.2)) fun r3 => some (!r3) else none else none) fun u2 => Option.bind (bif u2 then some true else if (0 : Int) ≤ t2.2 then if t2.2 < (List.length t2.1 : Int) then Option.bind (bif (!((yl t2.1 t2.2).2.1)) then if (0 : Int) ≤ t2.2 then if t2.2 < (List.length t2.1 : Int) then some ((yl t2.1 t2.2).2.2 != (0 : Int)) else none else none else some false) fun u5 => some u5 else none else none) fun u4 => bif u4 then k0 (t2.1, false) else again (t2.1, (Go.IntKind.wrap .i64 (t2.2 + (1 : Int)))) else none else none else k1 t2.1
def Qe k0 k1 := zI (@jL R k0 k1) Y0
def ZB (x : List y7) : Option Bool :=
 Qe (fun x6 => some x6.2) (fun x7 => some ((List.length x7 : Int) == (24 : Int))) (x, (0 : Int))
def ykV : List QF := [q96, yuj]
def y7m (t : ymi) : St := ⟨yW t.1 :: dd 2 (vI t.2 :: dd 41 []), []⟩
def yis : Gk KR := fun κ => jL (fun t => κ none ⟨yW t.1 :: .dead :: vB t.2 :: dd 42 [], []⟩) (fun t => κ (some 0) ⟨yW t :: dd 44 [], []⟩)
def ykW : Lp := lpC 2 (unG ymj y7m) @yis lpN
theorem ysx : LF ykV ykW 214 2 Tryz.f214 0 y7m @yis fun t => t := fun R κ again t => by kernel_rfl
theorem ysy : LK ykV ykW 214 Tryz.f214 0 := lkN (u := (unG ymj y7m)) (yr fun t => by kernel_rfl) ysx
theorem yxx : EV ykV ykW 214 Tryz.f214 ypE [(.sl 113 yg)] [.bool] ZB := fun x => by kernel_rfl
def yxy : QF := ⟨214, ZB, okN (n := 1) Tryz.func214 ⟨ysy, trivial⟩ yxx⟩
abbrev V0 : Type := yu3
def V1 (k0 : yzI → Option R) (k1 : ByteArray → Option R) (again : V0 → Option R) (t2 : V0) : Option R :=
 bif (decide (t2.2 < ((ByteArray.size t2.1 : Nat) : Int))) then if (0 : Int) ≤ t2.2 then if h1 : Int.toNat t2.2 < ByteArray.size t2.1 then Option.bind (yu ((Go.IntKind.wrap .i64 ((UInt8.toNat (ByteArray.get t2.1 (Int.toNat t2.2) h1) : Nat) : Int)), (97 : Int), (122 : Int))) fun r2 => Option.bind (bif (!r2) then if (0 : Int) ≤ t2.2 then if h4 : Int.toNat t2.2 < ByteArray.size t2.1 then Option.bind (yu ((Go.IntKind.wrap .i64 ((UInt8.toNat (ByteArray.get t2.1 (Int.toNat t2.2) h4) : Nat) : Int)), (48 : Int), (57 : Int))) fun r5 => some (!r5) else none else none else some false) fun u3 => bif u3 then k0 (t2.1, false) else again (t2.1, (Go.IntKind.wrap .i64 (t2.2 + (1 : Int)))) else none else none else k1 t2.1
def QX k0 k1 := zI (@V1 R k0 k1) Y0
def Ym (x : ByteArray) : Option Bool :=
 QX (fun x6 => some x6.2) (fun x7 => Option.bind (yu (((ByteArray.size x7 : Nat) : Int), (1 : Int), (6 : Int))) fun r8 => some r8) (x, (0 : Int))
def ykX : List QF := [q96]
def y7n (t : yu3) : St := ⟨vS t.1 :: dd 2 (vI t.2 :: dd 23 []), []⟩
def yit : Gk V0 := fun κ => V1 (fun t => κ none ⟨vS t.1 :: .dead :: vB t.2 :: dd 24 [], []⟩) (fun t => κ (some 0) ⟨vS t :: dd 26 [], []⟩)
def ykY : Lp := lpC 2 (unG yu4 y7n) @yit lpN
theorem ysz : LF ykX ykY 178 2 Tryz.f178 0 y7n @yit fun t => t := fun R κ again t => by kernel_rfl
theorem ysA : LK ykX ykY 178 Tryz.f178 0 := lkN (u := (unG yu4 y7n)) (yr fun t => by kernel_rfl) ysz
theorem yxz : EV ykX ykY 178 Tryz.f178 ypF [.str] [.bool] Ym := fun x => by kernel_rfl
def yuk : QF := ⟨178, Ym, okN (n := 1) Tryz.func178 ⟨ysA, trivial⟩ yxz⟩
abbrev V2 : Type := yn9
def JH (k0 : List yd → Option R) (again : V2 → Option R) (t3 : V2) : Option R :=
 bif (decide (t3.2.2.1 < (List.length t3.1 : Int))) then if (0 : Int) ≤ t3.2.2.1 then if t3.2.2.1 < (List.length t3.1 : Int) then Option.bind (bif ((yD t3.1 t3.2.2.1).2 == t3.2.1) then some (t3.2.1 != (0 : Int)) else some false) fun u1 => bif u1 then if (0 : Int) ≤ t3.2.2.1 then if t3.2.2.1 < (List.length t3.1 : Int) then if (List.length t3.2.2.2 + List.length ([(yD t3.1 t3.2.2.1).1] : List yd)) * 8 < 140737488355328 then again (t3.1, t3.2.1, (Go.IntKind.wrap .i64 (t3.2.2.1 + (1 : Int))), (t3.2.2.2 ++ ([(yD t3.1 t3.2.2.1).1] : List yd))) else none else none else none else again (t3.1, t3.2.1, (Go.IntKind.wrap .i64 (t3.2.2.1 + (1 : Int))), t3.2.2.2) else none else none else k0 t3.2.2.2
def QY k0 := zI (@JH R k0) Y0
def ju (x : yeX) : Option (List yd) :=
 QY (fun x2 => some x2) (x.1, x.2, (0 : Int), ([] : List yd))
def ykZ : List QF := []
def y7o (t : yn9) : St := ⟨zm t.1 :: vI t.2.1 :: dd 3 (.own 10000000 :: vI t.2.2.1 :: dd 27 []), [(10000000, .root true 3 yh t.2.2.2)]⟩
def yiu : Gk V2 := fun κ => JH (fun t => κ (some 0) ⟨dd 5 (.own 10000000 :: dd 28 []), [(10000000, .root true 3 yh t)]⟩)
def yl0 : Lp := lpC 3 (unG yna y7o) @yiu lpN
theorem ysB : LF ykZ yl0 260 3 Tryz.f260 0 y7o @yiu fun t => t := fun R κ again t => by kernel_rfl
theorem ysC : LK ykZ yl0 260 Tryz.f260 0 := lkN (u := (unG yna y7o)) (yr fun t => by kernel_rfl) ysB
theorem yxA : EV ykZ yl0 260 Tryz.f260 ypG yeY [(.sl 3 yh)] ju := fun x => by kernel_rfl
def yxB : QF := ⟨260, ju, okN (n := 1) Tryz.func260 ⟨ysC, trivial⟩ yxA⟩
abbrev KS : Type := ynb
def jM (k0 : yuH → Option R) (k1 : yeZ → Option R) (again : KS → Option R) (t8 : KS) : Option R :=
 bif (decide (t8.2.1 < t8.1)) then if (0 : Int) ≤ t8.2.1 then if t8.2.1 < (List.length t8.2.2.2.2.2.2.1 : Int) then bif ((y8 t8.2.2.2.2.2.2.1 t8.2.1).2.1 == t8.2.2.2.2.2.2.2.2.2.1) then k0 (false, t8.1, t8.2.2.1, t8.2.2.2.1, t8.2.2.2.2.1, t8.2.2.2.2.2.1, t8.2.2.2.2.2.2.1, t8.2.2.2.2.2.2.2.1) else again (t8.1, (Go.IntKind.wrap .i64 (t8.2.1 + (1 : Int))), t8.2.2.1, t8.2.2.2.1, t8.2.2.2.2.1, t8.2.2.2.2.2.1, t8.2.2.2.2.2.2.1, t8.2.2.2.2.2.2.2.1, t8.2.2.2.2.2.2.2.2.1, t8.2.2.2.2.2.2.2.2.2.1, t8.2.2.2.2.2.2.2.2.2.2.1, t8.2.2.2.2.2.2.2.2.2.2.2) else none else none else k1 (t8.1, t8.2.2.1, t8.2.2.2.1, t8.2.2.2.2.1, t8.2.2.2.2.2.1, t8.2.2.2.2.2.2.1, t8.2.2.2.2.2.2.2.1)
def KT k0 k1 := zI (@jM R k0 k1) Y0
abbrev KU : Type := yeZ
def jN (k0 : yfI → Option R) (k1 : y6q → Option R) (again : KU → Option R) (t2 : KU) : Option R :=
 bif (decide (t2.1 < (List.length t2.2.2.2.2.2.1 : Int))) then if (0 : Int) ≤ t2.1 then if t2.1 < (List.length t2.2.2.2.2.2.1 : Int) then Option.bind (Ym ((y8 t2.2.2.2.2.2.1 t2.1).1)) fun r1 => Option.bind (bif (!r1) then some true else Option.bind (yu ((y8 t2.2.2.2.2.2.1 t2.1).2.2.1, (1 : Int), (12 : Int))) fun r3 => some (!r3)) fun u2 => Option.bind (bif u2 then some true else Option.bind (zy (t2.2.2.2.1, (y8 t2.2.2.2.2.2.1 t2.1).2.1)) fun r5 => some (decide (r5 < (0 : Int)))) fun u4 => Option.bind (bif u4 then some true else Option.bind (ju (t2.2.2.2.1, (y8 t2.2.2.2.2.2.1 t2.1).2.1)) fun r7 => some (decide ((List.length r7 : Int) > (0 : Int)))) fun u6 => Option.bind (bif u6 then some true else Option.bind (bif (decide (t2.1 > (0 : Int))) then if (0 : Int) ≤ (Go.IntKind.wrap .i64 (t2.1 - (1 : Int))) then if (Go.IntKind.wrap .i64 (t2.1 - (1 : Int))) < (List.length t2.2.2.2.2.2.1 : Int) then some (!Go.Op.bytesLess (ByteArray.toList ((y8 t2.2.2.2.2.2.1 (Go.IntKind.wrap .i64 (t2.1 - (1 : Int)))).1)) (ByteArray.toList ((y8 t2.2.2.2.2.2.1 t2.1).1))) else none else none else some false) fun u9 => some u9) fun u8 => bif u8 then k0 (false, t2.2) else KT (fun x10 => k0 (x10.1, x10.2.2)) (fun x11 => again ((Go.IntKind.wrap .i64 (x11.1 + (1 : Int))), x11.2.1, x11.2.2.1, x11.2.2.2.1, x11.2.2.2.2.1, x11.2.2.2.2.2.1, x11.2.2.2.2.2.2)) (t2.1, (0 : Int), t2.2.1, t2.2.2.1, t2.2.2.2.1, t2.2.2.2.2.1, t2.2.2.2.2.2.1, t2.2.2.2.2.2.2, (y8 t2.2.2.2.2.2.1 t2.1).1, (y8 t2.2.2.2.2.2.1 t2.1).2.1, (y8 t2.2.2.2.2.2.1 t2.1).2.2.1, (y8 t2.2.2.2.2.2.1 t2.1).2.2.2) else none else none else k1 t2.2
def Qg k0 k1 := zI (@jN R k0 k1) Y0
def wG (x : y6q) : Option Bool :=
 Qg (fun x12 => some x12.1) (fun x13 => some (decide ((List.length x13.2.2.2.2.1 : Int) ≤ (6 : Int)))) ((0 : Int), x.1, x.2.1, x.2.2.1, x.2.2.2.1, x.2.2.2.2.1, x.2.2.2.2.2)
def yeh : List QF := [q96, yuk, yxB, yml]
def y7p (t : ynb) : St := ⟨.dead :: .box 1 0 :: .dead :: vI t.1 :: .box 4 0 :: vI t.2.1 :: dd 73 [], [(1, .box [zg t.2.2.1, yI t.2.2.2.1, zm t.2.2.2.2.1, yW t.2.2.2.2.2.1, Yu t.2.2.2.2.2.2.1, vI t.2.2.2.2.2.2.2.1]), (4, .box [vS t.2.2.2.2.2.2.2.2.1, vI t.2.2.2.2.2.2.2.2.2.1, vI t.2.2.2.2.2.2.2.2.2.2.1, vB t.2.2.2.2.2.2.2.2.2.2.2])]⟩
def yiv : Gk KS := fun κ => jM (fun t => κ none ⟨.dead :: .box 1 0 :: vB t.1 :: vI t.2.1 :: dd 75 [], [(1, .box [zg t.2.2.1, yI t.2.2.2.1, zm t.2.2.2.2.1, yW t.2.2.2.2.2.1, Yu t.2.2.2.2.2.2.1, vI t.2.2.2.2.2.2.2])]⟩) (fun t => κ (some 2) ⟨.dead :: .box 1 0 :: .dead :: vI t.1 :: dd 75 [], [(1, .box [zg t.2.1, yI t.2.2.1, zm t.2.2.2.1, yW t.2.2.2.2.1, Yu t.2.2.2.2.2.1, vI t.2.2.2.2.2.2])]⟩)
def y7q (t : yeZ) : St := ⟨.dead :: .box 1 0 :: .dead :: vI t.1 :: dd 75 [], [(1, .box [zg t.2.1, yI t.2.2.1, zm t.2.2.2.1, yW t.2.2.2.2.1, Yu t.2.2.2.2.2.1, vI t.2.2.2.2.2.2])]⟩
def yiw : Gk KU := fun κ => jN (fun t => κ none ⟨.dead :: .box 1 0 :: vB t.1 :: dd 76 [], [(1, .box [zg t.2.1, yI t.2.2.1, zm t.2.2.2.1, yW t.2.2.2.2.1, Yu t.2.2.2.2.2.1, vI t.2.2.2.2.2.2])]⟩) (fun t => κ (some 0) ⟨.dead :: .box 1 0 :: dd 77 [], [(1, .box [zg t.1, yI t.2.1, zm t.2.2.1, yW t.2.2.2.1, Yu t.2.2.2.2.1, vI t.2.2.2.2.2])]⟩)
def yei : Lp := lpC 2 (unG ymh y7q) @yiw (lpC 8 (unG ync y7p) @yiv lpN)
theorem ysD : LF yeh yei 215 8 Tryz.f215 1 y7p @yiv fun t => t := fun R κ again t => by kernel_rfl
theorem ysE : LK yeh yei 215 Tryz.f215 1 := lkN (u := (unG ync y7p)) (yr fun t => by kernel_rfl) ysD
theorem ysF : LF yeh yei 215 2 Tryz.f215 0 y7q @yiw fun t => t := fun R κ again t => by kernel_rfl
theorem ysG : LK yeh yei 215 Tryz.f215 0 := lkN (u := (unG ymh y7q)) (yr fun t => by kernel_rfl) ysF
theorem yxC : EV yeh yei 215 Tryz.f215 ypH YK [.bool] wG := fun x => by kernel_rfl
def yDd : QF := ⟨215, wG, okN (n := 2) Tryz.func215 ⟨ysG, ysE, trivial⟩ yxC⟩
abbrev WK : Type := ymf
def Zp (k0 : Int → Option R) (again : WK → Option R) (t3 : WK) : Option R :=
 bif (decide (t3.2.2 < (List.length t3.1 : Int))) then if (0 : Int) ≤ t3.2.2 then if t3.2.2 < (List.length t3.1 : Int) then bif (yl t3.1 t3.2.2).2.1 then again (t3.1, (Go.IntKind.wrap .i64 (t3.2.1 + (1 : Int))), (Go.IntKind.wrap .i64 (t3.2.2 + (1 : Int)))) else again (t3.1, t3.2.1, (Go.IntKind.wrap .i64 (t3.2.2 + (1 : Int)))) else none else none else k0 t3.2.1
def VC k0 := zI (@Zp R k0) Y0
def jO (x : List y7) : Option Int :=
 VC (fun x1 => some x1) (x, (0 : Int), (0 : Int))
def yl1 : List QF := []
def y7r (t : ymf) : St := ⟨yW t.1 :: dd 2 (vI t.2.1 :: vI t.2.2 :: dd 14 []), []⟩
def yix : Gk WK := fun κ => Zp (fun t => κ (some 0) ⟨dd 3 (vI t :: dd 15 []), []⟩)
def yl2 : Lp := lpC 3 (unG ymg y7r) @yix lpN
theorem ysH : LF yl1 yl2 147 3 Tryz.f147 0 y7r @yix fun t => t := fun R κ again t => by kernel_rfl
theorem ysI : LK yl1 yl2 147 Tryz.f147 0 := lkN (u := (unG ymg y7r)) (yr fun t => by kernel_rfl) ysH
theorem yxD : EV yl1 yl2 147 Tryz.f147 ypI [(.sl 113 yg)] [(.int .i64)] jO := fun x => by kernel_rfl
def yDe : QF := ⟨147, jO, okN (n := 1) Tryz.func147 ⟨ysI, trivial⟩ yxD⟩
def jv (x : ymf) : Option yzW :=
 Option.bind (yu (x.2.1, (0 : Int), (Go.IntKind.wrap .i64 ((List.length x.1 : Int) - (1 : Int))))) fun r1 => Option.bind (bif (!r1) then some true else if (0 : Int) ≤ x.2.1 then if x.2.1 < (List.length x.1 : Int) then some (!((yl x.1 x.2.1).2.1)) else none else none) fun u2 => Option.bind (bif u2 then some true else if (0 : Int) ≤ x.2.1 then if x.2.1 < (List.length x.1 : Int) then some ((yl x.1 x.2.1).1 != x.2.2) else none else none) fun u3 => bif u3 then some ((0 : Int), false) else if (0 : Int) ≤ x.2.1 then if x.2.1 < (List.length x.1 : Int) then some ((yl x.1 x.2.1).2.2, true) else none else none
theorem yxE : EV [q96] lpN 285 Tryz.f285 ypJ ymg yzX jv := fun x => by kernel_rfl
def yBG : QF := ⟨285, jv, okN (n := 0) Tryz.func285 trivial yxE⟩
abbrev K8 : Type := yjp
def j6 (k0 : yv0 → Option R) (k1 : yao → Option R) (again : K8 → Option R) (t14 : K8) : Option R :=
 bif (decide (t14.2.2.1 < t14.2.1)) then if (0 : Int) ≤ t14.2.2.1 then if t14.2.2.1 < (List.length t14.2.2.2.2.2.2.2.2.2 : Int) then Option.bind (bif ((y6 t14.2.2.2.2.2.2.2.2.2 t14.2.2.1).2.2.1 == (1 : Int)) then if (0 : Int) ≤ t14.2.2.1 then if t14.2.2.1 < (List.length t14.2.2.2.2.2.2.2.2.2 : Int) then if (0 : Int) ≤ t14.2.1 then if t14.2.1 < (List.length t14.2.2.2.2.2.2.2.2.2 : Int) then some ((y6 t14.2.2.2.2.2.2.2.2.2 t14.2.2.1).2.2.2.1 == (y6 t14.2.2.2.2.2.2.2.2.2 t14.2.1).2.2.2.1) else none else none else none else none else some false) fun u4 => bif u4 then k0 (false, t14.1, t14.2.1, t14.2.2.2) else again (t14.1, t14.2.1, (Go.IntKind.wrap .i64 (t14.2.2.1 + (1 : Int))), t14.2.2.2.1, t14.2.2.2.2.1, t14.2.2.2.2.2.1, t14.2.2.2.2.2.2.1, t14.2.2.2.2.2.2.2.1, t14.2.2.2.2.2.2.2.2.1, t14.2.2.2.2.2.2.2.2.2) else none else none else k1 (t14.1, t14.2.1, t14.2.2.2)
def K9 k0 k1 := zI (@j6 R k0 k1) Y0
abbrev KV : Type := yao
def jP (k0 : yuH → Option R) (k1 : yeZ → Option R) (again : KV → Option R) (t4 : KV) : Option R :=
 bif (decide (t4.2.1 < (List.length t4.2.2.2.2.2.2.2.2 : Int))) then if (0 : Int) ≤ t4.2.1 then if t4.2.1 < (List.length t4.2.2.2.2.2.2.2.2 : Int) then Option.bind (zy (t4.2.2.2.2.1, (y6 t4.2.2.2.2.2.2.2.2 t4.2.1).2.1)) fun r2 => bif (decide (r2 < (0 : Int))) then k0 (false, t4.1, t4.2.2.1, t4.2.2.2.1, t4.2.2.2.2.1, t4.2.2.2.2.2.1, t4.2.2.2.2.2.2.1, t4.2.2.2.2.2.2.2.1) else if (0 : Int) ≤ t4.2.1 then if t4.2.1 < (List.length t4.2.2.2.2.2.2.2.2 : Int) then bif ((y6 t4.2.2.2.2.2.2.2.2 t4.2.1).2.2.1 != (1 : Int)) then again (t4.1, (Go.IntKind.wrap .i64 (t4.2.1 + (1 : Int))), t4.2.2.1, t4.2.2.2.1, t4.2.2.2.2.1, t4.2.2.2.2.2.1, t4.2.2.2.2.2.2.1, t4.2.2.2.2.2.2.2.1, t4.2.2.2.2.2.2.2.2) else if (0 : Int) ≤ t4.2.1 then if t4.2.1 < (List.length t4.2.2.2.2.2.2.2.2 : Int) then if (0 : Int) ≤ t4.2.1 then if t4.2.1 < (List.length t4.2.2.2.2.2.2.2.2 : Int) then Option.bind (jv (t4.2.2.2.2.2.1, (y6 t4.2.2.2.2.2.2.2.2 t4.2.1).2.2.2.1, (y6 t4.2.2.2.2.2.2.2.2 t4.2.1).2.2.2.2)) fun r3 => bif (!r3.2) then k0 (false, (Go.IntKind.wrap .i64 (t4.1 + (1 : Int))), t4.2.2.1, t4.2.2.2.1, t4.2.2.2.2.1, t4.2.2.2.2.2.1, t4.2.2.2.2.2.2.1, t4.2.2.2.2.2.2.2.1) else K9 (fun x5 => k0 (x5.1, x5.2.1, x5.2.2.2.1, x5.2.2.2.2.1, x5.2.2.2.2.2.1, x5.2.2.2.2.2.2.1, x5.2.2.2.2.2.2.2.1, x5.2.2.2.2.2.2.2.2.1)) (fun x6 => again (x6.1, (Go.IntKind.wrap .i64 (x6.2.1 + (1 : Int))), x6.2.2.1, x6.2.2.2.1, x6.2.2.2.2.1, x6.2.2.2.2.2.1, x6.2.2.2.2.2.2.1, x6.2.2.2.2.2.2.2.1, x6.2.2.2.2.2.2.2.2)) ((Go.IntKind.wrap .i64 (t4.1 + (1 : Int))), t4.2.1, (0 : Int), t4.2.2.1, t4.2.2.2.1, t4.2.2.2.2.1, t4.2.2.2.2.2.1, t4.2.2.2.2.2.2.1, t4.2.2.2.2.2.2.2.1, t4.2.2.2.2.2.2.2.2) else none else none else none else none else none else none else none else none else k1 (t4.1, t4.2.2.1, t4.2.2.2.1, t4.2.2.2.2.1, t4.2.2.2.2.2.1, t4.2.2.2.2.2.2.1, t4.2.2.2.2.2.2.2.1)
def Qh k0 k1 := zI (@jP R k0 k1) Y0
def wH (x : y6q) : Option Bool :=
 Option.bind (yL (x.1, x.2.1)) fun r1 => Qh (fun x7 => some x7.1) (fun x8 => Option.bind (jO x8.2.2.2.2.1) fun r9 => some (x8.1 == r9)) ((0 : Int), (0 : Int), x.1, x.2.1, x.2.2.1, x.2.2.2.1, x.2.2.2.2.1, x.2.2.2.2.2, r1)
def yej : List QF := [ykG, yDe, yml, yBG]
def y4h (t : yjp) : St := ⟨.dead :: .box 1 0 :: .dead :: .own 10000000 :: vI t.1 :: vI t.2.1 :: dd 2 (vI t.2.2.1 :: dd 73 []), [(1, .box [zg t.2.2.2.1, yI t.2.2.2.2.1, zm t.2.2.2.2.2.1, yW t.2.2.2.2.2.2.1, Yu t.2.2.2.2.2.2.2.1, vI t.2.2.2.2.2.2.2.2.1]), (10000000, .root true 64 yi t.2.2.2.2.2.2.2.2.2)]⟩
def yek : Gk K8 := fun κ => j6 (fun t => κ none ⟨.dead :: .box 1 0 :: vB t.1 :: .own 10000000 :: vI t.2.1 :: vI t.2.2.1 :: dd 76 [], [(1, .box [zg t.2.2.2.1, yI t.2.2.2.2.1, zm t.2.2.2.2.2.1, yW t.2.2.2.2.2.2.1, Yu t.2.2.2.2.2.2.2.1, vI t.2.2.2.2.2.2.2.2.1]), (10000000, .root true 64 yi t.2.2.2.2.2.2.2.2.2)]⟩) (fun t => κ (some 2) ⟨.dead :: .box 1 0 :: .dead :: .own 10000000 :: vI t.1 :: vI t.2.1 :: dd 76 [], [(1, .box [zg t.2.2.1, yI t.2.2.2.1, zm t.2.2.2.2.1, yW t.2.2.2.2.2.1, Yu t.2.2.2.2.2.2.1, vI t.2.2.2.2.2.2.2.1]), (10000000, .root true 64 yi t.2.2.2.2.2.2.2.2)]⟩)
def y7s (t : yao) : St := ⟨.dead :: .box 1 0 :: .dead :: .own 10000000 :: vI t.1 :: vI t.2.1 :: dd 76 [], [(1, .box [zg t.2.2.1, yI t.2.2.2.1, zm t.2.2.2.2.1, yW t.2.2.2.2.2.1, Yu t.2.2.2.2.2.2.1, vI t.2.2.2.2.2.2.2.1]), (10000000, .root true 64 yi t.2.2.2.2.2.2.2.2)]⟩
def yiy : Gk KV := fun κ => jP (fun t => κ none ⟨.dead :: .box 1 0 :: vB t.1 :: .dead :: vI t.2.1 :: dd 77 [], [(1, .box [zg t.2.2.1, yI t.2.2.2.1, zm t.2.2.2.2.1, yW t.2.2.2.2.2.1, Yu t.2.2.2.2.2.2.1, vI t.2.2.2.2.2.2.2])]⟩) (fun t => κ (some 0) ⟨.dead :: .box 1 0 :: dd 2 (vI t.1 :: dd 77 []), [(1, .box [zg t.2.1, yI t.2.2.1, zm t.2.2.2.1, yW t.2.2.2.2.1, Yu t.2.2.2.2.2.1, vI t.2.2.2.2.2.2])]⟩)
def yel : Lp := lpC 4 (unG ycK y7s) @yiy (lpC 14 (unG ynd y4h) @yek lpN)
theorem yl3 : LF yej yel 216 14 Tryz.f216 1 y4h @yek fun t => t := fun R κ again t => by kernel_rfl
theorem yl4 : LK yej yel 216 Tryz.f216 1 := lkN (u := (unG ynd y4h)) (yr fun t => by kernel_rfl) yl3
theorem ysJ : LF yej yel 216 4 Tryz.f216 0 y7s @yiy fun t => t := fun R κ again t => by kernel_rfl
theorem ysK : LK yej yel 216 Tryz.f216 0 := lkN (u := (unG ycK y7s)) (yr fun t => by kernel_rfl) ysJ
theorem yxF : EV yej yel 216 Tryz.f216 ypK YK [.bool] wH := fun x => by kernel_rfl
def yDf : QF := ⟨216, wH, okN (n := 2) Tryz.func216 ⟨ysK, yl4, trivial⟩ yxF⟩
abbrev V3 : Type := yeZ
def JI (k0 : yfI → Option R) (k1 : y6q → Option R) (again : V3 → Option R) (t2 : V3) : Option R :=
 bif (decide (t2.1 < (List.length t2.2.2.2.1 : Int))) then if (0 : Int) ≤ t2.1 then if t2.1 < (List.length t2.2.2.2.1 : Int) then bif (decide ((yD t2.2.2.2.1 t2.1).1 ≥ t2.2.2.2.2.2.2)) then k0 (false, t2.2) else again ((Go.IntKind.wrap .i64 (t2.1 + (1 : Int))), t2.2.1, t2.2.2.1, t2.2.2.2.1, t2.2.2.2.2.1, t2.2.2.2.2.2.1, t2.2.2.2.2.2.2) else none else none else k1 t2.2
def QZ k0 k1 := zI (@JI R k0 k1) Y0
def yJ (x : y6q) : Option Bool :=
 QZ (fun x1 => some x1.1) (fun x2 => Option.bind (Yl (x2.1, x2.2.1)) fun r3 => Option.bind (bif r3 then Option.bind (YN x2.2.2.1) fun r5 => some r5 else some false) fun u4 => Option.bind (bif u4 then Option.bind (ZB x2.2.2.2.1) fun r7 => some r7 else some false) fun u6 => Option.bind (bif u6 then Option.bind (yu (x2.2.2.2.2.2, (1 : Int), (61 : Int))) fun r9 => some r9 else some false) fun u8 => Option.bind (bif u8 then Option.bind (wG x2) fun r11 => some r11 else some false) fun u10 => Option.bind (bif u10 then Option.bind (wH x2) fun r13 => some r13 else some false) fun u12 => some u12) ((0 : Int), x.1, x.2.1, x.2.2.1, x.2.2.2.1, x.2.2.2.2.1, x.2.2.2.2.2)
def yxG : List QF := [q96, yBF, yxv, yxy, yDd, yDf]
def yax (t : yeZ) : St := ⟨.dead :: .box 1 0 :: .dead :: vI t.1 :: dd 42 [], [(1, .box [zg t.2.1, yI t.2.2.1, zm t.2.2.2.1, yW t.2.2.2.2.1, Yu t.2.2.2.2.2.1, vI t.2.2.2.2.2.2])]⟩
def ysL : Gk V3 := fun κ => JI (fun t => κ none ⟨.dead :: .box 1 0 :: vB t.1 :: dd 43 [], [(1, .box [zg t.2.1, yI t.2.2.1, zm t.2.2.2.1, yW t.2.2.2.2.1, Yu t.2.2.2.2.2.1, vI t.2.2.2.2.2.2])]⟩) (fun t => κ (some 0) ⟨.dead :: .box 1 0 :: dd 44 [], [(1, .box [zg t.1, yI t.2.1, zm t.2.2.1, yW t.2.2.2.1, Yu t.2.2.2.2.1, vI t.2.2.2.2.2])]⟩)
def yxH : Lp := lpC 2 (unG ymh yax) @ysL lpN
theorem yxI : LF yxG yxH 95 2 Tryz.f95 0 yax @ysL fun t => t := fun R κ again t => by kernel_rfl
theorem yxJ : LK yxG yxH 95 Tryz.f95 0 := lkN (u := (unG ymh yax)) (yr fun t => by kernel_rfl) yxI
theorem yDg : EV yxG yxH 95 Tryz.f95 yAM YK [.bool] yJ := fun x => by kernel_rfl
def q95 : QF := ⟨95, yJ, okN (n := 1) Tryz.func95 ⟨yxJ, trivial⟩ yDg⟩
def ZC (x : yjk) : Option Int :=
 Option.bind (yJ (x.1, x.2.1, x.2.2.1, x.2.2.2.1, x.2.2.2.2.1, x.2.2.2.2.2.1)) fun r1 => Option.bind (bif (!r1) then some true else Option.bind (Ym x.2.2.2.2.2.2) fun r3 => some (!r3)) fun u2 => bif u2 then some (1 : Int) else some (0 : Int)
theorem yxK : EV [q95, yuk] lpN 173 Tryz.f173 ypL yjl [(.int .i64)] ZC := fun x => by kernel_rfl
def yxL : QF := ⟨173, ZC, okN (n := 0) Tryz.func173 trivial yxK⟩
abbrev VN : Type := yne
def wI (k0 : Int → Option R) (k1 : Unit → Option R) (again : VN → Option R) (t2 : VN) : Option R :=
 bif (decide (t2.2.1 < (List.length t2.2.2.2.2.2.2.1 : Int))) then if (0 : Int) ≤ t2.2.1 then if t2.2.1 < (List.length t2.2.2.2.2.2.2.1 : Int) then bif ((ByteArray.toList ((y8 t2.2.2.2.2.2.2.1 t2.2.1).1)) == (ByteArray.toList t2.1)) then k0 t2.2.1 else again (t2.1, (Go.IntKind.wrap .i64 (t2.2.1 + (1 : Int))), t2.2.2.1, t2.2.2.2.1, t2.2.2.2.2.1, t2.2.2.2.2.2.1, t2.2.2.2.2.2.2.1, t2.2.2.2.2.2.2.2) else none else none else k1 ()
def y0V k0 k1 := zI (@wI R k0 k1) Y0
def za (x : yjk) : Option Int :=
 y0V (fun x1 => some x1) (fun x2 => some (-1 : Int)) (x.2.2.2.2.2.2, (0 : Int), x.1, x.2.1, x.2.2.1, x.2.2.2.1, x.2.2.2.2.1, x.2.2.2.2.2.1)
def yl5 : List QF := []
def y7t (t : yne) : St := ⟨.dead :: vS t.1 :: .box 2 0 :: dd 2 (vI t.2.1 :: dd 16 []), [(2, .box [zg t.2.2.1, yI t.2.2.2.1, zm t.2.2.2.2.1, yW t.2.2.2.2.2.1, Yu t.2.2.2.2.2.2.1, vI t.2.2.2.2.2.2.2])]⟩
def yiz : Gk VN := fun κ => wI (fun t => κ none ⟨dd 4 (vI t :: dd 17 []), []⟩) (fun t => κ (some 0) ⟨dd 22 [], []⟩)
def yl6 : Lp := lpC 2 (unG ynf y7t) @yiz lpN
theorem ysM : LF yl5 yl6 174 2 Tryz.f174 0 y7t @yiz fun t => t := fun R κ again t => by kernel_rfl
theorem ysN : LK yl5 yl6 174 Tryz.f174 0 := lkN (u := (unG ynf y7t)) (yr fun t => by kernel_rfl) ysM
theorem yxM : EV yl5 yl6 174 Tryz.f174 ypM yjl [(.int .i64)] za := fun x => by kernel_rfl
def ygr : QF := ⟨174, za, okN (n := 1) Tryz.func174 ⟨ysN, trivial⟩ yxM⟩
abbrev JJ : Type := yng
def j7 (k0 : yv1 → Option R) (again : JJ → Option R) (t4 : JJ) : Option R :=
 bif (decide (t4.2.2.2.2.1 < (List.length t4.1 : Int))) then Option.bind (bif (!t4.2.2.2.1) then if (0 : Int) ≤ t4.2.2.2.2.1 then if t4.2.2.2.2.1 < (List.length t4.1 : Int) then some (decide ((yD t4.1 t4.2.2.2.2.1).1 > t4.2.1)) else none else none else some false) fun u2 => bif u2 then if (List.length t4.2.2.2.2.2 + List.length ([(t4.2.1, t4.2.2.1)] : List ya)) * 16 < 140737488355328 then if (0 : Int) ≤ t4.2.2.2.2.1 then if t4.2.2.2.2.1 < (List.length t4.1 : Int) then if (List.length (t4.2.2.2.2.2 ++ ([(t4.2.1, t4.2.2.1)] : List ya)) + List.length ([((yD t4.1 t4.2.2.2.2.1).1, (yD t4.1 t4.2.2.2.2.1).2)] : List ya)) * 16 < 140737488355328 then again (t4.1, t4.2.1, t4.2.2.1, true, (Go.IntKind.wrap .i64 (t4.2.2.2.2.1 + (1 : Int))), ((t4.2.2.2.2.2 ++ ([(t4.2.1, t4.2.2.1)] : List ya)) ++ ([((yD t4.1 t4.2.2.2.2.1).1, (yD t4.1 t4.2.2.2.2.1).2)] : List ya))) else none else none else none else none else if (0 : Int) ≤ t4.2.2.2.2.1 then if t4.2.2.2.2.1 < (List.length t4.1 : Int) then if (List.length t4.2.2.2.2.2 + List.length ([((yD t4.1 t4.2.2.2.2.1).1, (yD t4.1 t4.2.2.2.2.1).2)] : List ya)) * 16 < 140737488355328 then again (t4.1, t4.2.1, t4.2.2.1, t4.2.2.2.1, (Go.IntKind.wrap .i64 (t4.2.2.2.2.1 + (1 : Int))), (t4.2.2.2.2.2 ++ ([((yD t4.1 t4.2.2.2.2.1).1, (yD t4.1 t4.2.2.2.2.1).2)] : List ya))) else none else none else none else k0 (t4.1, t4.2.1, t4.2.2.1, t4.2.2.2.1, t4.2.2.2.2.2)
def V4 k0 := zI (@j7 R k0) Y0
def zD (x : yu8) : Option ymL :=
 Option.bind (zy (x.1, x.2.1)) fun r1 => V4 (fun x3 => bif (!x3.2.2.2.1) then if (List.length x3.2.2.2.2 + List.length ([(x3.2.1, x3.2.2.1)] : List ya)) * 16 < 140737488355328 then Option.bind (zy (x3.1, x3.2.1)) fun r4 => Option.bind (bif (decide (r4 ≥ (0 : Int))) then some true else Option.bind (YN (x3.2.2.2.2 ++ ([(x3.2.1, x3.2.2.1)] : List ya))) fun r6 => some (!r6)) fun u5 => bif u5 then if (List.length ([] : List ya) + List.length x3.1) * 16 < 140737488355328 then some ((([] : List ya) ++ x3.1), false) else none else some ((x3.2.2.2.2 ++ ([(x3.2.1, x3.2.2.1)] : List ya)), true) else none else Option.bind (zy (x3.1, x3.2.1)) fun r7 => Option.bind (bif (decide (r7 ≥ (0 : Int))) then some true else Option.bind (YN x3.2.2.2.2) fun r9 => some (!r9)) fun u8 => bif u8 then if (List.length ([] : List ya) + List.length x3.1) * 16 < 140737488355328 then some ((([] : List ya) ++ x3.1), false) else none else some (x3.2.2.2.2, true)) (x.1, x.2.1, x.2.2, (decide (r1 ≥ (0 : Int))), (0 : Int), ([] : List ya))
def yl7 : List QF := [yxv, yml]
def y7u (t : yng) : St := ⟨zm t.1 :: vI t.2.1 :: vI t.2.2.1 :: dd 5 (.own 10000000 :: vB t.2.2.2.1 :: vI t.2.2.2.2.1 :: dd 56 []), [(10000000, .root true 146 yk t.2.2.2.2.2)]⟩
def yiA : Gk JJ := fun κ => j7 (fun t => κ (some 0) ⟨zm t.1 :: vI t.2.1 :: vI t.2.2.1 :: dd 5 (.own 10000000 :: vB t.2.2.2.1 :: dd 57 []), [(10000000, .root true 146 yk t.2.2.2.2)]⟩)
def yl8 : Lp := lpC 4 (unG ynh y7u) @yiA lpN
theorem ysO : LF yl7 yl8 175 4 Tryz.f175 0 y7u @yiA fun t => t := fun R κ again t => by kernel_rfl
theorem ysP : LK yl7 yl8 175 Tryz.f175 0 := lkN (u := (unG ynh y7u)) (yr fun t => by kernel_rfl) ysO
theorem yxN : EV yl7 yl8 175 Tryz.f175 ypN yu9 yuG zD := fun x => by kernel_rfl
def yxO : QF := ⟨175, zD, okN (n := 1) Tryz.func175 ⟨ysP, trivial⟩ yxN⟩
abbrev Zq : Type := yjq
def Yw (k0 : yjq → Option R) (again : Zq → Option R) (t3 : Zq) : Option R :=
 Option.bind (bif (decide (t3.1 > (0 : Int))) then if (0 : Int) ≤ (Go.IntKind.wrap .i64 (t3.1 - (1 : Int))) then if (Go.IntKind.wrap .i64 (t3.1 - (1 : Int))) < (List.length t3.2.2.2.2.2 : Int) then some (!(Go.Op.bytesLess (ByteArray.toList ((y8 t3.2.2.2.2.2 (Go.IntKind.wrap .i64 (t3.1 - (1 : Int)))).1)) (ByteArray.toList t3.2.1) || (ByteArray.toList ((y8 t3.2.2.2.2.2 (Go.IntKind.wrap .i64 (t3.1 - (1 : Int)))).1)) == (ByteArray.toList t3.2.1))) else none else none else some false) fun u1 => bif u1 then if (0 : Int) ≤ (Go.IntKind.wrap .i64 (t3.1 - (1 : Int))) then if (Go.IntKind.wrap .i64 (t3.1 - (1 : Int))) < (List.length t3.2.2.2.2.2 : Int) then if (0 : Int) ≤ t3.1 then if t3.1 < (List.length t3.2.2.2.2.2 : Int) then again ((Go.IntKind.wrap .i64 (t3.1 - (1 : Int))), t3.2.1, t3.2.2.1, t3.2.2.2.1, t3.2.2.2.2.1, (List.set t3.2.2.2.2.2 (Int.toNat t3.1) ((y8 t3.2.2.2.2.2 (Go.IntKind.wrap .i64 (t3.1 - (1 : Int)))).1, (y8 t3.2.2.2.2.2 (Go.IntKind.wrap .i64 (t3.1 - (1 : Int)))).2.1, (y8 t3.2.2.2.2.2 (Go.IntKind.wrap .i64 (t3.1 - (1 : Int)))).2.2.1, (y8 t3.2.2.2.2.2 (Go.IntKind.wrap .i64 (t3.1 - (1 : Int)))).2.2.2))) else none else none else none else none else k0 t3
def WL k0 := zI (@Yw R k0) Y0
def Y8 (x : yu5) : Option (List ye) :=
 if (List.length ([] : List ye) + List.length x.1) * 40 < 140737488355328 then if (List.length (([] : List ye) ++ x.1) + List.length ([x.2] : List ye)) * 40 < 140737488355328 then WL (fun x2 => if (0 : Int) ≤ x2.1 then if x2.1 < (List.length x2.2.2.2.2.2 : Int) then some (List.set x2.2.2.2.2.2 (Int.toNat x2.1) (x2.2.1, x2.2.2.1, x2.2.2.2.1, x2.2.2.2.2.1)) else none else none) ((Go.IntKind.wrap .i64 (((List.length ((([] : List ye) ++ x.1) ++ ([x.2] : List ye)) : Nat) : Int) - (1 : Int))), x.2.1, x.2.2.1, x.2.2.2.1, x.2.2.2.2, ((([] : List ye) ++ x.1) ++ ([x.2] : List ye))) else none else none
def yl9 : List QF := []
def y7v (t : yjq) : St := ⟨dd 3 (.box 3 0 :: .dead :: .own 10000000 :: vI t.1 :: dd 37 []), [(3, .box [vS t.2.1, vI t.2.2.1, vI t.2.2.2.1, vB t.2.2.2.2.1]), (10000000, .root true 46 yE t.2.2.2.2.2)]⟩
def yiB : Gk Zq := fun κ => Yw (fun t => κ (some 0) ⟨dd 3 (.box 3 0 :: .dead :: .own 10000000 :: vI t.1 :: dd 37 []), [(3, .box [vS t.2.1, vI t.2.2.1, vI t.2.2.2.1, vB t.2.2.2.2.1]), (10000000, .root true 46 yE t.2.2.2.2.2)]⟩)
def yla : Lp := lpC 3 (unG yni y7v) @yiB lpN
theorem ysQ : LF yl9 yla 176 3 Tryz.f176 0 y7v @yiB fun t => t := fun R κ again t => by kernel_rfl
theorem ysR : LK yl9 yla 176 Tryz.f176 0 := lkN (u := (unG yni y7v)) (yr fun t => by kernel_rfl) ysQ
theorem yxP : EV yl9 yla 176 Tryz.f176 ypO yu6 [(.sl 46 yE)] Y8 := fun x => by kernel_rfl
def yBH : QF := ⟨176, Y8, okN (n := 1) Tryz.func176 ⟨ysR, trivial⟩ yxP⟩
def yG (x : yAa) : Option y4Y :=
 Option.bind (bif (!x.2.2.2.2.2.2.2.2.2.2.2.2) then some true else Option.bind (yJ (x.2.2.2.2.2.2.1, x.2.2.2.2.2.2.2.1, x.2.2.2.2.2.2.2.2.1, x.2.2.2.2.2.2.2.2.2.1, x.2.2.2.2.2.2.2.2.2.2.1, x.2.2.2.2.2.2.2.2.2.2.2.1)) fun r2 => some (!r2)) fun u1 => bif u1 then Option.bind (yp (x.1, x.2.1, x.2.2.1, x.2.2.2.1, x.2.2.2.2.1, x.2.2.2.2.2.1)) fun r3 => some (r3.1, r3.2.1, r3.2.2.1, r3.2.2.2.1, r3.2.2.2.2.1, r3.2.2.2.2.2, (6 : Int)) else some (x.2.2.2.2.2.2.1, x.2.2.2.2.2.2.2.1, x.2.2.2.2.2.2.2.2.1, x.2.2.2.2.2.2.2.2.2.1, x.2.2.2.2.2.2.2.2.2.2.1, x.2.2.2.2.2.2.2.2.2.2.2.1, (0 : Int))
theorem yxQ : EV [q94, q95] lpN 177 Tryz.f177 ypP yAb y4Z yG := fun x => by kernel_rfl
def ymm : QF := ⟨177, yG, okN (n := 0) Tryz.func177 trivial yxQ⟩
def YO (x : y2W) : Option y4Y :=
 Option.bind (ZC (x.1, x.2.1, x.2.2.1, x.2.2.2.1, x.2.2.2.2.1, x.2.2.2.2.2.1, x.2.2.2.2.2.2.1)) fun r1 => bif (r1 != (0 : Int)) then Option.bind (yp (x.1, x.2.1, x.2.2.1, x.2.2.2.1, x.2.2.2.2.1, x.2.2.2.2.2.1)) fun r2 => some (r2.1, r2.2.1, r2.2.2.1, r2.2.2.2.1, r2.2.2.2.2.1, r2.2.2.2.2.2, r1) else Option.bind (za (x.1, x.2.1, x.2.2.1, x.2.2.2.1, x.2.2.2.2.1, x.2.2.2.2.2.1, x.2.2.2.2.2.2.1)) fun r3 => bif (decide (r3 ≥ (0 : Int))) then Option.bind (yp (x.1, x.2.1, x.2.2.1, x.2.2.2.1, x.2.2.2.2.1, x.2.2.2.2.2.1)) fun r4 => some (r4.1, r4.2.1, r4.2.2.1, r4.2.2.2.1, r4.2.2.2.2.1, r4.2.2.2.2.2, (3 : Int)) else Option.bind (yu (x.2.2.2.2.2.2.2, (1 : Int), (12 : Int))) fun r5 => bif (!r5) then Option.bind (yp (x.1, x.2.1, x.2.2.1, x.2.2.2.1, x.2.2.2.2.1, x.2.2.2.2.2.1)) fun r6 => some (r6.1, r6.2.1, r6.2.2.1, r6.2.2.2.1, r6.2.2.2.2.1, r6.2.2.2.2.2, (4 : Int)) else Option.bind (yp (x.1, x.2.1, x.2.2.1, x.2.2.2.1, x.2.2.2.2.1, x.2.2.2.2.2.1)) fun r7 => Option.bind (zD (x.2.2.1, x.2.2.2.2.2.1, (0 : Int))) fun r8 => Option.bind (Y8 (x.2.2.2.2.1, x.2.2.2.2.2.2.1, x.2.2.2.2.2.1, x.2.2.2.2.2.2.2, false)) fun r9 => Option.bind (yG (x.1, x.2.1, x.2.2.1, x.2.2.2.1, x.2.2.2.2.1, x.2.2.2.2.2.1, r7.1, r7.2.1, r8.1, r7.2.2.2.1, r9, (Go.IntKind.wrap .i64 (x.2.2.2.2.2.1 + (1 : Int))), r8.2)) fun r10 => some r10
theorem yDh : EV [q94, q96, yxL, ygr, yxO, yBH, ymm] lpN 59 Tryz.f59 yAN y2X y4Z YO := fun x => by kernel_rfl
def q59 : QF := ⟨59, YO, okN (n := 0) Tryz.func59 trivial yDh⟩
def jw (x : yuI) : Option y4Y :=
 Option.bind (ZC (x.1, x.2.1, x.2.2.1, x.2.2.2.1, x.2.2.2.2.1, x.2.2.2.2.2.1, x.2.2.2.2.2.2.1)) fun r1 => Option.bind (bif (r1 != (0 : Int)) then some true else Option.bind (Ym x.2.2.2.2.2.2.2.1) fun r3 => some (!r3)) fun u2 => bif u2 then Option.bind (yp (x.1, x.2.1, x.2.2.1, x.2.2.2.1, x.2.2.2.2.1, x.2.2.2.2.2.1)) fun r4 => some (r4.1, r4.2.1, r4.2.2.1, r4.2.2.2.1, r4.2.2.2.2.1, r4.2.2.2.2.2, (1 : Int)) else Option.bind (za (x.1, x.2.1, x.2.2.1, x.2.2.2.1, x.2.2.2.2.1, x.2.2.2.2.2.1, x.2.2.2.2.2.2.1)) fun r5 => bif (decide (r5 < (0 : Int))) then Option.bind (yp (x.1, x.2.1, x.2.2.1, x.2.2.2.1, x.2.2.2.2.1, x.2.2.2.2.2.1)) fun r6 => some (r6.1, r6.2.1, r6.2.2.1, r6.2.2.2.1, r6.2.2.2.2.1, r6.2.2.2.2.2, (2 : Int)) else Option.bind (za (x.1, x.2.1, x.2.2.1, x.2.2.2.1, x.2.2.2.2.1, x.2.2.2.2.2.1, x.2.2.2.2.2.2.2.1)) fun r7 => bif (decide (r7 ≥ (0 : Int))) then Option.bind (yp (x.1, x.2.1, x.2.2.1, x.2.2.2.1, x.2.2.2.2.1, x.2.2.2.2.2.1)) fun r8 => some (r8.1, r8.2.1, r8.2.2.1, r8.2.2.2.1, r8.2.2.2.2.1, r8.2.2.2.2.2, (3 : Int)) else Option.bind (yp (x.1, x.2.1, x.2.2.1, x.2.2.2.1, x.2.2.2.2.1, x.2.2.2.2.2.1)) fun r9 => Option.bind (za (x.1, x.2.1, x.2.2.1, x.2.2.2.1, x.2.2.2.2.1, x.2.2.2.2.2.1, x.2.2.2.2.2.2.1)) fun r10 => if (0 : Int) ≤ r10 then if r10 < (List.length x.2.2.2.2.1 : Int) then Option.bind (zD (x.2.2.1, x.2.2.2.2.2.1, (y8 x.2.2.2.2.1 r10).2.1)) fun r11 => if (0 : Int) ≤ r10 then if r10 < (List.length x.2.2.2.2.1 : Int) then Option.bind (zD (r11.1, (Go.IntKind.wrap .i64 (x.2.2.2.2.2.1 + (1 : Int))), (y8 x.2.2.2.2.1 r10).2.1)) fun r12 => if (0 : Int) ≤ r10 then if r10 < (List.length r9.2.2.2.2.1 : Int) then if (0 : Int) ≤ r10 then if r10 < (List.length x.2.2.2.2.1 : Int) then Option.bind (Y8 ((List.set r9.2.2.2.2.1 (Int.toNat r10) ((y8 r9.2.2.2.2.1 r10).1, x.2.2.2.2.2.1, (y8 r9.2.2.2.2.1 r10).2.2)), x.2.2.2.2.2.2.2.1, (Go.IntKind.wrap .i64 (x.2.2.2.2.2.1 + (1 : Int))), (y8 x.2.2.2.2.1 r10).2.2.1, x.2.2.2.2.2.2.2.2)) fun r13 => Option.bind (bif r11.2 then some r12.2 else some false) fun u14 => Option.bind (yG (x.1, x.2.1, x.2.2.1, x.2.2.2.1, x.2.2.2.2.1, x.2.2.2.2.2.1, r9.1, r9.2.1, r12.1, r9.2.2.2.1, r13, (Go.IntKind.wrap .i64 (x.2.2.2.2.2.1 + (2 : Int))), u14)) fun r15 => some r15 else none else none else none else none else none else none else none else none
theorem yDi : EV [q94, yxL, ygr, yxO, yBH, ymm, yuk] lpN 61 Tryz.f61 yAO yuJ y4Z jw := fun x => by kernel_rfl
def q61 : QF := ⟨61, jw, okN (n := 0) Tryz.func61 trivial yDi⟩
def jx (x : yjk) : Option Int :=
 Option.bind (ZC x) fun r1 => Option.bind (bif (r1 == (0 : Int)) then Option.bind (za x) fun r3 => some (decide (r3 < (0 : Int))) else some false) fun u2 => bif u2 then some (2 : Int) else some r1
theorem yxR : EV [yxL, ygr] lpN 179 Tryz.f179 ypQ yjl [(.int .i64)] jx := fun x => by kernel_rfl
def yxS : QF := ⟨179, jx, okN (n := 0) Tryz.func179 trivial yxR⟩
def jy (x : yjk) : Option y4Y :=
 Option.bind (yp (x.1, x.2.1, x.2.2.1, x.2.2.2.1, x.2.2.2.2.1, x.2.2.2.2.2.1)) fun r1 => Option.bind (jx x) fun r2 => bif (r2 != (0 : Int)) then some (r1.1, r1.2.1, r1.2.2.1, r1.2.2.2.1, r1.2.2.2.2.1, r1.2.2.2.2.2, r2) else Option.bind (za x) fun r3 => if (0 : Int) ≤ (0 : Int) then if (0 : Int) ≤ r3 then if r3 ≤ (List.length x.2.2.2.2.1 : Int) then if (List.length ([] : List ye) + List.length (List.drop (Int.toNat (0 : Int)) (List.take (Int.toNat r3) x.2.2.2.2.1))) * 40 < 140737488355328 then if (0 : Int) ≤ (Go.IntKind.wrap .i64 (r3 + (1 : Int))) then if (Go.IntKind.wrap .i64 (r3 + (1 : Int))) ≤ (List.length x.2.2.2.2.1 : Int) then if (List.length x.2.2.2.2.1 : Int) ≤ (List.length x.2.2.2.2.1 : Int) then if (List.length (([] : List ye) ++ (List.drop (Int.toNat (0 : Int)) (List.take (Int.toNat r3) x.2.2.2.2.1))) + List.length (List.drop (Int.toNat (Go.IntKind.wrap .i64 (r3 + (1 : Int)))) (List.take (Int.toNat (List.length x.2.2.2.2.1 : Int)) x.2.2.2.2.1))) * 40 < 140737488355328 then Option.bind (yG (x.1, x.2.1, x.2.2.1, x.2.2.2.1, x.2.2.2.2.1, x.2.2.2.2.2.1, r1.1, r1.2.1, r1.2.2.1, r1.2.2.2.1, ((([] : List ye) ++ (List.drop (Int.toNat (0 : Int)) (List.take (Int.toNat r3) x.2.2.2.2.1))) ++ (List.drop (Int.toNat (Go.IntKind.wrap .i64 (r3 + (1 : Int)))) (List.take (Int.toNat (List.length x.2.2.2.2.1 : Int)) x.2.2.2.2.1))), r1.2.2.2.2.2, true)) fun r4 => some r4 else none else none else none else none else none else none else none else none
theorem yDj : EV [q94, ygr, ymm, yxS] lpN 64 Tryz.f64 yAP yjl y4Z jy := fun x => by kernel_rfl
def q64 : QF := ⟨64, jy, okN (n := 0) Tryz.func64 trivial yDj⟩
abbrev w9 : Type := ynj
def zE (k0 : yv2 → Option R) (k1 : List y7 → Option R) (again : w9 → Option R) (t3 : w9) : Option R :=
 Option.bind (bif (decide (t3.2.2.1 < (List.length t3.1 : Int))) then Option.bind (ZB t3.1) fun r3 => some r3 else some false) fun u2 => Option.bind (bif u2 then Option.bind (zj t3.2.1) fun r5 => some r5 else some false) fun u4 => bif u4 then if (0 : Int) ≤ t3.2.2.1 then if t3.2.2.1 < (List.length t3.1 : Int) then bif (!((yl t3.1 t3.2.2.1).2.1)) then if (0 : Int) ≤ t3.2.2.1 then if t3.2.2.1 < (List.length t3.2.2.2 : Int) then if (0 : Int) ≤ t3.2.2.1 then if t3.2.2.1 < ((List.length (List.set t3.2.2.2 (Int.toNat t3.2.2.1) ((yl t3.2.2.2 t3.2.2.1).1, true, (yl t3.2.2.2 t3.2.2.1).2.2)) : Nat) : Int) then k0 (t3.2.2.1, true, (List.set (List.set t3.2.2.2 (Int.toNat t3.2.2.1) ((yl t3.2.2.2 t3.2.2.1).1, true, (yl t3.2.2.2 t3.2.2.1).2.2)) (Int.toNat t3.2.2.1) ((yl (List.set t3.2.2.2 (Int.toNat t3.2.2.1) ((yl t3.2.2.2 t3.2.2.1).1, true, (yl t3.2.2.2 t3.2.2.1).2.2)) t3.2.2.1).1, (yl (List.set t3.2.2.2 (Int.toNat t3.2.2.1) ((yl t3.2.2.2 t3.2.2.1).1, true, (yl t3.2.2.2 t3.2.2.1).2.2)) t3.2.2.1).2.1, t3.2.1))) else none else none else none else none else again (t3.1, t3.2.1, (Go.IntKind.wrap .i64 (t3.2.2.1 + (1 : Int))), t3.2.2.2) else none else none else k1 t3.2.2.2
def Ka k0 k1 := zI (@zE R k0 k1) Y0
def zM (x : ymi) : Option yAc :=
 Option.bind (Y3 x.1) fun r1 => Ka (fun x6 => some (x6.2.2, x6.1, x6.2.1)) (fun x7 => some (x7, (0 : Int), false)) (x.1, x.2, (0 : Int), r1)
def ylb : List QF := [yuj, yxb, yxy]
def y7w (t : ynj) : St := ⟨yW t.1 :: vI t.2.1 :: dd 5 (.own 10000000 :: vI t.2.2.1 :: dd 34 []), [(10000000, .root true 113 yg t.2.2.2)]⟩
def yiC : Gk w9 := fun κ => zE (fun t => κ none ⟨dd 4 (.own 10000000 :: vI t.1 :: vB t.2.1 :: .own 10000000 :: dd 35 []), [(10000000, .root true 113 yg t.2.2)]⟩) (fun t => κ (some 0) ⟨dd 7 (.own 10000000 :: dd 35 []), [(10000000, .root true 113 yg t)]⟩)
def ylc : Lp := lpC 3 (unG ynk y7w) @yiC lpN
theorem ysS : LF ylb ylc 103 3 Tryz.f103 0 y7w @yiC fun t => t := fun R κ again t => by kernel_rfl
theorem ysT : LK ylb ylc 103 Tryz.f103 0 := lkN (u := (unG ynk y7w)) (yr fun t => by kernel_rfl) ysS
theorem yxT : EV ylb ylc 103 Tryz.f103 ypR ymj yAd zM := fun x => by kernel_rfl
def yxU : QF := ⟨103, zM, okN (n := 1) Tryz.func103 ⟨ysT, trivial⟩ yxT⟩
def YY (x : y2W) : Option Int :=
 Option.bind (jx (x.1, x.2.1, x.2.2.1, x.2.2.2.1, x.2.2.2.2.1, x.2.2.2.2.2.1, x.2.2.2.2.2.2.1)) fun r1 => bif (r1 != (0 : Int)) then some r1 else Option.bind (za (x.1, x.2.1, x.2.2.1, x.2.2.2.1, x.2.2.2.2.1, x.2.2.2.2.2.1, x.2.2.2.2.2.2.1)) fun r2 => if (0 : Int) ≤ r2 then if r2 < (List.length x.2.2.2.2.1 : Int) then bif (y8 x.2.2.2.2.1 r2).2.2.2 then some (5 : Int) else Option.bind (za (x.1, x.2.1, x.2.2.1, x.2.2.2.1, x.2.2.2.2.1, x.2.2.2.2.2.1, x.2.2.2.2.2.2.1)) fun r3 => if (0 : Int) ≤ r3 then if r3 < (List.length x.2.2.2.2.1 : Int) then Option.bind (yu (x.2.2.2.2.2.2.2, (0 : Int), (Go.IntKind.wrap .i64 ((y8 x.2.2.2.2.1 r3).2.2.1 - (1 : Int))))) fun r4 => bif (!r4) then some (4 : Int) else some (0 : Int) else none else none else none else none
theorem yxV : EV [q96, ygr, yxS] lpN 181 Tryz.f181 ypS y2X [(.int .i64)] YY := fun x => by kernel_rfl
def yxW : QF := ⟨181, YY, okN (n := 0) Tryz.func181 trivial yxV⟩
abbrev wX : Type := ynl
def wY (k0 : Int → Option R) (again : wX → Option R) (t3 : wX) : Option R :=
 bif (decide (t3.2.2.2.1 < (List.length t3.2.2.2.2.1 : Int))) then if (0 : Int) ≤ t3.2.2.2.1 then if t3.2.2.2.1 < (List.length t3.2.2.2.2.1 : Int) then Option.bind (w7 (t3.1, t3.2.1)) fun r1 => bif (decide ((zu t3.2.2.2.2.1 t3.2.2.2.1) ≤ r1)) then again (t3.1, t3.2.1, t3.2.2.2.1, (Go.IntKind.wrap .i64 (t3.2.2.2.1 + (1 : Int))), t3.2.2.2.2.1, t3.2.2.2.2.2) else again (t3.1, t3.2.1, t3.2.2.1, (Go.IntKind.wrap .i64 (t3.2.2.2.1 + (1 : Int))), t3.2.2.2.2.1, t3.2.2.2.2.2) else none else none else k0 t3.2.2.1
def Qi k0 := zI (@wY R k0) Y0
def J3 (x : yua) : Option Int :=
 Qi (fun x2 => some x2) (x.2.2.1, x.2.2.2, (-1 : Int), (0 : Int), x.1, x.2.1)
def yld : List QF := [yBB]
def y7x (t : ynl) : St := ⟨.dead :: vI t.1 :: vI t.2.1 :: .box 3 0 :: dd 3 (vI t.2.2.1 :: vI t.2.2.2.1 :: dd 18 []), [(3, .box [zg t.2.2.2.2.1, yI t.2.2.2.2.2])]⟩
def yiD : Gk wX := fun κ => wY (fun t => κ (some 0) ⟨dd 7 (vI t :: dd 19 []), []⟩)
def yle : Lp := lpC 3 (unG ynm y7x) @yiD lpN
theorem ysU : LF yld yle 227 3 Tryz.f227 0 y7x @yiD fun t => t := fun R κ again t => by kernel_rfl
theorem ysV : LK yld yle 227 Tryz.f227 0 := lkN (u := (unG ynm y7x)) (yr fun t => by kernel_rfl) ysU
theorem yxX : EV yld yle 227 Tryz.f227 ypT yub [(.int .i64)] J3 := fun x => by kernel_rfl
def yBI : QF := ⟨227, J3, okN (n := 1) Tryz.func227 ⟨ysV, trivial⟩ yxX⟩
def yP (x : List y9) : Option (List yb) :=
 bif ((List.length x : Int) == (0 : Int)) then some ([] : List yb) else if (List.length ([] : List y9) + List.length x) * 40 < 140737488355328 then some ([(([] : List y9) ++ x)] : List yb) else none
theorem yxY : EV [] lpN 234 Tryz.f234 ypU [(.sl 64 yi)] [(.sl 58 yn)] yP := fun x => by kernel_rfl
def yul : QF := ⟨234, yP, okN (n := 0) Tryz.func234 trivial yxY⟩
abbrev VO : Type := ynn
def wJ (k0 : yuc → Option R) (k1 : yeW → Option R) (again : VO → Option R) (t2 : VO) : Option R :=
 bif (decide (t2.2.2.2.1 < (List.length t2.1 : Int))) then if (0 : Int) ≤ t2.2.2.2.1 then if t2.2.2.2.1 < (List.length t2.1 : Int) then Option.bind (bif ((y6 t2.1 t2.2.2.2.1).1 == t2.2.1) then if (0 : Int) ≤ t2.2.2.2.1 then if t2.2.2.2.1 < (List.length t2.1 : Int) then some ((y6 t2.1 t2.2.2.2.1).2.1 == t2.2.2.1) else none else none else some false) fun u1 => bif u1 then if (0 : Int) ≤ t2.2.2.2.1 then if t2.2.2.2.1 < (List.length t2.1 : Int) then k0 (true, (y6 t2.1 t2.2.2.2.1).1, (y6 t2.1 t2.2.2.2.1).2.1, (y6 t2.1 t2.2.2.2.1).2.2.1, (y6 t2.1 t2.2.2.2.1).2.2.2.1, (y6 t2.1 t2.2.2.2.1).2.2.2.2) else none else none else again (t2.1, t2.2.1, t2.2.2.1, (Go.IntKind.wrap .i64 (t2.2.2.2.1 + (1 : Int))), t2.2.2.2.2.1, t2.2.2.2.2.2.1, t2.2.2.2.2.2.2.1, t2.2.2.2.2.2.2.2.1, t2.2.2.2.2.2.2.2.2) else none else none else k1 t2.2.2.2.2
def y0W k0 k1 := zI (@wJ R k0 k1) Y0
def We (x : yAi) : Option ycY :=
 y0W (fun x2 => some (x2.2.1, x2.2.2.1, x2.2.2.2.1, x2.2.2.2.2.1, x2.2.2.2.2.2, x2.1)) (fun x3 => some ((0 : Int), (0 : Int), (0 : Int), (0 : Int), (0 : Int), false)) (x.1, x.2.1, x.2.2, (0 : Int), (0 : Int), (0 : Int), (0 : Int), (0 : Int), (0 : Int))
def ylf : List QF := []
def y7y (t : ynn) : St := ⟨qQ t.1 :: vI t.2.1 :: vI t.2.2.1 :: dd 3 (.box 6 0 :: .dead :: vI t.2.2.2.1 :: dd 27 []), [(6, .box [vI t.2.2.2.2.1, vI t.2.2.2.2.2.1, vI t.2.2.2.2.2.2.1, vI t.2.2.2.2.2.2.2.1, vI t.2.2.2.2.2.2.2.2])]⟩
def yiE : Gk VO := fun κ => wJ (fun t => κ none ⟨dd 6 (.box 6 0 :: vB t.1 :: dd 28 []), [(6, .box [vI t.2.1, vI t.2.2.1, vI t.2.2.2.1, vI t.2.2.2.2.1, vI t.2.2.2.2.2])]⟩) (fun t => κ (some 0) ⟨dd 6 (.box 6 0 :: dd 29 []), [(6, .box [vI t.1, vI t.2.1, vI t.2.2.1, vI t.2.2.2.1, vI t.2.2.2.2])]⟩)
def ylg : Lp := lpC 2 (unG yno y7y) @yiE lpN
theorem ysW : LF ylf ylg 305 2 Tryz.f305 0 y7y @yiE fun t => t := fun R κ again t => by kernel_rfl
theorem ysX : LK ylf ylg 305 Tryz.f305 0 := lkN (u := (unG yno y7y)) (yr fun t => by kernel_rfl) ysW
theorem yxZ : EV ylf ylg 305 Tryz.f305 ypV yAj ycZ We := fun x => by kernel_rfl
def yBJ : QF := ⟨305, We, okN (n := 1) Tryz.func305 ⟨ysX, trivial⟩ yxZ⟩
def YR (x : yuK) : Option yAk :=
 Option.bind (zc x.1) fun r1 => bif (decide ((Go.IntKind.wrap .i64 ((List.length r1 : Int) - (1 : Int))) ≥ (0 : Int))) then if (0 : Int) ≤ (Go.IntKind.wrap .i64 ((List.length r1 : Int) - (1 : Int))) then if (Go.IntKind.wrap .i64 ((List.length r1 : Int) - (1 : Int))) < (List.length r1 : Int) then Option.bind (We ((yo r1 (Go.IntKind.wrap .i64 ((List.length r1 : Int) - (1 : Int)))), x.2.1, x.2.2.1)) fun r2 => Option.bind (bif (decide ((Go.IntKind.wrap .i64 ((List.length r1 : Int) - (1 : Int))) ≥ (0 : Int))) then if (0 : Int) ≤ (Go.IntKind.wrap .i64 ((List.length r1 : Int) - (1 : Int))) then if (Go.IntKind.wrap .i64 ((List.length r1 : Int) - (1 : Int))) < (List.length r1 : Int) then Option.bind (bif (decide (((List.length (yo r1 (Go.IntKind.wrap .i64 ((List.length r1 : Int) - (1 : Int)))) : Nat) : Int) < (4 : Int))) then some true else some r2.2.2.2.2.2) fun u4 => some u4 else none else none else some false) fun u3 => bif u3 then if (0 : Int) ≤ (Go.IntKind.wrap .i64 ((List.length r1 : Int) - (1 : Int))) then if (Go.IntKind.wrap .i64 ((List.length r1 : Int) - (1 : Int))) < (List.length r1 : Int) then Option.bind (zq ((yo r1 (Go.IntKind.wrap .i64 ((List.length r1 : Int) - (1 : Int)))), x.2.1, x.2.2.1, x.2.2.2.1, x.2.2.2.2.1, x.2.2.2.2.2)) fun r5 => if (0 : Int) ≤ (Go.IntKind.wrap .i64 ((List.length r1 : Int) - (1 : Int))) then if (Go.IntKind.wrap .i64 ((List.length r1 : Int) - (1 : Int))) < (List.length r1 : Int) then Option.bind (zi (List.set r1 (Int.toNat (Go.IntKind.wrap .i64 ((List.length r1 : Int) - (1 : Int)))) r5)) fun r6 => bif r6 then some ((List.set r1 (Int.toNat (Go.IntKind.wrap .i64 ((List.length r1 : Int) - (1 : Int)))) r5), true) else Option.bind (yA x.1) fun r7 => Option.bind (zq (r7, x.2)) fun r8 => Option.bind (Y4 r8) fun r9 => bif (decide ((List.length r9 : Int) > (8 : Int))) then Option.bind (zc x.1) fun r10 => some (r10, false) else Option.bind (yP r9) fun r11 => Option.bind (zi r11) fun r12 => bif (!r12) then Option.bind (zc x.1) fun r13 => some (r13, false) else Option.bind (yP r9) fun r14 => some (r14, true) else none else none else none else none else if (List.length r1 + List.length ([([x.2] : List y9)] : List yb)) * 24 < 140737488355328 then Option.bind (zi (r1 ++ ([([x.2] : List y9)] : List yb))) fun r15 => bif r15 then some ((r1 ++ ([([x.2] : List y9)] : List yb)), true) else Option.bind (yA x.1) fun r16 => Option.bind (zq (r16, x.2)) fun r17 => Option.bind (Y4 r17) fun r18 => bif (decide ((List.length r18 : Int) > (8 : Int))) then Option.bind (zc x.1) fun r19 => some (r19, false) else Option.bind (yP r18) fun r20 => Option.bind (zi r20) fun r21 => bif (!r21) then Option.bind (zc x.1) fun r22 => some (r22, false) else Option.bind (yP r18) fun r23 => some (r23, true) else none else none else none else Option.bind (bif (decide ((Go.IntKind.wrap .i64 ((List.length r1 : Int) - (1 : Int))) ≥ (0 : Int))) then if (0 : Int) ≤ (Go.IntKind.wrap .i64 ((List.length r1 : Int) - (1 : Int))) then if (Go.IntKind.wrap .i64 ((List.length r1 : Int) - (1 : Int))) < (List.length r1 : Int) then Option.bind (bif (decide (((List.length (yo r1 (Go.IntKind.wrap .i64 ((List.length r1 : Int) - (1 : Int)))) : Nat) : Int) < (4 : Int))) then some true else some false) fun u25 => some u25 else none else none else some false) fun u24 => bif u24 then if (0 : Int) ≤ (Go.IntKind.wrap .i64 ((List.length r1 : Int) - (1 : Int))) then if (Go.IntKind.wrap .i64 ((List.length r1 : Int) - (1 : Int))) < (List.length r1 : Int) then Option.bind (zq ((yo r1 (Go.IntKind.wrap .i64 ((List.length r1 : Int) - (1 : Int)))), x.2.1, x.2.2.1, x.2.2.2.1, x.2.2.2.2.1, x.2.2.2.2.2)) fun r26 => if (0 : Int) ≤ (Go.IntKind.wrap .i64 ((List.length r1 : Int) - (1 : Int))) then if (Go.IntKind.wrap .i64 ((List.length r1 : Int) - (1 : Int))) < (List.length r1 : Int) then Option.bind (zi (List.set r1 (Int.toNat (Go.IntKind.wrap .i64 ((List.length r1 : Int) - (1 : Int)))) r26)) fun r27 => bif r27 then some ((List.set r1 (Int.toNat (Go.IntKind.wrap .i64 ((List.length r1 : Int) - (1 : Int)))) r26), true) else Option.bind (yA x.1) fun r28 => Option.bind (zq (r28, x.2)) fun r29 => Option.bind (Y4 r29) fun r30 => bif (decide ((List.length r30 : Int) > (8 : Int))) then Option.bind (zc x.1) fun r31 => some (r31, false) else Option.bind (yP r30) fun r32 => Option.bind (zi r32) fun r33 => bif (!r33) then Option.bind (zc x.1) fun r34 => some (r34, false) else Option.bind (yP r30) fun r35 => some (r35, true) else none else none else none else none else if (List.length r1 + List.length ([([x.2] : List y9)] : List yb)) * 24 < 140737488355328 then Option.bind (zi (r1 ++ ([([x.2] : List y9)] : List yb))) fun r36 => bif r36 then some ((r1 ++ ([([x.2] : List y9)] : List yb)), true) else Option.bind (yA x.1) fun r37 => Option.bind (zq (r37, x.2)) fun r38 => Option.bind (Y4 r38) fun r39 => bif (decide ((List.length r39 : Int) > (8 : Int))) then Option.bind (zc x.1) fun r40 => some (r40, false) else Option.bind (yP r39) fun r41 => Option.bind (zi r41) fun r42 => bif (!r42) then Option.bind (zc x.1) fun r43 => some (r43, false) else Option.bind (yP r39) fun r44 => some (r44, true) else none
theorem yy0 : EV [yxd, yui, ykD, yul, yBz, yBJ, yBE] lpN 228 Tryz.f228 ypW yuL yAl YR := fun x => by kernel_rfl
def yBK : QF := ⟨228, YR, okN (n := 0) Tryz.func228 trivial yy0⟩
def JK (x : yv3) : Option y4f :=
 if (0 : Int) ≤ (0 : Int) then if (0 : Int) ≤ x.2.2.1 then if x.2.2.1 ≤ (List.length x.1 : Int) then if (List.length ([] : List yd) + List.length (List.drop (Int.toNat (0 : Int)) (List.take (Int.toNat x.2.2.1) x.1))) * 8 < 140737488355328 then if (List.length (([] : List yd) ++ (List.drop (Int.toNat (0 : Int)) (List.take (Int.toNat x.2.2.1) x.1))) + List.length x.2.2.2.1) * 8 < 140737488355328 then if (0 : Int) ≤ (Go.IntKind.wrap .i64 (x.2.2.1 + (1 : Int))) then if (Go.IntKind.wrap .i64 (x.2.2.1 + (1 : Int))) ≤ (List.length x.1 : Int) then if (List.length x.1 : Int) ≤ (List.length x.1 : Int) then if (List.length ((([] : List yd) ++ (List.drop (Int.toNat (0 : Int)) (List.take (Int.toNat x.2.2.1) x.1))) ++ x.2.2.2.1) + List.length (List.drop (Int.toNat (Go.IntKind.wrap .i64 (x.2.2.1 + (1 : Int)))) (List.take (Int.toNat (List.length x.1 : Int)) x.1))) * 8 < 140737488355328 then if (0 : Int) ≤ (0 : Int) then if (0 : Int) ≤ x.2.2.1 then if x.2.2.1 ≤ (List.length x.2.1 : Int) then if (List.length ([] : List y0) + List.length (List.drop (Int.toNat (0 : Int)) (List.take (Int.toNat x.2.2.1) x.2.1))) * 24 < 140737488355328 then if (List.length (([] : List y0) ++ (List.drop (Int.toNat (0 : Int)) (List.take (Int.toNat x.2.2.1) x.2.1))) + List.length x.2.2.2.2) * 24 < 140737488355328 then if (0 : Int) ≤ (Go.IntKind.wrap .i64 (x.2.2.1 + (1 : Int))) then if (Go.IntKind.wrap .i64 (x.2.2.1 + (1 : Int))) ≤ (List.length x.2.1 : Int) then if (List.length x.2.1 : Int) ≤ (List.length x.2.1 : Int) then if (List.length ((([] : List y0) ++ (List.drop (Int.toNat (0 : Int)) (List.take (Int.toNat x.2.2.1) x.2.1))) ++ x.2.2.2.2) + List.length (List.drop (Int.toNat (Go.IntKind.wrap .i64 (x.2.2.1 + (1 : Int)))) (List.take (Int.toNat (List.length x.2.1 : Int)) x.2.1))) * 24 < 140737488355328 then some ((((([] : List yd) ++ (List.drop (Int.toNat (0 : Int)) (List.take (Int.toNat x.2.2.1) x.1))) ++ x.2.2.2.1) ++ (List.drop (Int.toNat (Go.IntKind.wrap .i64 (x.2.2.1 + (1 : Int)))) (List.take (Int.toNat (List.length x.1 : Int)) x.1))), (((([] : List y0) ++ (List.drop (Int.toNat (0 : Int)) (List.take (Int.toNat x.2.2.1) x.2.1))) ++ x.2.2.2.2) ++ (List.drop (Int.toNat (Go.IntKind.wrap .i64 (x.2.2.1 + (1 : Int)))) (List.take (Int.toNat (List.length x.2.1 : Int)) x.2.1)))) else none else none else none else none else none else none else none else none else none else none else none else none else none else none else none else none else none else none
theorem yy1 : EV [] lpN 229 Tryz.f229 ypX yv4 Wk JK := fun x => by kernel_rfl
def yDk : QF := ⟨229, JK, okN (n := 0) Tryz.func229 trivial yy1⟩
abbrev V5 : Type := y9N
def WM (k0 : Int → Option R) (k1 : Unit → Option R) (again : V5 → Option R) (t2 : V5) : Option R :=
 bif (decide ((Go.IntKind.wrap .i64 (t2.1 + (1 : Int))) < (List.length t2.2.2 : Int))) then if (0 : Int) ≤ t2.1 then if t2.1 < (List.length t2.2.2 : Int) then Option.bind (yA (yf t2.2.2 t2.1)) fun r1 => if (0 : Int) ≤ (Go.IntKind.wrap .i64 (t2.1 + (1 : Int))) then if (Go.IntKind.wrap .i64 (t2.1 + (1 : Int))) < (List.length t2.2.2 : Int) then Option.bind (yA (yf t2.2.2 (Go.IntKind.wrap .i64 (t2.1 + (1 : Int))))) fun r2 => bif (decide ((Go.IntKind.wrap .i64 ((List.length r1 : Int) + (List.length r2 : Int))) ≤ (6 : Int))) then k0 t2.1 else again ((Go.IntKind.wrap .i64 (t2.1 + (1 : Int))), t2.2.1, t2.2.2) else none else none else none else none else k1 ()
def y00 k0 k1 := zI (@WM R k0 k1) Y0
def wc (x : y4f) : Option Int :=
 y00 (fun x3 => some x3) (fun x4 => some (-1 : Int)) ((0 : Int), x.1, x.2)
def ylh : List QF := [ykD]
def y7z (t : y9N) : St := ⟨.dead :: .box 1 0 :: .dead :: vI t.1 :: dd 26 [], [(1, .box [zg t.2.1, yI t.2.2])]⟩
def yiF : Gk V5 := fun κ => WM (fun t => κ none ⟨dd 2 (vI t :: dd 27 []), []⟩) (fun t => κ (some 0) ⟨dd 30 [], []⟩)
def yli : Lp := lpC 2 (unG yf0 y7z) @yiF lpN
theorem ysY : LF ylh yli 310 2 Tryz.f310 0 y7z @yiF fun t => t := fun R κ again t => by kernel_rfl
theorem ysZ : LK ylh yli 310 Tryz.f310 0 := lkN (u := (unG yf0 y7z)) (yr fun t => by kernel_rfl) ysY
theorem yy2 : EV ylh yli 310 Tryz.f310 ypY Wk [(.int .i64)] wc := fun x => by kernel_rfl
def yDl : QF := ⟨310, wc, okN (n := 1) Tryz.func310 ⟨ysZ, trivial⟩ yy2⟩
abbrev V6 : Type := y9N
def WN (k0 : y4f → Option R) (again : V6 → Option R) (t2 : V6) : Option R :=
 bif (decide (t2.1 ≥ (0 : Int))) then if (0 : Int) ≤ t2.1 then if t2.1 < (List.length t2.2.2 : Int) then Option.bind (yA (yf t2.2.2 t2.1)) fun r2 => if (0 : Int) ≤ (Go.IntKind.wrap .i64 (t2.1 + (1 : Int))) then if (Go.IntKind.wrap .i64 (t2.1 + (1 : Int))) < (List.length t2.2.2 : Int) then Option.bind (yA (yf t2.2.2 (Go.IntKind.wrap .i64 (t2.1 + (1 : Int))))) fun r3 => if (List.length r2 + List.length r3) * 40 < 140737488355328 then if (0 : Int) ≤ (0 : Int) then if (0 : Int) ≤ (Go.IntKind.wrap .i64 (t2.1 + (1 : Int))) then if (Go.IntKind.wrap .i64 (t2.1 + (1 : Int))) ≤ (List.length t2.2.1 : Int) then if (List.length ([] : List yd) + List.length (List.drop (Int.toNat (0 : Int)) (List.take (Int.toNat (Go.IntKind.wrap .i64 (t2.1 + (1 : Int)))) t2.2.1))) * 8 < 140737488355328 then if (0 : Int) ≤ (Go.IntKind.wrap .i64 (t2.1 + (2 : Int))) then if (Go.IntKind.wrap .i64 (t2.1 + (2 : Int))) ≤ (List.length t2.2.1 : Int) then if (List.length t2.2.1 : Int) ≤ (List.length t2.2.1 : Int) then if (List.length (([] : List yd) ++ (List.drop (Int.toNat (0 : Int)) (List.take (Int.toNat (Go.IntKind.wrap .i64 (t2.1 + (1 : Int)))) t2.2.1))) + List.length (List.drop (Int.toNat (Go.IntKind.wrap .i64 (t2.1 + (2 : Int)))) (List.take (Int.toNat (List.length t2.2.1 : Int)) t2.2.1))) * 8 < 140737488355328 then if (0 : Int) ≤ (0 : Int) then if (0 : Int) ≤ t2.1 then if t2.1 ≤ (List.length t2.2.2 : Int) then if (List.length ([] : List y0) + List.length (List.drop (Int.toNat (0 : Int)) (List.take (Int.toNat t2.1) t2.2.2))) * 24 < 140737488355328 then Option.bind (yP (r2 ++ r3)) fun r4 => if (List.length (([] : List y0) ++ (List.drop (Int.toNat (0 : Int)) (List.take (Int.toNat t2.1) t2.2.2))) + List.length ([r4] : List y0)) * 24 < 140737488355328 then if (0 : Int) ≤ (Go.IntKind.wrap .i64 (t2.1 + (2 : Int))) then if (Go.IntKind.wrap .i64 (t2.1 + (2 : Int))) ≤ (List.length t2.2.2 : Int) then if (List.length t2.2.2 : Int) ≤ (List.length t2.2.2 : Int) then if (List.length ((([] : List y0) ++ (List.drop (Int.toNat (0 : Int)) (List.take (Int.toNat t2.1) t2.2.2))) ++ ([r4] : List y0)) + List.length (List.drop (Int.toNat (Go.IntKind.wrap .i64 (t2.1 + (2 : Int)))) (List.take (Int.toNat (List.length t2.2.2 : Int)) t2.2.2))) * 24 < 140737488355328 then Option.bind (wc (((([] : List yd) ++ (List.drop (Int.toNat (0 : Int)) (List.take (Int.toNat (Go.IntKind.wrap .i64 (t2.1 + (1 : Int)))) t2.2.1))) ++ (List.drop (Int.toNat (Go.IntKind.wrap .i64 (t2.1 + (2 : Int)))) (List.take (Int.toNat (List.length t2.2.1 : Int)) t2.2.1))), (((([] : List y0) ++ (List.drop (Int.toNat (0 : Int)) (List.take (Int.toNat t2.1) t2.2.2))) ++ ([r4] : List y0)) ++ (List.drop (Int.toNat (Go.IntKind.wrap .i64 (t2.1 + (2 : Int)))) (List.take (Int.toNat (List.length t2.2.2 : Int)) t2.2.2))))) fun r5 => again (r5, ((([] : List yd) ++ (List.drop (Int.toNat (0 : Int)) (List.take (Int.toNat (Go.IntKind.wrap .i64 (t2.1 + (1 : Int)))) t2.2.1))) ++ (List.drop (Int.toNat (Go.IntKind.wrap .i64 (t2.1 + (2 : Int)))) (List.take (Int.toNat (List.length t2.2.1 : Int)) t2.2.1))), (((([] : List y0) ++ (List.drop (Int.toNat (0 : Int)) (List.take (Int.toNat t2.1) t2.2.2))) ++ ([r4] : List y0)) ++ (List.drop (Int.toNat (Go.IntKind.wrap .i64 (t2.1 + (2 : Int)))) (List.take (Int.toNat (List.length t2.2.2 : Int)) t2.2.2)))) else none else none else none else none else none else none else none else none else none else none else none else none else none else none else none else none else none else none else none else none else none else none else k0 t2.2
def y01 k0 := zI (@WN R k0) Y0
def Zr (x : y4f) : Option y4f :=
 Option.bind (wc x) fun r1 => y01 (fun x6 => some x6) (r1, x)
def ylj : List QF := [ykD, yul, yDl]
def y7A (t : y9N) : St := ⟨.dead :: .box 1 0 :: .box 2 0 :: vI t.1 :: dd 56 [], [(1, .box [.own 10000000, .own 10000001]), (2, .box [.nils, .nils]), (10000000, .root true 3 yh t.2.1), (10000001, .root true 140 yj t.2.2)]⟩
def yiG : Gk V6 := fun κ => WN (fun t => κ (some 0) ⟨.dead :: .box 1 0 :: .box 2 0 :: dd 57 [], [(1, .box [.own 10000000, .own 10000001]), (2, .box [.nils, .nils]), (10000000, .root true 3 yh t.1), (10000001, .root true 140 yj t.2)]⟩)
def ylk : Lp := lpC 2 (unG yf0 y7A) @yiG lpN
theorem yt0 : LF ylj ylk 235 2 Tryz.f235 0 y7A @yiG fun t => t := fun R κ again t => by kernel_rfl
theorem yt1 : LK ylj ylk 235 Tryz.f235 0 := lkN (u := (unG yf0 y7A)) (yr fun t => by kernel_rfl) yt0
theorem yy3 : EV ylj ylk 235 Tryz.f235 ypZ Wk Wk Zr := fun x => by kernel_rfl
def yDm : QF := ⟨235, Zr, okN (n := 1) Tryz.func235 ⟨yt1, trivial⟩ yy3⟩
def zN (x : yAm) : Option yAo :=
 Option.bind (Zn (x.1, x.2.1)) fun r1 => Option.bind (Yl (x.1, x.2.1)) fun r2 => Option.bind (bif (!r2) then some true else Option.bind (Wd x.2.2) fun r4 => some (!r4)) fun u3 => bif u3 then some (r1.1, r1.2, false) else Option.bind (J3 (x.1, x.2.1, x.2.2.1, x.2.2.2.1)) fun r5 => if (0 : Int) ≤ r5 then if r5 < (List.length x.2.1 : Int) then Option.bind (YR ((yf x.2.1 r5), x.2.2.1, x.2.2.2.1, x.2.2.2.2.1, x.2.2.2.2.2.1, x.2.2.2.2.2.2)) fun r6 => if (0 : Int) ≤ r5 then if r5 < (List.length x.1 : Int) then Option.bind (JK (r1.1, r1.2, r5, ([(zu x.1 r5)] : List yd), ([r6.1] : List y0))) fun r7 => bif (!r6.2) then if (0 : Int) ≤ r5 then if r5 < (List.length x.2.1 : Int) then Option.bind (yA (yf x.2.1 r5)) fun r8 => Option.bind (zq (r8, x.2.2)) fun r9 => Option.bind (Y4 r9) fun r10 => if (0 : Int) ≤ r5 then if r5 < (List.length x.1 : Int) then if (0 : Int) ≤ (Go.IntKind.wrap .i64 (Int.tdiv (Go.IntKind.wrap .i64 ((List.length r10 : Int) + (1 : Int))) (2 : Int))) then if (Go.IntKind.wrap .i64 (Int.tdiv (Go.IntKind.wrap .i64 ((List.length r10 : Int) + (1 : Int))) (2 : Int))) < (List.length r10 : Int) then Option.bind (w8 ((y6 r10 (Go.IntKind.wrap .i64 (Int.tdiv (Go.IntKind.wrap .i64 ((List.length r10 : Int) + (1 : Int))) (2 : Int)))).1, (y6 r10 (Go.IntKind.wrap .i64 (Int.tdiv (Go.IntKind.wrap .i64 ((List.length r10 : Int) + (1 : Int))) (2 : Int)))).2.1, (y6 r10 (Go.IntKind.wrap .i64 (Int.tdiv (Go.IntKind.wrap .i64 ((List.length r10 : Int) + (1 : Int))) (2 : Int)))).2.2.1, (y6 r10 (Go.IntKind.wrap .i64 (Int.tdiv (Go.IntKind.wrap .i64 ((List.length r10 : Int) + (1 : Int))) (2 : Int)))).2.2.2.1, (y6 r10 (Go.IntKind.wrap .i64 (Int.tdiv (Go.IntKind.wrap .i64 ((List.length r10 : Int) + (1 : Int))) (2 : Int)))).2.2.2.2)) fun r11 => if (0 : Int) ≤ (0 : Int) then if (0 : Int) ≤ (Go.IntKind.wrap .i64 (Int.tdiv (Go.IntKind.wrap .i64 ((List.length r10 : Int) + (1 : Int))) (2 : Int))) then if (Go.IntKind.wrap .i64 (Int.tdiv (Go.IntKind.wrap .i64 ((List.length r10 : Int) + (1 : Int))) (2 : Int))) ≤ (List.length r10 : Int) then Option.bind (yP (List.drop (Int.toNat (0 : Int)) (List.take (Int.toNat (Go.IntKind.wrap .i64 (Int.tdiv (Go.IntKind.wrap .i64 ((List.length r10 : Int) + (1 : Int))) (2 : Int)))) r10))) fun r12 => if (0 : Int) ≤ (Go.IntKind.wrap .i64 (Int.tdiv (Go.IntKind.wrap .i64 ((List.length r10 : Int) + (1 : Int))) (2 : Int))) then if (Go.IntKind.wrap .i64 (Int.tdiv (Go.IntKind.wrap .i64 ((List.length r10 : Int) + (1 : Int))) (2 : Int))) ≤ (List.length r10 : Int) then if (List.length r10 : Int) ≤ (List.length r10 : Int) then Option.bind (yP (List.drop (Int.toNat (Go.IntKind.wrap .i64 (Int.tdiv (Go.IntKind.wrap .i64 ((List.length r10 : Int) + (1 : Int))) (2 : Int)))) (List.take (Int.toNat (List.length r10 : Int)) r10))) fun r13 => Option.bind (JK (r1.1, r1.2, r5, ([(zu x.1 r5), r11] : List yd), ([r12, r13] : List y0))) fun r14 => Option.bind (Zr r14) fun r15 => Option.bind (Yl r15) fun r16 => bif (!r16) then some (r1.1, r1.2, false) else some (r15.1, r15.2, true) else none else none else none else none else none else none else none else none else none else none else none else none else Option.bind (bif (decide (r5 > (0 : Int))) then Option.bind (yA r6.1) fun r18 => some ((List.length r18 : Int) == (0 : Int)) else some false) fun u17 => bif u17 then Option.bind (JK (r1.1, r1.2, r5, ([] : List yd), ([] : List y0))) fun r19 => Option.bind (Zr r19) fun r20 => Option.bind (Yl r20) fun r21 => bif (!r21) then some (r1.1, r1.2, false) else some (r20.1, r20.2, true) else Option.bind (Zr r7) fun r22 => Option.bind (Yl r22) fun r23 => bif (!r23) then some (r1.1, r1.2, false) else some (r22.1, r22.2, true) else none else none else none else none
theorem yy4 : EV [yx9, yBF, yBD, yBI, yBK, yDk, yxd, yui, ykD, yBC, yul, yDm] lpN 104 Tryz.f104 yq0 yAn yAp zN := fun x => by kernel_rfl
def yum : QF := ⟨104, zN, okN (n := 0) Tryz.func104 trivial yy4⟩
abbrev WO : Type := yud
def WP (k0 : yuc → Option R) (k1 : yeW → Option R) (again : WO → Option R) (t2 : WO) : Option R :=
 bif (decide (t2.2.2.1 ≥ (0 : Int))) then if (0 : Int) ≤ t2.2.2.1 then if t2.2.2.1 < (List.length t2.2.2.2.1 : Int) then Option.bind (We ((yo t2.2.2.2.1 t2.2.2.1), t2.1, t2.2.1)) fun r1 => Option.bind (bif r1.2.2.2.2.2 then some (r1.2.2.1 == (0 : Int)) else some false) fun u2 => bif u2 then k0 (false, (0 : Int), (0 : Int), (0 : Int), (0 : Int), (0 : Int)) else bif r1.2.2.2.2.2 then k0 (true, r1.1, r1.2.1, r1.2.2.1, r1.2.2.2.1, r1.2.2.2.2.1) else again (t2.1, t2.2.1, (Go.IntKind.wrap .i64 (t2.2.2.1 - (1 : Int))), t2.2.2.2.1, t2.2.2.2.2.1, t2.2.2.2.2.2.1, t2.2.2.2.2.2.2.1, t2.2.2.2.2.2.2.2.1, t2.2.2.2.2.2.2.2.2) else none else none else k1 t2.2.2.2.2
def y02 k0 k1 := zI (@WP R k0 k1) Y0
def WQ (x : yjj) : Option ycY :=
 y02 (fun x3 => some (x3.2.1, x3.2.2.1, x3.2.2.2.1, x3.2.2.2.2.1, x3.2.2.2.2.2, x3.1)) (fun x4 => some ((0 : Int), (0 : Int), (0 : Int), (0 : Int), (0 : Int), false)) (x.2.1, x.2.2, (Go.IntKind.wrap .i64 ((List.length x.1 : Int) - (1 : Int))), x.1, (0 : Int), (0 : Int), (0 : Int), (0 : Int), (0 : Int))
def yll : List QF := [yBJ]
def y7B (t : yud) : St := ⟨.dead :: vI t.1 :: vI t.2.1 :: .box 3 0 :: dd 2 (.box 6 0 :: .dead :: vI t.2.2.1 :: dd 31 []), [(3, .box [Yp t.2.2.2.1]), (6, .box [vI t.2.2.2.2.1, vI t.2.2.2.2.2.1, vI t.2.2.2.2.2.2.1, vI t.2.2.2.2.2.2.2.1, vI t.2.2.2.2.2.2.2.2])]⟩
def yiH : Gk WO := fun κ => WP (fun t => κ none ⟨dd 6 (.box 6 0 :: vB t.1 :: dd 32 []), [(6, .box [vI t.2.1, vI t.2.2.1, vI t.2.2.2.1, vI t.2.2.2.2.1, vI t.2.2.2.2.2])]⟩) (fun t => κ (some 0) ⟨dd 6 (.box 6 0 :: dd 33 []), [(6, .box [vI t.1, vI t.2.1, vI t.2.2.1, vI t.2.2.2.1, vI t.2.2.2.2])]⟩)
def ylm : Lp := lpC 2 (unG yue y7B) @yiH lpN
theorem yt2 : LF yll ylm 336 2 Tryz.f336 0 y7B @yiH fun t => t := fun R κ again t => by kernel_rfl
theorem yt3 : LK yll ylm 336 Tryz.f336 0 := lkN (u := (unG yue y7B)) (yr fun t => by kernel_rfl) yt2
theorem yy5 : EV yll ylm 336 Tryz.f336 yq1 yu7 ycZ WQ := fun x => by kernel_rfl
def yDn : QF := ⟨336, WQ, okN (n := 1) Tryz.func336 ⟨yt3, trivial⟩ yy5⟩
def jz (x : yua) : Option ycY :=
 Option.bind (J3 x) fun r1 => Option.bind (yu (r1, (0 : Int), (Go.IntKind.wrap .i64 ((List.length x.2.1 : Int) - (1 : Int))))) fun r2 => bif (!r2) then some ((0 : Int), (0 : Int), (0 : Int), (0 : Int), (0 : Int), false) else if (0 : Int) ≤ r1 then if r1 < (List.length x.2.1 : Int) then Option.bind (WQ ((yf x.2.1 r1), x.2.2.1, x.2.2.2)) fun r3 => some r3 else none else none
theorem yy6 : EV [q96, yBI, yDn] lpN 283 Tryz.f283 yq2 yub ycZ jz := fun x => by kernel_rfl
def yy7 : QF := ⟨283, jz, okN (n := 0) Tryz.func283 trivial yy6⟩
def YZ (x : ymi) : Option (List y7) :=
 Option.bind (Y3 x.1) fun r1 => Option.bind (ZB x.1) fun r2 => Option.bind (bif r2 then Option.bind (yu (x.2, (0 : Int), (Go.IntKind.wrap .i64 ((List.length x.1 : Int) - (1 : Int))))) fun r4 => some r4 else some false) fun u3 => Option.bind (bif u3 then if (0 : Int) ≤ x.2 then if x.2 < (List.length x.1 : Int) then some ((yl x.1 x.2).2.1) else none else none else some false) fun u5 => bif u5 then if (0 : Int) ≤ x.2 then if x.2 < (List.length x.1 : Int) then if (0 : Int) ≤ x.2 then if x.2 < (List.length r1 : Int) then some (List.set r1 (Int.toNat x.2) ((Int.tmod (Go.IntKind.wrap .i64 ((yl x.1 x.2).1 + (1 : Int))) (1000 : Int)), false, (0 : Int))) else none else none else none else none else some r1
theorem yy8 : EV [q96, yxb, yxy] lpN 105 Tryz.f105 yq3 ymj [(.sl 113 yg)] YZ := fun x => by kernel_rfl
def yy9 : QF := ⟨105, YZ, okN (n := 0) Tryz.func105 trivial yy8⟩
def J4 (x : yv5) : Option y6q :=
 Option.bind (bif x.2.2.2.2.2.2.2.2.2.2.2 then some (x.2.2.2.2.2.2.2.2.1 == (1 : Int)) else some false) fun u1 => bif u1 then Option.bind (YZ (x.2.2.2.1, x.2.2.2.2.2.2.2.2.2.1)) fun r2 => some (x.1, x.2.1, x.2.2.1, r2, x.2.2.2.2.1, x.2.2.2.2.2.1) else some (x.1, x.2.1, x.2.2.1, x.2.2.2.1, x.2.2.2.2.1, x.2.2.2.2.2.1)
theorem yya : EV [yy9] lpN 284 Tryz.f284 yq4 yv6 YK J4 := fun x => by kernel_rfl
def yDo : QF := ⟨284, J4, okN (n := 0) Tryz.func284 trivial yya⟩
def zd (x : ymQ) : Option yfI :=
 Option.bind (jz (x.1, x.2.1, x.2.2.2.2.2.2.1, x.2.2.2.2.2.2.2.1)) fun r1 => Option.bind (zN (x.1, x.2.1, x.2.2.2.2.2.2)) fun r2 => bif (!r2.2.2) then some (false, x.1, x.2.1, x.2.2.1, x.2.2.2.1, x.2.2.2.2.1, x.2.2.2.2.2.1) else Option.bind (J4 (r2.1, r2.2.1, x.2.2.1, x.2.2.2.1, x.2.2.2.2.1, x.2.2.2.2.2.1, r1)) fun r3 => some (true, r3)
theorem yyb : EV [yum, yy7, yDo] lpN 183 Tryz.f183 yq5 ymR ymM zd := fun x => by kernel_rfl
def yyc : QF := ⟨183, zd, okN (n := 0) Tryz.func183 trivial yyb⟩
def Zs (x : yuM) : Option y4Y :=
 Option.bind (yp (x.1, x.2.1, x.2.2.1, x.2.2.2.1, x.2.2.2.2.1, x.2.2.2.2.2.1)) fun r1 => Option.bind (YY (x.1, x.2.1, x.2.2.1, x.2.2.2.1, x.2.2.2.2.1, x.2.2.2.2.2.1, x.2.2.2.2.2.2.1, x.2.2.2.2.2.2.2.1)) fun r2 => Option.bind (bif (r2 == (0 : Int)) then Option.bind (zj x.2.2.2.2.2.2.2.2) fun r4 => some (!r4) else some false) fun u3 => bif u3 then bif ((4 : Int) != (0 : Int)) then some (r1.1, r1.2.1, r1.2.2.1, r1.2.2.2.1, r1.2.2.2.2.1, r1.2.2.2.2.2, (4 : Int)) else Option.bind (zM (x.2.2.2.1, x.2.2.2.2.2.2.2.2)) fun r5 => bif r5.2.2 then Option.bind (za (x.1, x.2.1, x.2.2.1, x.2.2.2.1, x.2.2.2.2.1, x.2.2.2.2.2.1, x.2.2.2.2.2.2.1)) fun r6 => if (0 : Int) ≤ r6 then if r6 < (List.length x.2.2.2.2.1 : Int) then if (0 : Int) ≤ r5.2.1 then if r5.2.1 < (List.length r5.1 : Int) then Option.bind (zd (r1.1, r1.2.1, r1.2.2.1, r5.1, r1.2.2.2.2.1, r1.2.2.2.2.2, x.2.2.2.2.2.2.2.1, (y8 x.2.2.2.2.1 r6).2.1, (1 : Int), r5.2.1, (yl r5.1 r5.2.1).1)) fun r7 => Option.bind (yG (x.1, x.2.1, x.2.2.1, x.2.2.2.1, x.2.2.2.2.1, x.2.2.2.2.2.1, r7.2.1, r7.2.2.1, r7.2.2.2.1, r7.2.2.2.2.1, r7.2.2.2.2.2.1, r7.2.2.2.2.2.2, r7.1)) fun r8 => some r8 else none else none else none else none else Option.bind (yG (x.1, x.2.1, x.2.2.1, x.2.2.2.1, x.2.2.2.2.1, x.2.2.2.2.2.1, r1.1, r1.2.1, r1.2.2.1, r5.1, r1.2.2.2.2.1, r1.2.2.2.2.2, false)) fun r9 => some r9 else bif (r2 != (0 : Int)) then some (r1.1, r1.2.1, r1.2.2.1, r1.2.2.2.1, r1.2.2.2.2.1, r1.2.2.2.2.2, r2) else Option.bind (zM (x.2.2.2.1, x.2.2.2.2.2.2.2.2)) fun r10 => bif r10.2.2 then Option.bind (za (x.1, x.2.1, x.2.2.1, x.2.2.2.1, x.2.2.2.2.1, x.2.2.2.2.2.1, x.2.2.2.2.2.2.1)) fun r11 => if (0 : Int) ≤ r11 then if r11 < (List.length x.2.2.2.2.1 : Int) then if (0 : Int) ≤ r10.2.1 then if r10.2.1 < (List.length r10.1 : Int) then Option.bind (zd (r1.1, r1.2.1, r1.2.2.1, r10.1, r1.2.2.2.2.1, r1.2.2.2.2.2, x.2.2.2.2.2.2.2.1, (y8 x.2.2.2.2.1 r11).2.1, (1 : Int), r10.2.1, (yl r10.1 r10.2.1).1)) fun r12 => Option.bind (yG (x.1, x.2.1, x.2.2.1, x.2.2.2.1, x.2.2.2.2.1, x.2.2.2.2.2.1, r12.2.1, r12.2.2.1, r12.2.2.2.1, r12.2.2.2.2.1, r12.2.2.2.2.2.1, r12.2.2.2.2.2.2, r12.1)) fun r13 => some r13 else none else none else none else none else Option.bind (yG (x.1, x.2.1, x.2.2.1, x.2.2.2.1, x.2.2.2.2.1, x.2.2.2.2.2.1, r1.1, r1.2.1, r1.2.2.1, r10.1, r1.2.2.2.2.1, r1.2.2.2.2.2, false)) fun r14 => some r14
theorem yDp : EV [q94, yxU, ygr, ymm, yxW, yuj, yyc] lpN 66 Tryz.f66 yAQ yuN y4Z Zs := fun x => by kernel_rfl
def q66 : QF := ⟨66, Zs, okN (n := 0) Tryz.func66 trivial yDp⟩
abbrev WR : Type := ynp
def WS (k0 : List yd → Option R) (again : WR → Option R) (t3 : WR) : Option R :=
 Option.bind (bif (decide (t3.2.1 ≥ (0 : Int))) then some (decide ((List.length t3.2.2 : Int) ≤ (List.length t3.1 : Int))) else some false) fun u2 => bif u2 then if (0 : Int) ≤ t3.2.1 then if t3.2.1 < (List.length t3.1 : Int) then if (List.length t3.2.2 + List.length ([(yD t3.1 t3.2.1).1] : List yd)) * 8 < 140737488355328 then if (0 : Int) ≤ t3.2.1 then if t3.2.1 < (List.length t3.1 : Int) then Option.bind (zy (t3.1, (yD t3.1 t3.2.1).2)) fun r3 => again (t3.1, r3, (t3.2.2 ++ ([(yD t3.1 t3.2.1).1] : List yd))) else none else none else none else none else none else k0 t3.2.2
def y03 k0 := zI (@WS R k0) Y0
def wd (x : yeX) : Option (List yd) :=
 Option.bind (zy x) fun r1 => y03 (fun x4 => some x4) (x.1, r1, ([] : List yd))
def yln : List QF := [yml]
def y7C (t : ynp) : St := ⟨zm t.1 :: dd 4 (.own 10000000 :: vI t.2.1 :: dd 29 []), [(10000000, .root true 3 yh t.2.2)]⟩
def yiI : Gk WR := fun κ => WS (fun t => κ (some 0) ⟨dd 5 (.own 10000000 :: dd 30 []), [(10000000, .root true 3 yh t)]⟩)
def ylo : Lp := lpC 3 (unG ynq y7C) @yiI lpN
theorem yt4 : LF yln ylo 324 3 Tryz.f324 0 y7C @yiI fun t => t := fun R κ again t => by kernel_rfl
theorem yt5 : LK yln ylo 324 Tryz.f324 0 := lkN (u := (unG ynq y7C)) (yr fun t => by kernel_rfl) yt4
theorem yyd : EV yln ylo 324 Tryz.f324 yq6 yeY [(.sl 3 yh)] wd := fun x => by kernel_rfl
def yBL : QF := ⟨324, wd, okN (n := 1) Tryz.func324 ⟨yt5, trivial⟩ yyd⟩
abbrev V7 : Type := ynr
def JL (k0 : List y9 → Option R) (again : V7 → Option R) (t4 : V7) : Option R :=
 bif (decide (t4.2.1 < (List.length t4.2.2.2 : Int))) then if (0 : Int) ≤ t4.2.1 then if t4.2.1 < (List.length t4.2.2.2 : Int) then bif ((y6 t4.2.2.2 t4.2.1).1 == t4.1) then if (0 : Int) ≤ t4.2.1 then if t4.2.1 < (List.length t4.2.2.2 : Int) then if (List.length t4.2.2.1 + List.length ([((y6 t4.2.2.2 t4.2.1).1, (y6 t4.2.2.2 t4.2.1).2.1, (y6 t4.2.2.2 t4.2.1).2.2.1, (y6 t4.2.2.2 t4.2.1).2.2.2.1, (y6 t4.2.2.2 t4.2.1).2.2.2.2)] : List y9)) * 40 < 140737488355328 then again (t4.1, (Go.IntKind.wrap .i64 (t4.2.1 + (1 : Int))), (t4.2.2.1 ++ ([((y6 t4.2.2.2 t4.2.1).1, (y6 t4.2.2.2 t4.2.1).2.1, (y6 t4.2.2.2 t4.2.1).2.2.1, (y6 t4.2.2.2 t4.2.1).2.2.2.1, (y6 t4.2.2.2 t4.2.1).2.2.2.2)] : List y9)), t4.2.2.2) else none else none else none else again (t4.1, (Go.IntKind.wrap .i64 (t4.2.1 + (1 : Int))), t4.2.2.1, t4.2.2.2) else none else none else k0 t4.2.2.1
def y04 k0 := zI (@JL R k0) Y0
def WT (x : ymI) : Option (List y9) :=
 Option.bind (yL (x.1, x.2.1)) fun r1 => y04 (fun x2 => some x2) (x.2.2, (0 : Int), ([] : List y9), r1)
def ylp : List QF := [ykG]
def y7D (t : ynr) : St := ⟨.dead :: vI t.1 :: dd 3 (.own 10000000 :: .own 10000001 :: vI t.2.1 :: dd 24 []), [(10000000, .root true 64 yi t.2.2.1), (10000001, .root true 64 yi t.2.2.2)]⟩
def yiJ : Gk V7 := fun κ => JL (fun t => κ (some 0) ⟨dd 5 (.own 10000000 :: dd 26 []), [(10000000, .root true 64 yi t)]⟩)
def ylq : Lp := lpC 4 (unG yns y7D) @yiJ lpN
theorem yt6 : LF ylp ylq 350 4 Tryz.f350 0 y7D @yiJ fun t => t := fun R κ again t => by kernel_rfl
theorem yt7 : LK ylp ylq 350 Tryz.f350 0 := lkN (u := (unG yns y7D)) (yr fun t => by kernel_rfl) yt6
theorem yye : EV ylp ylq 350 Tryz.f350 yq7 ymJ [(.sl 64 yi)] WT := fun x => by kernel_rfl
def yDq : QF := ⟨350, WT, okN (n := 1) Tryz.func350 ⟨yt7, trivial⟩ yye⟩
abbrev VP : Type := ynt
def wK (k0 : Bool → Option R) (k1 : Unit → Option R) (again : VP → Option R) (t2 : VP) : Option R :=
 bif (decide (t2.2.2 < (List.length t2.1 : Int))) then if (0 : Int) ≤ t2.2.2 then if t2.2.2 < (List.length t2.1 : Int) then bif ((zu t2.1 t2.2.2) == t2.2.1) then k0 true else again (t2.1, t2.2.1, (Go.IntKind.wrap .i64 (t2.2.2 + (1 : Int)))) else none else none else k1 ()
def y0X k0 k1 := zI (@wK R k0 k1) Y0
def KC (x : yuO) : Option Bool :=
 y0X (fun x1 => some x1) (fun x2 => some false) (x.1, x.2, (0 : Int))
def ylr : List QF := []
def y7E (t : ynt) : St := ⟨zg t.1 :: vI t.2.1 :: dd 3 (vI t.2.2 :: dd 12 []), []⟩
def yiK : Gk VP := fun κ => wK (fun t => κ none ⟨dd 4 (vB t :: dd 13 []), []⟩) (fun t => κ (some 0) ⟨dd 18 [], []⟩)
def yls : Lp := lpC 2 (unG ynu y7E) @yiK lpN
theorem yt8 : LF ylr yls 351 2 Tryz.f351 0 y7E @yiK fun t => t := fun R κ again t => by kernel_rfl
theorem yt9 : LK ylr yls 351 Tryz.f351 0 := lkN (u := (unG ynu y7E)) (yr fun t => by kernel_rfl) yt8
theorem yyf : EV ylr yls 351 Tryz.f351 yq8 yuP [.bool] KC := fun x => by kernel_rfl
def yDr : QF := ⟨351, KC, okN (n := 1) Tryz.func351 ⟨yt9, trivial⟩ yyf⟩
abbrev V8 : Type := ynv
def JM (k0 : yAw → Option R) (again : V8 → Option R) (t5 : V8) : Option R :=
 bif (decide (t5.2.2.1 < (List.length t5.2.2.2.2.2.2.2.2.2.2.2.2.2 : Int))) then if (0 : Int) ≤ t5.2.2.1 then if t5.2.2.1 < (List.length t5.2.2.2.2.2.2.2.2.2.2.2.2.2 : Int) then Option.bind (KC (t5.1, (y6 t5.2.2.2.2.2.2.2.2.2.2.2.2.2 t5.2.2.1).2.1)) fun r2 => Option.bind (bif r2 then Option.bind (bif (!t5.2.1) then some true else if (0 : Int) ≤ t5.2.2.1 then if t5.2.2.1 < (List.length t5.2.2.2.2.2.2.2.2.2.2.2.2.2 : Int) then some (decide ((y6 t5.2.2.2.2.2.2.2.2.2.2.2.2.2 t5.2.2.1).2.1 > t5.2.2.2.2.2.2.2.2.2.1)) else none else none) fun u4 => some u4 else some false) fun u3 => bif u3 then if (0 : Int) ≤ t5.2.2.1 then if t5.2.2.1 < (List.length t5.2.2.2.2.2.2.2.2.2.2.2.2.2 : Int) then again (t5.1, true, (Go.IntKind.wrap .i64 (t5.2.2.1 + (1 : Int))), t5.2.2.2.1, t5.2.2.2.2.1, t5.2.2.2.2.2.1, t5.2.2.2.2.2.2.1, t5.2.2.2.2.2.2.2.1, (y6 t5.2.2.2.2.2.2.2.2.2.2.2.2.2 t5.2.2.1).1, (y6 t5.2.2.2.2.2.2.2.2.2.2.2.2.2 t5.2.2.1).2.1, (y6 t5.2.2.2.2.2.2.2.2.2.2.2.2.2 t5.2.2.1).2.2.1, (y6 t5.2.2.2.2.2.2.2.2.2.2.2.2.2 t5.2.2.1).2.2.2.1, (y6 t5.2.2.2.2.2.2.2.2.2.2.2.2.2 t5.2.2.1).2.2.2.2, t5.2.2.2.2.2.2.2.2.2.2.2.2.2) else none else none else again (t5.1, t5.2.1, (Go.IntKind.wrap .i64 (t5.2.2.1 + (1 : Int))), t5.2.2.2.1, t5.2.2.2.2.1, t5.2.2.2.2.2.1, t5.2.2.2.2.2.2.1, t5.2.2.2.2.2.2.2.1, t5.2.2.2.2.2.2.2.2.1, t5.2.2.2.2.2.2.2.2.2.1, t5.2.2.2.2.2.2.2.2.2.2.1, t5.2.2.2.2.2.2.2.2.2.2.2.1, t5.2.2.2.2.2.2.2.2.2.2.2.2.1, t5.2.2.2.2.2.2.2.2.2.2.2.2.2) else none else none else k0 (t5.2.1, t5.2.2.2.1, t5.2.2.2.2.1, t5.2.2.2.2.2.1, t5.2.2.2.2.2.2.1, t5.2.2.2.2.2.2.2.1, t5.2.2.2.2.2.2.2.2.1, t5.2.2.2.2.2.2.2.2.2.1, t5.2.2.2.2.2.2.2.2.2.2.1, t5.2.2.2.2.2.2.2.2.2.2.2.1, t5.2.2.2.2.2.2.2.2.2.2.2.2.1)
def y05 k0 := zI (@JM R k0) Y0
def jA (x : ymS) : Option ycY :=
 Option.bind (WT (x.1, x.2.1, x.2.2.1)) fun r1 => y05 (fun x5 => some (x5.2.2.2.2.2.2.1, x5.2.2.2.2.2.2.2.1, x5.2.2.2.2.2.2.2.2.1, x5.2.2.2.2.2.2.2.2.2.1, x5.2.2.2.2.2.2.2.2.2.2, x5.1)) (x.2.2.2, false, (0 : Int), (0 : Int), (0 : Int), (0 : Int), (0 : Int), (0 : Int), (0 : Int), (0 : Int), (0 : Int), (0 : Int), (0 : Int), r1)
def ylt : List QF := [yDq, yDr]
def y7F (t : ynv) : St := ⟨dd 2 (zg t.1 :: dd 3 (.box 6 0 :: .dead :: .box 8 0 :: vB t.2.1 :: .own 10000000 :: vI t.2.2.1 :: dd 37 [])), [(6, .box [vI t.2.2.2.1, vI t.2.2.2.2.1, vI t.2.2.2.2.2.1, vI t.2.2.2.2.2.2.1, vI t.2.2.2.2.2.2.2.1]), (8, .box [vI t.2.2.2.2.2.2.2.2.1, vI t.2.2.2.2.2.2.2.2.2.1, vI t.2.2.2.2.2.2.2.2.2.2.1, vI t.2.2.2.2.2.2.2.2.2.2.2.1, vI t.2.2.2.2.2.2.2.2.2.2.2.2.1]), (10000000, .root true 64 yi t.2.2.2.2.2.2.2.2.2.2.2.2.2)]⟩
def yiL : Gk V8 := fun κ => JM (fun t => κ (some 0) ⟨dd 6 (.box 6 0 :: .dead :: .box 8 0 :: vB t.1 :: dd 39 []), [(6, .box [vI t.2.1, vI t.2.2.1, vI t.2.2.2.1, vI t.2.2.2.2.1, vI t.2.2.2.2.2.1]), (8, .box [vI t.2.2.2.2.2.2.1, vI t.2.2.2.2.2.2.2.1, vI t.2.2.2.2.2.2.2.2.1, vI t.2.2.2.2.2.2.2.2.2.1, vI t.2.2.2.2.2.2.2.2.2.2])]⟩)
def ylu : Lp := lpC 5 (unG ynw y7F) @yiL lpN
theorem yta : LF ylt ylu 325 5 Tryz.f325 0 y7F @yiL fun t => t := fun R κ again t => by kernel_rfl
theorem ytb : LK ylt ylu 325 Tryz.f325 0 := lkN (u := (unG ynw y7F)) (yr fun t => by kernel_rfl) yta
theorem yyg : EV ylt ylu 325 Tryz.f325 yq9 ymT ycZ jA := fun x => by kernel_rfl
def yBM : QF := ⟨325, jA, okN (n := 1) Tryz.func325 ⟨ytb, trivial⟩ yyg⟩
def Za (x : yfJ) : Option ycY :=
 Option.bind (wd (x.2.2.1, x.2.2.2.2)) fun r1 => bif ((List.length r1 : Int) == (0 : Int)) then some ((0 : Int), (0 : Int), (0 : Int), (0 : Int), (0 : Int), false) else if (0 : Int) ≤ (1 : Int) then if (1 : Int) ≤ (List.length r1 : Int) then if (List.length r1 : Int) ≤ (List.length r1 : Int) then Option.bind (jA (x.1, x.2.1, x.2.2.2.1, (List.drop (Int.toNat (1 : Int)) (List.take (Int.toNat (List.length r1 : Int)) r1)))) fun r2 => some r2 else none else none else none
theorem yyh : EV [yBL, yBM] lpN 257 Tryz.f257 yqa yfK ycZ Za := fun x => by kernel_rfl
def yBN : QF := ⟨257, Za, okN (n := 0) Tryz.func257 trivial yyh⟩
def zo (x : yfL) : Option yfI :=
 if (0 : Int) ≤ x.2.2.2.2.2.2.1 then if x.2.2.2.2.2.2.1 < (List.length x.2.2.2.2.1 : Int) then Option.bind (Za (x.1, x.2.1, x.2.2.1, x.2.2.2.2.2.2.2, (y8 x.2.2.2.2.1 x.2.2.2.2.2.2.1).2.1)) fun r1 => Option.bind (bif r1.2.2.2.2.2 then some (r1.2.2.1 == (1 : Int)) else some false) fun u2 => bif u2 then Option.bind (zd (x.1, x.2.1, x.2.2.1, x.2.2.2.1, x.2.2.2.2.1, x.2.2.2.2.2.1, x.2.2.2.2.2.2.2, (y8 x.2.2.2.2.1 x.2.2.2.2.2.2.1).2.1, (2 : Int), (0 : Int), (0 : Int))) fun r3 => some r3 else Option.bind (jz (x.1, x.2.1, x.2.2.2.2.2.2.2, (y8 x.2.2.2.2.1 x.2.2.2.2.2.2.1).2.1)) fun r4 => bif (!r4.2.2.2.2.2) then some (true, x.1, x.2.1, x.2.2.1, x.2.2.2.1, x.2.2.2.2.1, x.2.2.2.2.2.1) else Option.bind (zd (x.1, x.2.1, x.2.2.1, x.2.2.2.1, x.2.2.2.2.1, x.2.2.2.2.2.1, x.2.2.2.2.2.2.2, (y8 x.2.2.2.2.1 x.2.2.2.2.2.2.1).2.1, (0 : Int), (0 : Int), (0 : Int))) fun r5 => some r5 else none else none
theorem yyi : EV [yyc, yBN, yy7] lpN 186 Tryz.f186 yqb yfM ymM zo := fun x => by kernel_rfl
def yBO : QF := ⟨186, zo, okN (n := 0) Tryz.func186 trivial yyi⟩
def Yn (x : y2W) : Option y4Y :=
 Option.bind (yp (x.1, x.2.1, x.2.2.1, x.2.2.2.1, x.2.2.2.2.1, x.2.2.2.2.2.1)) fun r1 => Option.bind (YY x) fun r2 => bif (r2 != (0 : Int)) then some (r1.1, r1.2.1, r1.2.2.1, r1.2.2.2.1, r1.2.2.2.2.1, r1.2.2.2.2.2, r2) else Option.bind (za (x.1, x.2.1, x.2.2.1, x.2.2.2.1, x.2.2.2.2.1, x.2.2.2.2.2.1, x.2.2.2.2.2.2.1)) fun r3 => Option.bind (zo (r1.1, r1.2.1, r1.2.2.1, r1.2.2.2.1, r1.2.2.2.2.1, r1.2.2.2.2.2, r3, x.2.2.2.2.2.2.2)) fun r4 => Option.bind (yG (x.1, x.2.1, x.2.2.1, x.2.2.2.1, x.2.2.2.2.1, x.2.2.2.2.2.1, r4.2.1, r4.2.2.1, r4.2.2.2.1, r4.2.2.2.2.1, r4.2.2.2.2.2.1, r4.2.2.2.2.2.2, r4.1)) fun r5 => some r5
theorem yDs : EV [q94, ygr, ymm, yxW, yBO] lpN 70 Tryz.f70 yAR y2X y4Z Yn := fun x => by kernel_rfl
def q70 : QF := ⟨70, Yn, okN (n := 0) Tryz.func70 trivial yDs⟩
end
end Go.Proofs.YthgdjjdigalckaaGreat.XB
