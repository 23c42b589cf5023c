/- What functions compute, and that they do; part 0 of C; by a program (dec.py). No condition. -/
import Derived.Test.YthgdjjdigalckaaGreatXC
import Derived.Test.YthgdjjdigalckaaGreatHC0
set_option linter.all false
namespace Go.Proofs.YthgdjjdigalckaaGreat.XC
open Go.Proofs.YthgdjjdigalckaaGreat.R
set_option maxRecDepth 100000
noncomputable section
variable {R : Type}
def y0J (x : List Vh) : Option Bool :=
 some (decide ((List.length x : Int) > (1048576 : Int)))
theorem ev9 : EV [] lpN 9 Tryz.f9 sg9 [(.sl 5 Yo)] [.bool] y0J := fun x => by kernel_rfl
def q9 : QF := ⟨9, y0J, okN (n := 0) Tryz.func9 trivial ev9⟩
abbrev kF : Type := Qz0
def ZD (k0 : Bool → Option R) (k1 : Unit → Option R) (again : kF → Option R) (t4 : kF) : Option R :=
 bif (decide (t4.2.2 < (List.length t4.1 : Int))) then if (0 : Int) ≤ t4.2.2 then if t4.2.2 < (List.length t4.1 : Int) then if (0 : Int) ≤ t4.2.2 then if t4.2.2 < (List.length t4.2.1 : Int) then bif ((zl t4.1 t4.2.2) != (zl t4.2.1 t4.2.2)) then k0 false else again (t4.1, t4.2.1, (Go.IntKind.wrap .i64 (t4.2.2 + (1 : Int)))) else none else none else none else none else k1 ()
def qh k0 k1 := zx (@ZD R k0 k1) zO
def J5 (x : Qz1) : Option Bool :=
 bif ((List.length x.1 : Int) != (List.length x.2 : Int)) then some false else qh (fun x1 => some x1) (fun x2 => some true) (x.1, x.2, (0 : Int))
def ywm : List QF := []
def yb1 (t : Qz0) : St := ⟨yU t.1 :: yU t.2.1 :: dd 3 (vI t.2.2 :: dd 20 []), []⟩
def yrF : Gk kF := fun κ => ZD (fun t => κ none ⟨dd 4 (vB t :: dd 21 []), []⟩) (fun t => κ (some 0) ⟨dd 26 [], []⟩)
def ywn : Lp := lpC 4 (unG qz0 yb1) @yrF lpN
theorem ywo : LF ywm ywn 27 4 Tryz.f27 0 yb1 @yrF fun t => t := fun R κ again t => by kernel_rfl
theorem ywp : LK ywm ywn 27 Tryz.f27 0 := lkN (u := (unG qz0 yb1)) (yp fun t => by kernel_rfl) ywo
theorem yDe : EV ywm ywn 27 Tryz.f27 yBg qz1 [.bool] J5 := fun x => by kernel_rfl
def q27 : QF := ⟨27, J5, okN (n := 1) Tryz.func27 ⟨ywp, trivial⟩ yDe⟩
abbrev kG : Type := Qz2
def ZE (k0 : Bool → Option R) (k1 : Unit → Option R) (again : kG → Option R) (t4 : kG) : Option R :=
 bif (decide (t4.2.2 < (List.length t4.1 : Int))) then if (0 : Int) ≤ t4.2.2 then if t4.2.2 < (List.length t4.1 : Int) then if (0 : Int) ≤ t4.2.2 then if t4.2.2 < (List.length t4.2.1 : Int) then bif (!(((y0 t4.1 t4.2.2).1 == (y0 t4.2.1 t4.2.2).1) && (((y0 t4.1 t4.2.2).2.1 == (y0 t4.2.1 t4.2.2).2.1) && (((y0 t4.1 t4.2.2).2.2.1 == (y0 t4.2.1 t4.2.2).2.2.1) && (((y0 t4.1 t4.2.2).2.2.2.1 == (y0 t4.2.1 t4.2.2).2.2.2.1) && (((y0 t4.1 t4.2.2).2.2.2.2 == (y0 t4.2.1 t4.2.2).2.2.2.2) && true)))))) then k0 false else again (t4.1, t4.2.1, (Go.IntKind.wrap .i64 (t4.2.2 + (1 : Int)))) else none else none else none else none else k1 ()
def qi k0 k1 := zx (@ZE R k0 k1) zO
def J6 (x : Qz3) : Option Bool :=
 bif ((List.length x.1 : Int) != (List.length x.2 : Int)) then some false else qi (fun x1 => some x1) (fun x2 => some true) (x.1, x.2, (0 : Int))
def yjV : List QF := []
def y6J (t : Qz2) : St := ⟨qf t.1 :: qf t.2.1 :: dd 3 (vI t.2.2 :: dd 20 []), []⟩
def yi3 : Gk kG := fun κ => ZE (fun t => κ none ⟨dd 4 (vB t :: dd 21 []), []⟩) (fun t => κ (some 0) ⟨dd 26 [], []⟩)
def yjW : Lp := lpC 4 (unG qz2 y6J) @yi3 lpN
theorem yrG : LF yjV yjW 311 4 Tryz.f311 0 y6J @yi3 fun t => t := fun R κ again t => by kernel_rfl
theorem yrH : LK yjV yjW 311 Tryz.f311 0 := lkN (u := (unG qz2 y6J)) (yp fun t => by kernel_rfl) yrG
theorem ywq : EV yjV yjW 311 Tryz.f311 yp2 qz3 [.bool] J6 := fun x => by kernel_rfl
def yDf : QF := ⟨311, J6, okN (n := 1) Tryz.func311 ⟨yrH, trivial⟩ ywq⟩
abbrev kH : Type := Qz4
def ZF (k0 : Bool → Option R) (k1 : Unit → Option R) (again : kH → Option R) (t4 : kH) : Option R :=
 bif (decide (t4.1 < (List.length t4.2.1 : Int))) then if (0 : Int) ≤ t4.1 then if t4.1 < (List.length t4.2.1 : Int) then if (0 : Int) ≤ t4.1 then if t4.1 < (List.length t4.2.2 : Int) then Option.bind (J6 ((yo t4.2.1 t4.1), (yo t4.2.2 t4.1))) fun r1 => bif (!r1) then k0 false else again ((Go.IntKind.wrap .i64 (t4.1 + (1 : Int))), t4.2.1, t4.2.2) else none else none else none else none else k1 ()
def qj k0 k1 := zx (@ZF R k0 k1) zO
def J7 (x : Qz5) : Option Bool :=
 bif ((List.length x.1 : Int) != (List.length x.2 : Int)) then some false else qj (fun x2 => some x2) (fun x3 => some true) ((0 : Int), x.1, x.2)
def yjX : List QF := [yDf]
def y6K (t : Qz4) : St := ⟨dd 2 (.box 2 0 :: .box 3 0 :: .dead :: vI t.1 :: dd 26 []), [(2, .box [Yd t.2.1]), (3, .box [Yd t.2.2])]⟩
def yi4 : Gk kH := fun κ => ZF (fun t => κ none ⟨dd 4 (vB t :: dd 27 []), []⟩) (fun t => κ (some 0) ⟨dd 32 [], []⟩)
def yjY : Lp := lpC 4 (unG qz4 y6K) @yi4 lpN
theorem yrI : LF yjX yjY 237 4 Tryz.f237 0 y6K @yi4 fun t => t := fun R κ again t => by kernel_rfl
theorem yrJ : LK yjX yjY 237 Tryz.f237 0 := lkN (u := (unG qz4 y6K)) (yp fun t => by kernel_rfl) yrI
theorem ywr : EV yjX yjY 237 Tryz.f237 yp3 qz5 [.bool] J7 := fun x => by kernel_rfl
def yDg : QF := ⟨237, J7, okN (n := 1) Tryz.func237 ⟨yrJ, trivial⟩ ywr⟩
abbrev kI : Type := Qz6
def ZG (k0 : Bool → Option R) (k1 : Unit → Option R) (again : kI → Option R) (t4 : kI) : Option R :=
 bif (decide (t4.1 < (List.length t4.2.2.1 : Int))) then if (0 : Int) ≤ t4.1 then if t4.1 < (List.length t4.2.2.1 : Int) then if (0 : Int) ≤ t4.1 then if t4.1 < (List.length t4.2.2.2.2 : Int) then Option.bind (J7 ((yh t4.2.2.1 t4.1), (yh t4.2.2.2.2 t4.1))) fun r3 => bif (!r3) then k0 false else again ((Go.IntKind.wrap .i64 (t4.1 + (1 : Int))), t4.2.1, t4.2.2.1, t4.2.2.2.1, t4.2.2.2.2) else none else none else none else none else k1 ()
def qk k0 k1 := zx (@ZG R k0 k1) zO
def J8 (x : Qz7) : Option Bool :=
 Option.bind (J5 (x.1, x.2.2.1)) fun r1 => Option.bind (bif (!r1) then some true else some ((List.length x.2.1 : Int) != (List.length x.2.2.2 : Int))) fun u2 => bif u2 then some false else qk (fun x4 => some x4) (fun x5 => some true) ((0 : Int), x.1, x.2.1, x.2.2.1, x.2.2.2)
def yjZ : List QF := [q27, yDg]
def y6L (t : Qz6) : St := ⟨dd 2 (.box 2 0 :: .box 3 0 :: .dead :: vI t.1 :: dd 34 []), [(2, .box [yU t.2.1, yt t.2.2.1]), (3, .box [yU t.2.2.2.1, yt t.2.2.2.2])]⟩
def yi5 : Gk kI := fun κ => ZG (fun t => κ none ⟨dd 4 (vB t :: dd 35 []), []⟩) (fun t => κ (some 0) ⟨dd 40 [], []⟩)
def yk0 : Lp := lpC 4 (unG qz6 y6L) @yi5 lpN
theorem yrK : LF yjZ yk0 107 4 Tryz.f107 0 y6L @yi5 fun t => t := fun R κ again t => by kernel_rfl
theorem yrL : LK yjZ yk0 107 Tryz.f107 0 := lkN (u := (unG qz6 y6L)) (yp fun t => by kernel_rfl) yrK
theorem yws : EV yjZ yk0 107 Tryz.f107 yp4 qz7 [.bool] J8 := fun x => by kernel_rfl
def yDh : QF := ⟨107, J8, okN (n := 1) Tryz.func107 ⟨yrL, trivial⟩ yws⟩
abbrev kJ : Type := Qz8
def ZH (k0 : Bool → Option R) (k1 : Unit → Option R) (again : kJ → Option R) (t4 : kJ) : Option R :=
 bif (decide (t4.2.2 < (List.length t4.1 : Int))) then if (0 : Int) ≤ t4.2.2 then if t4.2.2 < (List.length t4.1 : Int) then if (0 : Int) ≤ t4.2.2 then if t4.2.2 < (List.length t4.2.1 : Int) then bif (!(((yC t4.1 t4.2.2).1 == (yC t4.2.1 t4.2.2).1) && (((yC t4.1 t4.2.2).2 == (yC t4.2.1 t4.2.2).2) && true))) then k0 false else again (t4.1, t4.2.1, (Go.IntKind.wrap .i64 (t4.2.2 + (1 : Int)))) else none else none else none else none else k1 ()
def qm k0 k1 := zx (@ZH R k0 k1) zO
def J9 (x : Qz9) : Option Bool :=
 bif ((List.length x.1 : Int) != (List.length x.2 : Int)) then some false else qm (fun x1 => some x1) (fun x2 => some true) (x.1, x.2, (0 : Int))
def yk1 : List QF := []
def y6M (t : Qz8) : St := ⟨za t.1 :: za t.2.1 :: dd 3 (vI t.2.2 :: dd 20 []), []⟩
def yi6 : Gk kJ := fun κ => ZH (fun t => κ none ⟨dd 4 (vB t :: dd 21 []), []⟩) (fun t => κ (some 0) ⟨dd 26 [], []⟩)
def yk2 : Lp := lpC 4 (unG qz8 y6M) @yi6 lpN
theorem yrM : LF yk1 yk2 108 4 Tryz.f108 0 y6M @yi6 fun t => t := fun R κ again t => by kernel_rfl
theorem yrN : LK yk1 yk2 108 Tryz.f108 0 := lkN (u := (unG qz8 y6M)) (yp fun t => by kernel_rfl) yrM
theorem ywt : EV yk1 yk2 108 Tryz.f108 yp5 qz9 [.bool] J9 := fun x => by kernel_rfl
def yDi : QF := ⟨108, J9, okN (n := 1) Tryz.func108 ⟨yrN, trivial⟩ ywt⟩
abbrev Wd : Type := yAh
def Z2 (k0 : Bool → Option R) (k1 : Unit → Option R) (again : Wd → Option R) (t4 : Wd) : Option R :=
 bif (decide (t4.2.2 < (List.length t4.1 : Int))) then if (0 : Int) ≤ t4.2.2 then if t4.2.2 < (List.length t4.1 : Int) then if (0 : Int) ≤ t4.2.2 then if t4.2.2 < (List.length t4.2.1 : Int) then bif (!(((yA t4.1 t4.2.2).1 == (yA t4.2.1 t4.2.2).1) && (((yA t4.1 t4.2.2).2.1 == (yA t4.2.1 t4.2.2).2.1) && (((yA t4.1 t4.2.2).2.2 == (yA t4.2.1 t4.2.2).2.2) && true)))) then k0 false else again (t4.1, t4.2.1, (Go.IntKind.wrap .i64 (t4.2.2 + (1 : Int)))) else none else none else none else none else k1 ()
def Vp k0 k1 := zx (@Z2 R k0 k1) zO
def jq (x : yCK) : Option Bool :=
 bif ((List.length x.1 : Int) != (List.length x.2 : Int)) then some false else Vp (fun x1 => some x1) (fun x2 => some true) (x.1, x.2, (0 : Int))
def yk3 : List QF := []
def y6N (t : yAh) : St := ⟨yL t.1 :: yL t.2.1 :: dd 3 (vI t.2.2 :: dd 20 []), []⟩
def yi7 : Gk Wd := fun κ => Z2 (fun t => κ none ⟨dd 4 (vB t :: dd 21 []), []⟩) (fun t => κ (some 0) ⟨dd 26 [], []⟩)
def yk4 : Lp := lpC 4 (unG yAi y6N) @yi7 lpN
theorem yrO : LF yk3 yk4 109 4 Tryz.f109 0 y6N @yi7 fun t => t := fun R κ again t => by kernel_rfl
theorem yrP : LK yk3 yk4 109 Tryz.f109 0 := lkN (u := (unG yAi y6N)) (yp fun t => by kernel_rfl) yrO
theorem ywu : EV yk3 yk4 109 Tryz.f109 yp6 yCL [.bool] jq := fun x => by kernel_rfl
def yDj : QF := ⟨109, jq, okN (n := 1) Tryz.func109 ⟨yrP, trivial⟩ ywu⟩
abbrev kK : Type := yvC
def ZI (k0 : Bool → Option R) (k1 : Unit → Option R) (again : kK → Option R) (t4 : kK) : Option R :=
 bif (decide (t4.1 < (List.length t4.2.2.2.2.2.1 : Int))) then if (0 : Int) ≤ t4.1 then if t4.1 < (List.length t4.2.2.2.2.2.1 : Int) then if (0 : Int) ≤ t4.1 then if t4.1 < (List.length t4.2.2.2.2.2.2.2.2.2.2.2.1 : Int) then bif (!((ByteArray.toList ((yq t4.2.2.2.2.2.1 t4.1).1) == ByteArray.toList ((yq t4.2.2.2.2.2.2.2.2.2.2.2.1 t4.1).1)) && (((yq t4.2.2.2.2.2.1 t4.1).2.1 == (yq t4.2.2.2.2.2.2.2.2.2.2.2.1 t4.1).2.1) && (((yq t4.2.2.2.2.2.1 t4.1).2.2.1 == (yq t4.2.2.2.2.2.2.2.2.2.2.2.1 t4.1).2.2.1) && (((yq t4.2.2.2.2.2.1 t4.1).2.2.2 == (yq t4.2.2.2.2.2.2.2.2.2.2.2.1 t4.1).2.2.2) && true))))) then k0 false else again ((Go.IntKind.wrap .i64 (t4.1 + (1 : Int))), t4.2.1, t4.2.2.1, t4.2.2.2.1, t4.2.2.2.2.1, t4.2.2.2.2.2.1, t4.2.2.2.2.2.2.1, t4.2.2.2.2.2.2.2.1, t4.2.2.2.2.2.2.2.2.1, t4.2.2.2.2.2.2.2.2.2.1, t4.2.2.2.2.2.2.2.2.2.2.1, t4.2.2.2.2.2.2.2.2.2.2.2.1, t4.2.2.2.2.2.2.2.2.2.2.2.2) else none else none else none else none else k1 ()
def kL k0 k1 := zx (@ZI R k0 k1) zO
def ZJ (x : yAk) : Option Bool :=
 Option.bind (J8 (x.1, x.2.1, x.2.2.2.2.2.2.1, x.2.2.2.2.2.2.2.1)) fun r1 => Option.bind (bif (!r1) then some true else Option.bind (J9 (x.2.2.1, x.2.2.2.2.2.2.2.2.1)) fun r3 => some (!r3)) fun u2 => Option.bind (bif u2 then some true else Option.bind (jq (x.2.2.2.1, x.2.2.2.2.2.2.2.2.2.1)) fun r5 => some (!r5)) fun u4 => Option.bind (bif u4 then some true else some ((List.length x.2.2.2.2.1 : Int) != (List.length x.2.2.2.2.2.2.2.2.2.2.1 : Int))) fun u6 => Option.bind (bif u6 then some true else some (x.2.2.2.2.2.1 != x.2.2.2.2.2.2.2.2.2.2.2)) fun u7 => bif u7 then some false else kL (fun x8 => some x8) (fun x9 => some true) ((0 : Int), x.1, x.2.1, x.2.2.1, x.2.2.2.1, x.2.2.2.2.1, x.2.2.2.2.2.1, x.2.2.2.2.2.2.1, x.2.2.2.2.2.2.2.1, x.2.2.2.2.2.2.2.2.1, x.2.2.2.2.2.2.2.2.2.1, x.2.2.2.2.2.2.2.2.2.2.1, x.2.2.2.2.2.2.2.2.2.2.2)
def ywv : List QF := [yDh, yDi, yDj]
def yb2 (t : yvC) : St := ⟨dd 2 (.box 2 0 :: .box 3 0 :: .dead :: vI t.1 :: dd 56 []), [(2, .box [yU t.2.1, yt t.2.2.1, za t.2.2.2.1, yL t.2.2.2.2.1, zP t.2.2.2.2.2.1, vI t.2.2.2.2.2.2.1]), (3, .box [yU t.2.2.2.2.2.2.2.1, yt t.2.2.2.2.2.2.2.2.1, za t.2.2.2.2.2.2.2.2.2.1, yL t.2.2.2.2.2.2.2.2.2.2.1, zP t.2.2.2.2.2.2.2.2.2.2.2.1, vI t.2.2.2.2.2.2.2.2.2.2.2.2])]⟩
def yrQ : Gk kK := fun κ => ZI (fun t => κ none ⟨dd 4 (vB t :: dd 57 []), []⟩) (fun t => κ (some 0) ⟨dd 62 [], []⟩)
def yww : Lp := lpC 4 (unG yAj yb2) @yrQ lpN
theorem ywx : LF ywv yww 17 4 Tryz.f17 0 yb2 @yrQ fun t => t := fun R κ again t => by kernel_rfl
theorem ywy : LK ywv yww 17 Tryz.f17 0 := lkN (u := (unG yAj yb2)) (yp fun t => by kernel_rfl) ywx
theorem yDk : EV ywv yww 17 Tryz.f17 yBh yCM [.bool] ZJ := fun x => by kernel_rfl
def q17 : QF := ⟨17, ZJ, okN (n := 1) Tryz.func17 ⟨ywy, trivial⟩ yDk⟩
abbrev vq : Type := yhZ ⊕ Qz4
def YD (k0 : Unit → Option R) (k1 : List ya → Option R) (again : vq → Option R) : vq → Option R
 | .inl t3 => bif (decide (t3.1 < (List.length t3.2 : Int))) then if (0 : Int) ≤ t3.1 then if t3.1 < (List.length t3.2 : Int) then if (List.length ([] : List y9) + List.length (yo t3.2 t3.1)) * 40 < 140737488355328 then if List.length ([(([] : List y9) ++ (yo t3.2 t3.1))] : List ya) * 24 < 140737488355328 then again (Sum.inr ((Go.IntKind.wrap .i64 (t3.1 + (1 : Int))), t3.2, ([(([] : List y9) ++ (yo t3.2 t3.1))] : List ya))) else none else none else none else none else k0 ()
 | .inr t3 => bif (decide (t3.1 < (List.length t3.2.1 : Int))) then if (0 : Int) ≤ t3.1 then if t3.1 < (List.length t3.2.1 : Int) then if (List.length ([] : List y9) + List.length (yo t3.2.1 t3.1)) * 40 < 140737488355328 then if (List.length t3.2.2 + List.length ([(([] : List y9) ++ (yo t3.2.1 t3.1))] : List ya)) * 24 < 140737488355328 then again (Sum.inr ((Go.IntKind.wrap .i64 (t3.1 + (1 : Int))), t3.2.1, (t3.2.2 ++ ([(([] : List y9) ++ (yo t3.2.1 t3.1))] : List ya)))) else none else none else none else none else k1 t3.2.2
def QK k0 k1 := zx (@YD R k0 k1) zO
def zh (x : List ya) : Option (List ya) :=
 QK (fun x1 => some ([] : List ya)) (fun x2 => some x2) (Sum.inl ((0 : Int), x))
def yey : List QF := []
def y3z (t : yhZ) : St := ⟨.dead :: .box 1 0 :: .box 2 0 :: .box 3 0 :: vI t.1 :: dd 21 [], [(1, .box [Yd t.2]), (2, .box [.nils]), (3, .box [.nils])]⟩
theorem ygu : ∀ s t, unG yuX y3z s = some t → y3z t = s := yp fun t => by kernel_rfl
def y3A (t : Qz4) : St := ⟨.dead :: .box 1 0 :: .box 2 0 :: .box 3 0 :: vI t.1 :: dd 21 [], [(1, .box [Yd t.2.1]), (2, .box [.nils]), (3, .box [.own 10000000]), (10000000, .root true 58 yn t.2.2)]⟩
theorem ygv : ∀ s t, unG qz4 y3A s = some t → y3A t = s := yp fun t => by kernel_rfl
def y3B : (yhZ ⊕ Qz4) → St := Sum.elim y3z y3A
def y6O (s : St) : Option (yhZ ⊕ Qz4) := ((unG yuX y3z s).map Sum.inl).or (((unG qz4 y3A) s).map Sum.inr)
theorem ygw : ∀ s t, y6O s = some t → y3B t = s := y3g ygu ygv
def ycf : Gk vq := fun κ => YD (fun t => κ (some 0) ⟨dd 2 (.box 2 0 :: .box 3 0 :: dd 22 []), [(2, .box [.nils]), (3, .box [.nils])]⟩) (fun t => κ (some 0) ⟨dd 2 (.box 2 0 :: .box 3 0 :: dd 22 []), [(2, .box [.nils]), (3, .box [.own 10000000]), (10000000, .root true 58 yn t)]⟩)
def yez : Lp := lpC 3 y6O @ycf lpN
theorem ygx : LF yey yez 299 3 Tryz.f299 0 y3B @ycf fun v : yhZ => .inl v := fun R κ again v => by kernel_rfl
theorem ygy : LF yey yez 299 3 Tryz.f299 0 y3B @ycf fun v : Qz4 => .inr v := fun R κ again v => by kernel_rfl
theorem yrR : LF yey yez 299 3 Tryz.f299 0 y3B @ycf fun t => t := (LC.sum ygx ygy)
theorem yrS : LK yey yez 299 Tryz.f299 0 := lkN (u := y6O) ygw yrR
theorem ywz : EV yey yez 299 Tryz.f299 yp7 [(.sl 58 yn)] [(.sl 58 yn)] zh := fun x => by kernel_rfl
def yBV : QF := ⟨299, zh, okN (n := 1) Tryz.func299 ⟨yrS, trivial⟩ ywz⟩
abbrev vr : Type := yn3 ⊕ Qz6
def YE (k0 : List ye → Option R) (k1 : y4D → Option R) (again : vr → Option R) : vr → Option R
 | .inl t3 => bif (decide (t3.1 < (List.length t3.2.2.1 : Int))) then if (0 : Int) ≤ t3.1 then if t3.1 < (List.length t3.2.2.1 : Int) then Option.bind (zh (yh t3.2.2.1 t3.1)) fun r1 => if List.length ([r1] : List y8) * 24 < 140737488355328 then again (Sum.inr ((Go.IntKind.wrap .i64 (t3.1 + (1 : Int))), t3.2.1, t3.2.2.1, t3.2.2.2, ([r1] : List y8))) else none else none else none else k0 t3.2.2.2
 | .inr t3 => bif (decide (t3.1 < (List.length t3.2.2.1 : Int))) then if (0 : Int) ≤ t3.1 then if t3.1 < (List.length t3.2.2.1 : Int) then Option.bind (zh (yh t3.2.2.1 t3.1)) fun r2 => if (List.length t3.2.2.2.2 + List.length ([r2] : List y8)) * 24 < 140737488355328 then again (Sum.inr ((Go.IntKind.wrap .i64 (t3.1 + (1 : Int))), t3.2.1, t3.2.2.1, t3.2.2.2.1, (t3.2.2.2.2 ++ ([r2] : List y8)))) else none else none else none else k1 t3.2.2.2
def QL k0 k1 := zx (@YE R k0 k1) zO
def Z3 (x : y4D) : Option y4D :=
 if (List.length ([] : List ye) + List.length x.1) * 8 < 140737488355328 then QL (fun x3 => some (x3, ([] : List y8))) (fun x4 => some x4) (Sum.inl ((0 : Int), x.1, x.2, (([] : List ye) ++ x.1))) else none
def yeA : List QF := [yBV]
def y3C (t : yn3) : St := ⟨.dead :: .box 1 0 :: .box 2 0 :: .box 3 0 :: vI t.1 :: dd 24 [], [(1, .box [yU t.2.1, yt t.2.2.1]), (2, .box [.nils, .nils]), (3, .box [.own 10000000, .nils]), (10000000, .root true 3 yg t.2.2.2)]⟩
theorem ygz : ∀ s t, unG yAl y3C s = some t → y3C t = s := yp fun t => by kernel_rfl
def y3D (t : Qz6) : St := ⟨.dead :: .box 1 0 :: .box 2 0 :: .box 3 0 :: vI t.1 :: dd 24 [], [(1, .box [yU t.2.1, yt t.2.2.1]), (2, .box [.nils, .nils]), (3, .box [.own 10000000, .own 10000001]), (10000000, .root true 3 yg t.2.2.2.1), (10000001, .root true 140 yj t.2.2.2.2)]⟩
theorem ygA : ∀ s t, unG qz6 y3D s = some t → y3D t = s := yp fun t => by kernel_rfl
def y3E : (yn3 ⊕ Qz6) → St := Sum.elim y3C y3D
def y6P (s : St) : Option (yn3 ⊕ Qz6) := ((unG yAl y3C s).map Sum.inl).or (((unG qz6 y3D) s).map Sum.inr)
theorem ygB : ∀ s t, y6P s = some t → y3E t = s := y3g ygz ygA
def ycg : Gk vr := fun κ => YE (fun t => κ (some 0) ⟨dd 2 (.box 2 0 :: .box 3 0 :: dd 25 []), [(2, .box [.nils, .nils]), (3, .box [.own 10000000, .nils]), (10000000, .root true 3 yg t)]⟩) (fun t => κ (some 0) ⟨dd 2 (.box 2 0 :: .box 3 0 :: dd 25 []), [(2, .box [.nils, .nils]), (3, .box [.own 10000000, .own 10000001]), (10000000, .root true 3 yg t.1), (10000001, .root true 140 yj t.2)]⟩)
def yeB : Lp := lpC 3 y6P @ycg lpN
theorem ygC : LF yeA yeB 210 3 Tryz.f210 0 y3E @ycg fun v : yn3 => .inl v := fun R κ again v => by kernel_rfl
theorem ygD : LF yeA yeB 210 3 Tryz.f210 0 y3E @ycg fun v : Qz6 => .inr v := fun R κ again v => by kernel_rfl
theorem yrT : LF yeA yeB 210 3 Tryz.f210 0 y3E @ycg fun t => t := (LC.sum ygC ygD)
theorem yrU : LK yeA yeB 210 Tryz.f210 0 := lkN (u := y6P) ygB yrT
theorem ywA : EV yeA yeB 210 Tryz.f210 yp8 W8 W8 Z3 := fun x => by kernel_rfl
def ywB : QF := ⟨210, Z3, okN (n := 1) Tryz.func210 ⟨yrU, trivial⟩ ywA⟩
def Yv (x : List yb) : Option (List yb) :=
 if (List.length ([] : List yb) + List.length x) * 24 < 140737488355328 then some (([] : List yb) ++ x) else none
theorem ywC : EV [] lpN 211 Tryz.f211 yp9 [(.sl 113 yf)] [(.sl 113 yf)] Yv := fun x => by kernel_rfl
def ywD : QF := ⟨211, Yv, okN (n := 0) Tryz.func211 trivial ywC⟩
def ym (x : Qv) : Option Qv :=
 Option.bind (Z3 (x.1, x.2.1)) fun r1 => if (List.length ([] : List yd) + List.length x.2.2.1) * 16 < 140737488355328 then Option.bind (Yv x.2.2.2.1) fun r2 => if (List.length ([] : List yl) + List.length x.2.2.2.2.1) * 40 < 140737488355328 then some (r1.1, r1.2, (([] : List yd) ++ x.2.2.1), r2, (([] : List yl) ++ x.2.2.2.2.1), x.2.2.2.2.2) else none else none
theorem yDl : EV [ywB, ywD] lpN 94 Tryz.f94 yBi zY zY ym := fun x => by kernel_rfl
def q94 : QF := ⟨94, ym, okN (n := 0) Tryz.func94 trivial yDl⟩
abbrev VD : Type := yAm
def w9 (k0 : Int → Option R) (k1 : Unit → Option R) (again : VD → Option R) (t2 : VD) : Option R :=
 bif (decide (t2.2.1 < (List.length t2.2.2.2.2.2.2.1 : Int))) then if (0 : Int) ≤ t2.2.1 then if t2.2.1 < (List.length t2.2.2.2.2.2.2.1 : Int) then bif ((ByteArray.toList ((yq t2.2.2.2.2.2.2.1 t2.2.1).1)) == (ByteArray.toList t2.1)) then k0 t2.2.1 else again (t2.1, (Go.IntKind.wrap .i64 (t2.2.1 + (1 : Int))), t2.2.2.1, t2.2.2.2.1, t2.2.2.2.2.1, t2.2.2.2.2.2.1, t2.2.2.2.2.2.2.1, t2.2.2.2.2.2.2.2) else none else none else k1 ()
def y14 k0 k1 := zx (@w9 R k0 k1) zO
def zm (x : yuY) : Option Int :=
 y14 (fun x1 => some x1) (fun x2 => some (-1 : Int)) (x.2.2.2.2.2.2, (0 : Int), x.1, x.2.1, x.2.2.1, x.2.2.2.1, x.2.2.2.2.1, x.2.2.2.2.2.1)
def yk5 : List QF := []
def y6Q (t : yAm) : St := ⟨.dead :: vS t.1 :: .box 2 0 :: dd 2 (vI t.2.1 :: dd 16 []), [(2, .box [yU t.2.2.1, yt t.2.2.2.1, za t.2.2.2.2.1, yL t.2.2.2.2.2.1, zP t.2.2.2.2.2.2.1, vI t.2.2.2.2.2.2.2])]⟩
def yi8 : Gk VD := fun κ => w9 (fun t => κ none ⟨dd 4 (vI t :: dd 17 []), []⟩) (fun t => κ (some 0) ⟨dd 22 [], []⟩)
def yk6 : Lp := lpC 2 (unG yAn y6Q) @yi8 lpN
theorem yrV : LF yk5 yk6 174 2 Tryz.f174 0 y6Q @yi8 fun t => t := fun R κ again t => by kernel_rfl
theorem yrW : LK yk5 yk6 174 Tryz.f174 0 := lkN (u := (unG yAn y6Q)) (yp fun t => by kernel_rfl) yrV
theorem ywE : EV yk5 yk6 174 Tryz.f174 ypa yuZ [(.int .i64)] zm := fun x => by kernel_rfl
def yi9 : QF := ⟨174, zm, okN (n := 1) Tryz.func174 ⟨yrW, trivial⟩ ywE⟩
def yD (x : yvD) : Option Bool :=
 Option.bind (bif (decide (x.1 ≥ x.2.1)) then some (decide (x.1 ≤ x.2.2)) else some false) fun u1 => some u1
theorem yDm : EV [] lpN 96 Tryz.f96 yBj yvE [.bool] yD := fun x => by kernel_rfl
def q96 : QF := ⟨96, yD, okN (n := 0) Tryz.func96 trivial yDm⟩
abbrev qS : Type := yv0
def We (k0 : List y9 → Option R) (again : qS → Option R) (t3 : qS) : Option R :=
 bif (decide (t3.2.1 < (List.length t3.1 : Int))) then if (0 : Int) ≤ t3.2.1 then if t3.2.1 < (List.length t3.1 : Int) then bif ((y0 t3.1 t3.2.1).2.2.1 != (0 : Int)) then if (0 : Int) ≤ t3.2.1 then if t3.2.1 < (List.length t3.1 : Int) then if (List.length t3.2.2 + List.length ([((y0 t3.1 t3.2.1).1, (y0 t3.1 t3.2.1).2.1, (y0 t3.1 t3.2.1).2.2.1, (y0 t3.1 t3.2.1).2.2.2.1, (y0 t3.1 t3.2.1).2.2.2.2)] : List y9)) * 40 < 140737488355328 then again (t3.1, (Go.IntKind.wrap .i64 (t3.2.1 + (1 : Int))), (t3.2.2 ++ ([((y0 t3.1 t3.2.1).1, (y0 t3.1 t3.2.1).2.1, (y0 t3.1 t3.2.1).2.2.1, (y0 t3.1 t3.2.1).2.2.2.1, (y0 t3.1 t3.2.1).2.2.2.2)] : List y9))) else none else none else none else again (t3.1, (Go.IntKind.wrap .i64 (t3.2.1 + (1 : Int))), t3.2.2) else none else none else k0 t3.2.2
def y1Y k0 := zx (@We R k0) zO
def zT (x : List y9) : Option (List y9) :=
 y1Y (fun x1 => some x1) (x, (0 : Int), ([] : List y9))
def yk7 : List QF := []
def y6R (t : yv0) : St := ⟨qf t.1 :: dd 2 (.own 10000000 :: vI t.2.1 :: dd 21 []), [(10000000, .root true 64 yi t.2.2)]⟩
def yia : Gk qS := fun κ => We (fun t => κ (some 0) ⟨dd 3 (.own 10000000 :: dd 22 []), [(10000000, .root true 64 yi t)]⟩)
def yk8 : Lp := lpC 3 (unG yv1 y6R) @yia lpN
theorem yrX : LF yk7 yk8 230 3 Tryz.f230 0 y6R @yia fun t => t := fun R κ again t => by kernel_rfl
theorem yrY : LK yk7 yk8 230 Tryz.f230 0 := lkN (u := (unG yv1 y6R)) (yp fun t => by kernel_rfl) yrX
theorem ywF : EV yk7 yk8 230 Tryz.f230 ypb [(.sl 64 yi)] [(.sl 64 yi)] zT := fun x => by kernel_rfl
def ywG : QF := ⟨230, zT, okN (n := 1) Tryz.func230 ⟨yrY, trivial⟩ ywF⟩
def jK (x : yv2) : Option Bool :=
 bif (x.1 != x.2.2.2.2.2.1) then some (decide (x.1 < x.2.2.2.2.2.1)) else some (decide (x.2.1 < x.2.2.2.2.2.2.1))
theorem ywH : EV [] lpN 307 Tryz.f307 ypc yv3 [.bool] jK := fun x => by kernel_rfl
def yBW : QF := ⟨307, jK, okN (n := 0) Tryz.func307 trivial ywH⟩
def ZK (x : yv2) : Option Bool :=
 Option.bind (bif (x.1 == x.2.2.2.2.2.1) then some (x.2.1 == x.2.2.2.2.2.2.1) else some false) fun u1 => some u1
theorem ywI : EV [] lpN 308 Tryz.f308 ypd yv3 [.bool] ZK := fun x => by kernel_rfl
def yDn : QF := ⟨308, ZK, okN (n := 0) Tryz.func308 trivial ywI⟩
abbrev Wf : Type := yAo
def YF (k0 : yAq → Option R) (again : Wf → Option R) (t4 : Wf) : Option R :=
 bif (decide (t4.2.2.1 < (List.length t4.1 : Int))) then Option.bind (bif (!t4.2.1) then if (0 : Int) ≤ t4.2.2.1 then if t4.2.2.1 < (List.length t4.1 : Int) then Option.bind (jK ((y0 t4.1 t4.2.2.1).1, (y0 t4.1 t4.2.2.1).2.1, (y0 t4.1 t4.2.2.1).2.2.1, (y0 t4.1 t4.2.2.1).2.2.2.1, (y0 t4.1 t4.2.2.1).2.2.2.2, t4.2.2.2.1, t4.2.2.2.2.1, t4.2.2.2.2.2.1, t4.2.2.2.2.2.2.1, t4.2.2.2.2.2.2.2.1)) fun r2 => some (!r2) else none else none else some false) fun u1 => bif u1 then if (List.length t4.2.2.2.2.2.2.2.2 + List.length ([(t4.2.2.2.1, t4.2.2.2.2.1, t4.2.2.2.2.2.1, t4.2.2.2.2.2.2.1, t4.2.2.2.2.2.2.2.1)] : List y9)) * 40 < 140737488355328 then if (0 : Int) ≤ t4.2.2.1 then if t4.2.2.1 < (List.length t4.1 : Int) then Option.bind (ZK ((y0 t4.1 t4.2.2.1).1, (y0 t4.1 t4.2.2.1).2.1, (y0 t4.1 t4.2.2.1).2.2.1, (y0 t4.1 t4.2.2.1).2.2.2.1, (y0 t4.1 t4.2.2.1).2.2.2.2, t4.2.2.2.1, t4.2.2.2.2.1, t4.2.2.2.2.2.1, t4.2.2.2.2.2.2.1, t4.2.2.2.2.2.2.2.1)) fun r3 => bif (!r3) then if (0 : Int) ≤ t4.2.2.1 then if t4.2.2.1 < (List.length t4.1 : Int) then if (List.length (t4.2.2.2.2.2.2.2.2 ++ ([(t4.2.2.2.1, t4.2.2.2.2.1, t4.2.2.2.2.2.1, t4.2.2.2.2.2.2.1, t4.2.2.2.2.2.2.2.1)] : List y9)) + List.length ([((y0 t4.1 t4.2.2.1).1, (y0 t4.1 t4.2.2.1).2.1, (y0 t4.1 t4.2.2.1).2.2.1, (y0 t4.1 t4.2.2.1).2.2.2.1, (y0 t4.1 t4.2.2.1).2.2.2.2)] : List y9)) * 40 < 140737488355328 then again (t4.1, true, (Go.IntKind.wrap .i64 (t4.2.2.1 + (1 : Int))), t4.2.2.2.1, t4.2.2.2.2.1, t4.2.2.2.2.2.1, t4.2.2.2.2.2.2.1, t4.2.2.2.2.2.2.2.1, ((t4.2.2.2.2.2.2.2.2 ++ ([(t4.2.2.2.1, t4.2.2.2.2.1, t4.2.2.2.2.2.1, t4.2.2.2.2.2.2.1, t4.2.2.2.2.2.2.2.1)] : List y9)) ++ ([((y0 t4.1 t4.2.2.1).1, (y0 t4.1 t4.2.2.1).2.1, (y0 t4.1 t4.2.2.1).2.2.1, (y0 t4.1 t4.2.2.1).2.2.2.1, (y0 t4.1 t4.2.2.1).2.2.2.2)] : List y9))) else none else none else none else again (t4.1, true, (Go.IntKind.wrap .i64 (t4.2.2.1 + (1 : Int))), t4.2.2.2.1, t4.2.2.2.2.1, t4.2.2.2.2.2.1, t4.2.2.2.2.2.2.1, t4.2.2.2.2.2.2.2.1, (t4.2.2.2.2.2.2.2.2 ++ ([(t4.2.2.2.1, t4.2.2.2.2.1, t4.2.2.2.2.2.1, t4.2.2.2.2.2.2.1, t4.2.2.2.2.2.2.2.1)] : List y9))) else none else none else none else if (0 : Int) ≤ t4.2.2.1 then if t4.2.2.1 < (List.length t4.1 : Int) then Option.bind (ZK ((y0 t4.1 t4.2.2.1).1, (y0 t4.1 t4.2.2.1).2.1, (y0 t4.1 t4.2.2.1).2.2.1, (y0 t4.1 t4.2.2.1).2.2.2.1, (y0 t4.1 t4.2.2.1).2.2.2.2, t4.2.2.2.1, t4.2.2.2.2.1, t4.2.2.2.2.2.1, t4.2.2.2.2.2.2.1, t4.2.2.2.2.2.2.2.1)) fun r4 => bif (!r4) then if (0 : Int) ≤ t4.2.2.1 then if t4.2.2.1 < (List.length t4.1 : Int) then if (List.length t4.2.2.2.2.2.2.2.2 + List.length ([((y0 t4.1 t4.2.2.1).1, (y0 t4.1 t4.2.2.1).2.1, (y0 t4.1 t4.2.2.1).2.2.1, (y0 t4.1 t4.2.2.1).2.2.2.1, (y0 t4.1 t4.2.2.1).2.2.2.2)] : List y9)) * 40 < 140737488355328 then again (t4.1, t4.2.1, (Go.IntKind.wrap .i64 (t4.2.2.1 + (1 : Int))), t4.2.2.2.1, t4.2.2.2.2.1, t4.2.2.2.2.2.1, t4.2.2.2.2.2.2.1, t4.2.2.2.2.2.2.2.1, (t4.2.2.2.2.2.2.2.2 ++ ([((y0 t4.1 t4.2.2.1).1, (y0 t4.1 t4.2.2.1).2.1, (y0 t4.1 t4.2.2.1).2.2.1, (y0 t4.1 t4.2.2.1).2.2.2.1, (y0 t4.1 t4.2.2.1).2.2.2.2)] : List y9))) else none else none else none else again (t4.1, t4.2.1, (Go.IntKind.wrap .i64 (t4.2.2.1 + (1 : Int))), t4.2.2.2.1, t4.2.2.2.2.1, t4.2.2.2.2.2.1, t4.2.2.2.2.2.2.1, t4.2.2.2.2.2.2.2.1, t4.2.2.2.2.2.2.2.2) else none else none else k0 (t4.2.1, t4.2.2.2)
def vt k0 := zx (@YF R k0) zO
def zr (x : yAr) : Option (List y9) :=
 vt (fun x5 => bif (!x5.1) then if (List.length x5.2.2.2.2.2.2 + List.length ([(x5.2.1, x5.2.2.1, x5.2.2.2.1, x5.2.2.2.2.1, x5.2.2.2.2.2.1)] : List y9)) * 40 < 140737488355328 then some (x5.2.2.2.2.2.2 ++ ([(x5.2.1, x5.2.2.1, x5.2.2.2.1, x5.2.2.2.2.1, x5.2.2.2.2.2.1)] : List y9)) else none else some x5.2.2.2.2.2.2) (x.1, false, (0 : Int), x.2.1, x.2.2.1, x.2.2.2.1, x.2.2.2.2.1, x.2.2.2.2.2, ([] : List y9))
def yk9 : List QF := [yBW, yDn]
def y6S (t : yAo) : St := ⟨qf t.1 :: dd 2 (.box 3 0 :: .dead :: .own 10000000 :: vB t.2.1 :: vI t.2.2.1 :: dd 43 []), [(3, .box [vI t.2.2.2.1, vI t.2.2.2.2.1, vI t.2.2.2.2.2.1, vI t.2.2.2.2.2.2.1, vI t.2.2.2.2.2.2.2.1]), (10000000, .root true 64 yi t.2.2.2.2.2.2.2.2)]⟩
def yib : Gk Wf := fun κ => YF (fun t => κ (some 0) ⟨dd 3 (.box 3 0 :: .dead :: .own 10000000 :: vB t.1 :: dd 44 []), [(3, .box [vI t.2.1, vI t.2.2.1, vI t.2.2.2.1, vI t.2.2.2.2.1, vI t.2.2.2.2.2.1]), (10000000, .root true 64 yi t.2.2.2.2.2.2)]⟩)
def yka : Lp := lpC 4 (unG yAp y6S) @yib lpN
theorem yrZ : LF yk9 yka 231 4 Tryz.f231 0 y6S @yib fun t => t := fun R κ again t => by kernel_rfl
theorem ys0 : LK yk9 yka 231 Tryz.f231 0 := lkN (u := (unG yAp y6S)) (yp fun t => by kernel_rfl) yrZ
theorem ywJ : EV yk9 yka 231 Tryz.f231 ype yAs [(.sl 64 yi)] zr := fun x => by kernel_rfl
def yvj : QF := ⟨231, zr, okN (n := 1) Tryz.func231 ⟨ys0, trivial⟩ ywJ⟩
abbrev Wg : Type := yv0
def Z4 (k0 : List y9 → Option R) (again : Wg → Option R) (t3 : Wg) : Option R :=
 bif (decide (t3.2.1 < (List.length t3.1 : Int))) then if (0 : Int) ≤ t3.2.1 then if t3.2.1 < (List.length t3.1 : Int) then Option.bind (zr (t3.2.2, (y0 t3.1 t3.2.1).1, (y0 t3.1 t3.2.1).2.1, (y0 t3.1 t3.2.1).2.2.1, (y0 t3.1 t3.2.1).2.2.2.1, (y0 t3.1 t3.2.1).2.2.2.2)) fun r1 => again (t3.1, (Go.IntKind.wrap .i64 (t3.2.1 + (1 : Int))), r1) else none else none else k0 t3.2.2
def Vq k0 := zx (@Z4 R k0) zO
def YU (x : Qz3) : Option (List y9) :=
 if (List.length ([] : List y9) + List.length x.1) * 40 < 140737488355328 then Vq (fun x2 => some x2) (x.2, (0 : Int), (([] : List y9) ++ x.1)) else none
def ykb : List QF := [yvj]
def y6T (t : yv0) : St := ⟨.dead :: qf t.1 :: dd 3 (.own 10000000 :: vI t.2.1 :: dd 16 []), [(10000000, .root true 64 yi t.2.2)]⟩
def yic : Gk Wg := fun κ => Z4 (fun t => κ (some 0) ⟨dd 5 (.own 10000000 :: dd 17 []), [(10000000, .root true 64 yi t)]⟩)
def ykc : Lp := lpC 3 (unG yv1 y6T) @yic lpN
theorem ys1 : LF ykb ykc 309 3 Tryz.f309 0 y6T @yic fun t => t := fun R κ again t => by kernel_rfl
theorem ys2 : LK ykb ykc 309 Tryz.f309 0 := lkN (u := (unG yv1 y6T)) (yp fun t => by kernel_rfl) ys1
theorem ywK : EV ykb ykc 309 Tryz.f309 ypf qz3 [(.sl 64 yi)] YU := fun x => by kernel_rfl
def yDo : QF := ⟨309, YU, okN (n := 1) Tryz.func309 ⟨ys2, trivial⟩ ywK⟩
abbrev kM : Type := yAt
def ZL (k0 : List y9 → Option R) (again : kM → Option R) (t3 : kM) : Option R :=
 bif (decide (t3.1 < (List.length t3.2.1 : Int))) then if (0 : Int) ≤ t3.1 then if t3.1 < (List.length t3.2.1 : Int) then Option.bind (YU (t3.2.2, (yo t3.2.1 t3.1))) fun r1 => again ((Go.IntKind.wrap .i64 (t3.1 + (1 : Int))), t3.2.1, r1) else none else none else k0 t3.2.2
def qn k0 := zx (@ZL R k0) zO
def yE (x : List ya) : Option (List y9) :=
 qn (fun x2 => Option.bind (zT x2) fun r3 => some r3) ((0 : Int), x, ([] : List y9))
def ykd : List QF := [ywG, yDo]
def y6U (t : yAt) : St := ⟨.dead :: .box 1 0 :: .dead :: .own 10000000 :: vI t.1 :: dd 17 [], [(1, .box [Yd t.2.1]), (10000000, .root true 64 yi t.2.2)]⟩
def yid : Gk kM := fun κ => ZL (fun t => κ (some 0) ⟨dd 3 (.own 10000000 :: dd 18 []), [(10000000, .root true 64 yi t)]⟩)
def yke : Lp := lpC 3 (unG yAu y6U) @yid lpN
theorem ys3 : LF ykd yke 232 3 Tryz.f232 0 y6U @yid fun t => t := fun R κ again t => by kernel_rfl
theorem ys4 : LK ykd yke 232 Tryz.f232 0 := lkN (u := (unG yAu y6U)) (yp fun t => by kernel_rfl) ys3
theorem ywL : EV ykd yke 232 Tryz.f232 ypg [(.sl 58 yn)] [(.sl 64 yi)] yE := fun x => by kernel_rfl
def ykf : QF := ⟨232, yE, okN (n := 1) Tryz.func232 ⟨ys4, trivial⟩ ywL⟩
abbrev kN : Type := yAv
def ZM (k0 : List y9 → Option R) (again : kN → Option R) (t3 : kN) : Option R :=
 bif (decide (t3.1 < (List.length t3.2.2.1 : Int))) then if (0 : Int) ≤ t3.1 then if t3.1 < (List.length t3.2.2.1 : Int) then Option.bind (yE (yh t3.2.2.1 t3.1)) fun r1 => if (List.length t3.2.2.2 + List.length r1) * 40 < 140737488355328 then again ((Go.IntKind.wrap .i64 (t3.1 + (1 : Int))), t3.2.1, t3.2.2.1, (t3.2.2.2 ++ r1)) else none else none else none else k0 t3.2.2.2
def qp k0 := zx (@ZM R k0) zO
def yu (x : y4D) : Option (List y9) :=
 qp (fun x2 => some x2) ((0 : Int), x.1, x.2, ([] : List y9))
def ykg : List QF := [ykf]
def y6V (t : yAv) : St := ⟨.dead :: .box 1 0 :: .dead :: .own 10000000 :: vI t.1 :: dd 17 [], [(1, .box [yU t.2.1, yt t.2.2.1]), (10000000, .root true 64 yi t.2.2.2)]⟩
def yie : Gk kN := fun κ => ZM (fun t => κ (some 0) ⟨dd 3 (.own 10000000 :: dd 18 []), [(10000000, .root true 64 yi t)]⟩)
def ykh : Lp := lpC 3 (unG yAw y6V) @yie lpN
theorem ys5 : LF ykg ykh 137 3 Tryz.f137 0 y6V @yie fun t => t := fun R κ again t => by kernel_rfl
theorem ys6 : LK ykg ykh 137 Tryz.f137 0 := lkN (u := (unG yAw y6V)) (yp fun t => by kernel_rfl) ys5
theorem ywM : EV ykg ykh 137 Tryz.f137 yph W8 [(.sl 64 yi)] yu := fun x => by kernel_rfl
def yfC : QF := ⟨137, yu, okN (n := 1) Tryz.func137 ⟨ys6, trivial⟩ ywM⟩
def JH (x : yfy) : Option Int :=
 some (Go.IntKind.wrap .i64 ((Go.IntKind.wrap .i64 ((64 : Int) * x.1)) + x.2))
theorem ywN : EV [] lpN 304 Tryz.f304 ypi yjJ [(.int .i64)] JH := fun x => by kernel_rfl
def yBX : QF := ⟨304, JH, okN (n := 0) Tryz.func304 trivial ywN⟩
def JI (x : yfz) : Option Int :=
 Option.bind (JH (x.1, x.2.1)) fun r1 => some r1
theorem ywO : EV [yBX] lpN 233 Tryz.f233 ypj KW [(.int .i64)] JI := fun x => by kernel_rfl
def yBY : QF := ⟨233, JI, okN (n := 0) Tryz.func233 trivial ywO⟩
def wV (x : yfz) : Option Bool :=
 Option.bind (yD (x.1, (0 : Int), (15 : Int))) fun r1 => Option.bind (bif (!r1) then some true else Option.bind (yD (x.2.1, (1 : Int), (60 : Int))) fun r3 => some (!r3)) fun u2 => Option.bind (bif u2 then some true else Option.bind (yD (x.2.2.1, (0 : Int), (2 : Int))) fun r5 => some (!r5)) fun u4 => bif u4 then some false else bif (x.2.2.1 == (1 : Int)) then Option.bind (yD (x.2.2.2.1, (0 : Int), (23 : Int))) fun r6 => Option.bind (bif r6 then Option.bind (yD (x.2.2.2.2, (0 : Int), (999 : Int))) fun r8 => some r8 else some false) fun u7 => some u7 else Option.bind (bif (x.2.2.2.1 == (0 : Int)) then some (x.2.2.2.2 == (0 : Int)) else some false) fun u9 => some u9
theorem ywP : EV [q96] lpN 226 Tryz.f226 ypk KW [.bool] wV := fun x => by kernel_rfl
def yBZ : QF := ⟨226, wV, okN (n := 0) Tryz.func226 trivial ywP⟩
abbrev KI : Type := yn4
def jr (k0 : Bool → Option R) (k1 : Unit → Option R) (again : KI → Option R) (t2 : KI) : Option R :=
 bif (decide (t2.2 < (List.length t2.1 : Int))) then if (0 : Int) ≤ (Go.IntKind.wrap .i64 (t2.2 - (1 : Int))) then if (Go.IntKind.wrap .i64 (t2.2 - (1 : Int))) < (List.length t2.1 : Int) then if (0 : Int) ≤ t2.2 then if t2.2 < (List.length t2.1 : Int) then Option.bind (jK ((y0 t2.1 (Go.IntKind.wrap .i64 (t2.2 - (1 : Int)))).1, (y0 t2.1 (Go.IntKind.wrap .i64 (t2.2 - (1 : Int)))).2.1, (y0 t2.1 (Go.IntKind.wrap .i64 (t2.2 - (1 : Int)))).2.2.1, (y0 t2.1 (Go.IntKind.wrap .i64 (t2.2 - (1 : Int)))).2.2.2.1, (y0 t2.1 (Go.IntKind.wrap .i64 (t2.2 - (1 : Int)))).2.2.2.2, (y0 t2.1 t2.2).1, (y0 t2.1 t2.2).2.1, (y0 t2.1 t2.2).2.2.1, (y0 t2.1 t2.2).2.2.2.1, (y0 t2.1 t2.2).2.2.2.2)) fun r1 => bif (!r1) then k0 false else again (t2.1, (Go.IntKind.wrap .i64 (t2.2 + (1 : Int)))) else none else none else none else none else k1 ()
def Q8 k0 k1 := zx (@jr R k0 k1) zO
def wc (x : List y9) : Option Bool :=
 Q8 (fun x2 => some x2) (fun x3 => some true) (x, (1 : Int))
def yki : List QF := [yBW]
def y6W (t : yn4) : St := ⟨qf t.1 :: dd 2 (vI t.2 :: dd 17 []), []⟩
def yif : Gk KI := fun κ => jr (fun t => κ none ⟨dd 2 (vB t :: dd 18 []), []⟩) (fun t => κ (some 0) ⟨dd 21 [], []⟩)
def ykj : Lp := lpC 2 (unG yn5 y6W) @yif lpN
theorem ys7 : LF yki ykj 359 2 Tryz.f359 0 y6W @yif fun t => t := fun R κ again t => by kernel_rfl
theorem ys8 : LK yki ykj 359 Tryz.f359 0 := lkN (u := (unG yn5 y6W)) (yp fun t => by kernel_rfl) ys7
theorem ywQ : EV yki ykj 359 Tryz.f359 ypl [(.sl 64 yi)] [.bool] wc := fun x => by kernel_rfl
def yDp : QF := ⟨359, wc, okN (n := 1) Tryz.func359 ⟨ys8, trivial⟩ ywQ⟩
abbrev VE : Type := yn4
def wd (k0 : yAx → Option R) (k1 : List y9 → Option R) (again : VE → Option R) (t2 : VE) : Option R :=
 bif (decide (t2.2 < (List.length t2.1 : Int))) then if (0 : Int) ≤ t2.2 then if t2.2 < (List.length t2.1 : Int) then Option.bind (wV ((y0 t2.1 t2.2).1, (y0 t2.1 t2.2).2.1, (y0 t2.1 t2.2).2.2.1, (y0 t2.1 t2.2).2.2.2.1, (y0 t2.1 t2.2).2.2.2.2)) fun r1 => bif (!r1) then k0 (t2.1, false) else again (t2.1, (Go.IntKind.wrap .i64 (t2.2 + (1 : Int)))) else none else none else k1 t2.1
def y15 k0 k1 := zx (@wd R k0 k1) zO
def Kw (x : List y9) : Option Bool :=
 y15 (fun x2 => some x2.2) (fun x3 => Option.bind (wc x3) fun r4 => Option.bind (bif r4 then some (decide ((List.length x3 : Int) ≤ (60 : Int))) else some false) fun u5 => some u5) (x, (0 : Int))
def ykk : List QF := [yBZ, yDp]
def y6X (t : yn4) : St := ⟨qf t.1 :: dd 2 (vI t.2 :: dd 19 []), []⟩
def yig : Gk VE := fun κ => wd (fun t => κ none ⟨qf t.1 :: .dead :: vB t.2 :: dd 20 [], []⟩) (fun t => κ (some 0) ⟨qf t :: dd 22 [], []⟩)
def ykl : Lp := lpC 2 (unG yn5 y6X) @yig lpN
theorem ys9 : LF ykk ykl 344 2 Tryz.f344 0 y6X @yig fun t => t := fun R κ again t => by kernel_rfl
theorem ysa : LK ykk ykl 344 Tryz.f344 0 := lkN (u := (unG yn5 y6X)) (yp fun t => by kernel_rfl) ys9
theorem ywR : EV ykk ykl 344 Tryz.f344 ypm [(.sl 64 yi)] [.bool] Kw := fun x => by kernel_rfl
def yDq : QF := ⟨344, Kw, okN (n := 1) Tryz.func344 ⟨ysa, trivial⟩ ywR⟩
abbrev KJ : Type := yAy
def jt (k0 : Int → Option R) (again : KJ → Option R) (t3 : KJ) : Option R :=
 bif (decide (t3.2.1 < (List.length t3.2.2 : Int))) then if (0 : Int) ≤ t3.2.1 then if t3.2.1 < (List.length t3.2.2 : Int) then again ((Go.IntKind.wrap .i64 (t3.1 + (List.length (yo t3.2.2 t3.2.1) : Int))), (Go.IntKind.wrap .i64 (t3.2.1 + (1 : Int))), t3.2.2) else none else none else k0 t3.1
def Q9 k0 := zx (@jt R k0) zO
def we (x : List ya) : Option Int :=
 Q9 (fun x1 => some x1) ((0 : Int), (0 : Int), x)
def ykm : List QF := []
def y6Y (t : yAy) : St := ⟨.dead :: .box 1 0 :: .dead :: vI t.1 :: vI t.2.1 :: dd 16 [], [(1, .box [Yd t.2.2])]⟩
def yih : Gk KJ := fun κ => jt (fun t => κ (some 0) ⟨dd 3 (vI t :: dd 17 []), []⟩)
def ykn : Lp := lpC 3 (unG yAz y6Y) @yih lpN
theorem ysb : LF ykm ykn 345 3 Tryz.f345 0 y6Y @yih fun t => t := fun R κ again t => by kernel_rfl
theorem ysc : LK ykm ykn 345 Tryz.f345 0 := lkN (u := (unG yAz y6Y)) (yp fun t => by kernel_rfl) ysb
theorem ywS : EV ykm ykn 345 Tryz.f345 ypn [(.sl 58 yn)] [(.int .i64)] we := fun x => by kernel_rfl
def yDr : QF := ⟨345, we, okN (n := 1) Tryz.func345 ⟨ysc, trivial⟩ ywS⟩
abbrev vu : Type := yhZ
def Ja (k0 : yCN → Option R) (k1 : List ya → Option R) (again : vu → Option R) (t2 : vu) : Option R :=
 bif (decide (t2.1 < (List.length t2.2 : Int))) then if (0 : Int) ≤ t2.1 then if t2.1 < (List.length t2.2 : Int) then Option.bind (Kw (yo t2.2 t2.1)) fun r1 => Option.bind (bif (!r1) then some true else if (0 : Int) ≤ t2.1 then if t2.1 < (List.length t2.2 : Int) then some ((List.length (yo t2.2 t2.1) : Int) == (0 : Int)) else none else none) fun u2 => bif u2 then k0 (false, t2.2) else again ((Go.IntKind.wrap .i64 (t2.1 + (1 : Int))), t2.2) else none else none else k1 t2.2
def QM k0 k1 := zx (@Ja R k0 k1) zO
def zn (x : List ya) : Option Bool :=
 QM (fun x3 => some x3.1) (fun x4 => Option.bind (bif (decide ((List.length x4 : Int) ≤ (3 : Int))) then Option.bind (we x4) fun r6 => some (decide (r6 ≤ (8 : Int))) else some false) fun u5 => some u5) ((0 : Int), x)
def yko : List QF := [yDq, yDr]
def y6Z (t : yhZ) : St := ⟨.dead :: .box 1 0 :: .dead :: vI t.1 :: dd 32 [], [(1, .box [Yd t.2])]⟩
def yii : Gk vu := fun κ => Ja (fun t => κ none ⟨.dead :: .box 1 0 :: vB t.1 :: dd 33 [], [(1, .box [Yd t.2])]⟩) (fun t => κ (some 0) ⟨.dead :: .box 1 0 :: dd 34 [], [(1, .box [Yd t])]⟩)
def ykp : Lp := lpC 2 (unG yuX y6Z) @yii lpN
theorem ysd : LF yko ykp 306 2 Tryz.f306 0 y6Z @yii fun t => t := fun R κ again t => by kernel_rfl
theorem yse : LK yko ykp 306 Tryz.f306 0 := lkN (u := (unG yuX y6Z)) (yp fun t => by kernel_rfl) ysd
theorem ywT : EV yko ykp 306 Tryz.f306 ypo [(.sl 58 yn)] [.bool] zn := fun x => by kernel_rfl
def yC0 : QF := ⟨306, zn, okN (n := 1) Tryz.func306 ⟨yse, trivial⟩ ywT⟩
abbrev vv : Type := yAA
def Jb (k0 : yCO → Option R) (k1 : yvF → Option R) (again : vv → Option R) (t8 : vv) : Option R :=
 if (0 : Int) ≤ t8.2.1 then if t8.2.1 < (List.length t8.2.2.2.2.2 : Int) then bif (decide (t8.2.2.1 < (List.length (yo t8.2.2.2.2.2 t8.2.1) : Int))) then if (0 : Int) ≤ t8.2.1 then if t8.2.1 < (List.length t8.2.2.2.2.2 : Int) then if (0 : Int) ≤ t8.2.2.1 then if t8.2.2.1 < (List.length (yo t8.2.2.2.2.2 t8.2.1) : Int) then Option.bind (JI ((y0 (yo t8.2.2.2.2.2 t8.2.1) t8.2.2.1).1, (y0 (yo t8.2.2.2.2.2 t8.2.1) t8.2.2.1).2.1, (y0 (yo t8.2.2.2.2.2 t8.2.1) t8.2.2.1).2.2.1, (y0 (yo t8.2.2.2.2.2 t8.2.1) t8.2.2.1).2.2.2.1, (y0 (yo t8.2.2.2.2.2 t8.2.1) t8.2.2.1).2.2.2.2)) fun r5 => if (0 : Int) ≤ t8.1 then if t8.1 < (List.length t8.2.2.2.1 : Int) then Option.bind (bif (decide (r5 < (zl t8.2.2.2.1 t8.1))) then some true else Option.bind (bif (decide ((Go.IntKind.wrap .i64 (t8.1 + (1 : Int))) < (List.length t8.2.2.2.1 : Int))) then if (0 : Int) ≤ (Go.IntKind.wrap .i64 (t8.1 + (1 : Int))) then if (Go.IntKind.wrap .i64 (t8.1 + (1 : Int))) < (List.length t8.2.2.2.1 : Int) then some (decide (r5 ≥ (zl t8.2.2.2.1 (Go.IntKind.wrap .i64 (t8.1 + (1 : Int)))))) else none else none else some false) fun u7 => some u7) fun u6 => bif u6 then k0 (t8.1, false, t8.2.1, t8.2.2.2) else again (t8.1, t8.2.1, (Go.IntKind.wrap .i64 (t8.2.2.1 + (1 : Int))), t8.2.2.2.1, t8.2.2.2.2.1, t8.2.2.2.2.2) else none else none else none else none else none else none else k1 (t8.1, t8.2.1, t8.2.2.2) else none else none
def vw k0 k1 := zx (@Jb R k0 k1) zO
abbrev vx : Type := yvF
def Jc (k0 : Bool → Option R) (k1 : Unit → Option R) (again : vx → Option R) (t5 : vx) : Option R :=
 bif (decide (t5.2.1 < (List.length t5.2.2.2.2 : Int))) then vw (fun x8 => k0 x8.2.1) (fun x9 => again (x9.1, (Go.IntKind.wrap .i64 (x9.2.1 + (1 : Int))), x9.2.2.1, x9.2.2.2.1, x9.2.2.2.2)) (t5.1, t5.2.1, (0 : Int), t5.2.2.1, t5.2.2.2.1, t5.2.2.2.2) else k1 ()
def vy k0 k1 := zx (@Jc R k0 k1) zO
def Wh (x : yn6) : Option Bool :=
 if (0 : Int) ≤ x.2.2 then if x.2.2 < (List.length x.2.1 : Int) then Option.bind (zn (yh x.2.1 x.2.2)) fun r1 => Option.bind (bif (!r1) then some true else Option.bind (bif (decide (x.2.2 > (0 : Int))) then Option.bind (yE (yh x.2.1 x.2.2)) fun r4 => some ((List.length r4 : Int) == (0 : Int)) else some false) fun u3 => some u3) fun u2 => bif u2 then some false else vy (fun x10 => some x10) (fun x11 => some true) (x.2.2, (0 : Int), x.1, x.2.1, (yh x.2.1 x.2.2)) else none else none
def yeC : List QF := [ykf, yBY, yC0]
def y70 (t : yAA) : St := ⟨.dead :: vI t.1 :: .box 2 0 :: dd 2 (.box 5 0 :: vI t.2.1 :: vI t.2.2.1 :: dd 70 []), [(2, .box [yU t.2.2.2.1, yt t.2.2.2.2.1]), (5, .box [Yd t.2.2.2.2.2])]⟩
def yij : Gk vv := fun κ => Jb (fun t => κ none ⟨.dead :: vI t.1 :: .box 2 0 :: .dead :: vB t.2.1 :: .box 5 0 :: vI t.2.2.1 :: dd 71 [], [(2, .box [yU t.2.2.2.1, yt t.2.2.2.2.1]), (5, .box [Yd t.2.2.2.2.2])]⟩) (fun t => κ (some 2) ⟨.dead :: vI t.1 :: .box 2 0 :: dd 2 (.box 5 0 :: vI t.2.1 :: dd 71 []), [(2, .box [yU t.2.2.1, yt t.2.2.2.1]), (5, .box [Yd t.2.2.2.2])]⟩)
def y71 (t : yvF) : St := ⟨.dead :: vI t.1 :: .box 2 0 :: dd 2 (.box 5 0 :: vI t.2.1 :: dd 71 []), [(2, .box [yU t.2.2.1, yt t.2.2.2.1]), (5, .box [Yd t.2.2.2.2])]⟩
def yik : Gk vx := fun κ => Jc (fun t => κ none ⟨dd 4 (vB t :: dd 73 []), []⟩) (fun t => κ (some 0) ⟨dd 78 [], []⟩)
def yeD : Lp := lpC 5 (unG yAC y71) @yik (lpC 8 (unG yAB y70) @yij lpN)
theorem ysf : LF yeC yeD 300 8 Tryz.f300 1 y70 @yij fun t => t := fun R κ again t => by kernel_rfl
theorem ysg : LK yeC yeD 300 Tryz.f300 1 := lkN (u := (unG yAB y70)) (yp fun t => by kernel_rfl) ysf
theorem ysh : LF yeC yeD 300 5 Tryz.f300 0 y71 @yik fun t => t := fun R κ again t => by kernel_rfl
theorem ysi : LK yeC yeD 300 Tryz.f300 0 := lkN (u := (unG yAC y71)) (yp fun t => by kernel_rfl) ysh
theorem ywU : EV yeC yeD 300 Tryz.f300 ypp yn7 [.bool] Wh := fun x => by kernel_rfl
def yDs : QF := ⟨300, Wh, okN (n := 2) Tryz.func300 ⟨ysi, ysg, trivial⟩ ywU⟩
abbrev vz : Type := yan
def Jd (k0 : yCP → Option R) (k1 : y4D → Option R) (again : vz → Option R) (t4 : vz) : Option R :=
 bif (decide (t4.1 < (List.length t4.2.2 : Int))) then Option.bind (bif (decide (t4.1 > (0 : Int))) then if (0 : Int) ≤ (Go.IntKind.wrap .i64 (t4.1 - (1 : Int))) then if (Go.IntKind.wrap .i64 (t4.1 - (1 : Int))) < (List.length t4.2.1 : Int) then if (0 : Int) ≤ t4.1 then if t4.1 < (List.length t4.2.1 : Int) then some (decide ((zl t4.2.1 (Go.IntKind.wrap .i64 (t4.1 - (1 : Int)))) ≥ (zl t4.2.1 t4.1))) else none else none else none else none else some false) fun u4 => Option.bind (bif u4 then some true else Option.bind (Wh (t4.2.1, t4.2.2, t4.1)) fun r6 => some (!r6)) fun u5 => bif u5 then k0 (false, t4.2) else again ((Go.IntKind.wrap .i64 (t4.1 + (1 : Int))), t4.2.1, t4.2.2) else k1 t4.2
def QN k0 k1 := zx (@Jd R k0 k1) zO
def Y9 (x : y4D) : Option Bool :=
 Option.bind (yD ((List.length x.2 : Int), (1 : Int), (20 : Int))) fun r1 => Option.bind (bif (!r1) then some true else some ((List.length x.1 : Int) != (List.length x.2 : Int))) fun u2 => Option.bind (bif u2 then some true else if (0 : Int) ≤ (0 : Int) then if (0 : Int) < (List.length x.1 : Int) then some ((zl x.1 (0 : Int)) != (0 : Int)) else none else none) fun u3 => bif u3 then some false else QN (fun x7 => some x7.1) (fun x8 => Option.bind (yu x8) fun r9 => some (decide ((List.length r9 : Int) ≤ (60 : Int)))) ((0 : Int), x.1, x.2)
def ykq : List QF := [q96, yfC, yDs]
def y72 (t : yan) : St := ⟨.dead :: .box 1 0 :: .dead :: vI t.1 :: dd 54 [], [(1, .box [yU t.2.1, yt t.2.2])]⟩
def yil : Gk vz := fun κ => Jd (fun t => κ none ⟨.dead :: .box 1 0 :: vB t.1 :: dd 55 [], [(1, .box [yU t.2.1, yt t.2.2])]⟩) (fun t => κ (some 0) ⟨.dead :: .box 1 0 :: dd 56 [], [(1, .box [yU t.1, yt t.2])]⟩)
def ykr : Lp := lpC 4 (unG yfA y72) @yil lpN
theorem ysj : LF ykq ykr 212 4 Tryz.f212 0 y72 @yil fun t => t := fun R κ again t => by kernel_rfl
theorem ysk : LK ykq ykr 212 Tryz.f212 0 := lkN (u := (unG yfA y72)) (yp fun t => by kernel_rfl) ysj
theorem ywV : EV ykq ykr 212 Tryz.f212 ypq W8 [.bool] Y9 := fun x => by kernel_rfl
def yC1 : QF := ⟨212, Y9, okN (n := 1) Tryz.func212 ⟨ysk, trivial⟩ ywV⟩
abbrev VF : Type := yvG
def wg (k0 : Int → Option R) (k1 : Unit → Option R) (again : VF → Option R) (t2 : VF) : Option R :=
 bif (decide (t2.2.2 < (List.length t2.1 : Int))) then if (0 : Int) ≤ t2.2.2 then if t2.2.2 < (List.length t2.1 : Int) then bif ((yC t2.1 t2.2.2).1 == t2.2.1) then k0 t2.2.2 else again (t2.1, t2.2.1, (Go.IntKind.wrap .i64 (t2.2.2 + (1 : Int)))) else none else none else k1 ()
def y16 k0 k1 := zx (@wg R k0 k1) zO
def zG (x : yeg) : Option Int :=
 y16 (fun x1 => some x1) (fun x2 => some (-1 : Int)) (x.1, x.2, (0 : Int))
def yks : List QF := []
def y73 (t : yvG) : St := ⟨za t.1 :: vI t.2.1 :: dd 3 (vI t.2.2 :: dd 14 []), []⟩
def yim : Gk VF := fun κ => wg (fun t => κ none ⟨dd 4 (vI t :: dd 15 []), []⟩) (fun t => κ (some 0) ⟨dd 20 [], []⟩)
def ykt : Lp := lpC 2 (unG yvH y73) @yim lpN
theorem ysl : LF yks ykt 262 2 Tryz.f262 0 y73 @yim fun t => t := fun R κ again t => by kernel_rfl
theorem ysm : LK yks ykt 262 Tryz.f262 0 := lkN (u := (unG yvH y73)) (yp fun t => by kernel_rfl) ysl
theorem ywW : EV yks ykt 262 Tryz.f262 ypr yeh [(.int .i64)] zG := fun x => by kernel_rfl
def ymK : QF := ⟨262, zG, okN (n := 1) Tryz.func262 ⟨ysm, trivial⟩ ywW⟩
abbrev vC : Type := yeg
def Je (k0 : yn8 → Option R) (k1 : List yd → Option R) (again : vC → Option R) (t2 : vC) : Option R :=
 bif (decide (t2.2 < (List.length t2.1 : Int))) then if (0 : Int) ≤ t2.2 then if t2.2 < (List.length t2.1 : Int) then Option.bind (yD ((yC t2.1 t2.2).1, (1 : Int), (60 : Int))) fun r1 => Option.bind (bif (!r1) then some true else Option.bind (bif (decide (t2.2 > (0 : Int))) then if (0 : Int) ≤ (Go.IntKind.wrap .i64 (t2.2 - (1 : Int))) then if (Go.IntKind.wrap .i64 (t2.2 - (1 : Int))) < (List.length t2.1 : Int) then if (0 : Int) ≤ t2.2 then if t2.2 < (List.length t2.1 : Int) then some (decide ((yC t2.1 (Go.IntKind.wrap .i64 (t2.2 - (1 : Int)))).1 ≥ (yC t2.1 t2.2).1)) else none else none else none else none else some false) fun u3 => some u3) fun u2 => bif u2 then k0 (t2.1, false) else if (0 : Int) ≤ t2.2 then if t2.2 < (List.length t2.1 : Int) then Option.bind (bif ((yC t2.1 t2.2).2 != (0 : Int)) then if (0 : Int) ≤ (0 : Int) then if (0 : Int) ≤ t2.2 then if t2.2 ≤ (List.length t2.1 : Int) then if (0 : Int) ≤ t2.2 then if t2.2 < (List.length t2.1 : Int) then Option.bind (zG ((List.drop (Int.toNat (0 : Int)) (List.take (Int.toNat t2.2) t2.1)), (yC t2.1 t2.2).2)) fun r5 => some (decide (r5 < (0 : Int))) else none else none else none else none else none else some false) fun u4 => bif u4 then k0 (t2.1, false) else again (t2.1, (Go.IntKind.wrap .i64 (t2.2 + (1 : Int)))) else none else none else none else none else k1 t2.1
def QO k0 k1 := zx (@Je R k0 k1) zO
def Z5 (x : List yd) : Option Bool :=
 QO (fun x6 => some x6.2) (fun x7 => some (decide ((List.length x7 : Int) ≤ (16 : Int)))) (x, (0 : Int))
def yku : List QF := [q96, ymK]
def y74 (t : yeg) : St := ⟨za t.1 :: dd 2 (vI t.2 :: dd 52 []), []⟩
def yin : Gk vC := fun κ => Je (fun t => κ none ⟨za t.1 :: .dead :: vB t.2 :: dd 53 [], []⟩) (fun t => κ (some 0) ⟨za t :: dd 55 [], []⟩)
def ykv : Lp := lpC 2 (unG yeh y74) @yin lpN
theorem ysn : LF yku ykv 213 2 Tryz.f213 0 y74 @yin fun t => t := fun R κ again t => by kernel_rfl
theorem yso : LK yku ykv 213 Tryz.f213 0 := lkN (u := (unG yeh y74)) (yp fun t => by kernel_rfl) ysn
theorem ywX : EV yku ykv 213 Tryz.f213 yps [(.sl 146 yk)] [.bool] Z5 := fun x => by kernel_rfl
def ywY : QF := ⟨213, Z5, okN (n := 1) Tryz.func213 ⟨yso, trivial⟩ ywX⟩
def zo (x : Int) : Option Bool :=
 Option.bind (yD (x, (0 : Int), (65535 : Int))) fun r1 => some r1
theorem ywZ : EV [q96] lpN 182 Tryz.f182 ypt [(.int .i64)] [.bool] zo := fun x => by kernel_rfl
def yvk : QF := ⟨182, zo, okN (n := 0) Tryz.func182 trivial ywZ⟩
abbrev KK : Type := yn9
def ju (k0 : yAD → Option R) (k1 : List yb → Option R) (again : KK → Option R) (t2 : KK) : Option R :=
 bif (decide (t2.2 < (List.length t2.1 : Int))) then if (0 : Int) ≤ t2.2 then if t2.2 < (List.length t2.1 : Int) then Option.bind (yD ((yA t2.1 t2.2).1, (0 : Int), (999 : Int))) fun r1 => Option.bind (bif (!r1) then some true else if (0 : Int) ≤ t2.2 then if t2.2 < (List.length t2.1 : Int) then Option.bind (zo ((yA t2.1 t2.2).2.2)) fun r3 => some (!r3) else none else none) fun u2 => Option.bind (bif u2 then some true else if (0 : Int) ≤ t2.2 then if t2.2 < (List.length t2.1 : Int) then Option.bind (bif (!((yA t2.1 t2.2).2.1)) then if (0 : Int) ≤ t2.2 then if t2.2 < (List.length t2.1 : Int) then some ((yA t2.1 t2.2).2.2 != (0 : Int)) else none else none else some false) fun u5 => some u5 else none else none) fun u4 => bif u4 then k0 (t2.1, false) else again (t2.1, (Go.IntKind.wrap .i64 (t2.2 + (1 : Int)))) else none else none else k1 t2.1
def Qa k0 k1 := zx (@ju R k0 k1) zO
def Zt (x : List yb) : Option Bool :=
 Qa (fun x6 => some x6.2) (fun x7 => some ((List.length x7 : Int) == (24 : Int))) (x, (0 : Int))
def ykw : List QF := [q96, yvk]
def y75 (t : yn9) : St := ⟨yL t.1 :: dd 2 (vI t.2 :: dd 41 []), []⟩
def yio : Gk KK := fun κ => ju (fun t => κ none ⟨yL t.1 :: .dead :: vB t.2 :: dd 42 [], []⟩) (fun t => κ (some 0) ⟨yL t :: dd 44 [], []⟩)
def ykx : Lp := lpC 2 (unG yna y75) @yio lpN
theorem ysp : LF ykw ykx 214 2 Tryz.f214 0 y75 @yio fun t => t := fun R κ again t => by kernel_rfl
theorem ysq : LK ykw ykx 214 Tryz.f214 0 := lkN (u := (unG yna y75)) (yp fun t => by kernel_rfl) ysp
theorem yx0 : EV ykw ykx 214 Tryz.f214 ypu [(.sl 113 yf)] [.bool] Zt := fun x => by kernel_rfl
def yx1 : QF := ⟨214, Zt, okN (n := 1) Tryz.func214 ⟨ysq, trivial⟩ yx0⟩
abbrev vD : Type := yv4
def vE (k0 : yAE → Option R) (k1 : ByteArray → Option R) (again : vD → Option R) (t2 : vD) : Option R :=
 bif (decide (t2.2 < ((ByteArray.size t2.1 : Nat) : Int))) then if (0 : Int) ≤ t2.2 then if h1 : Int.toNat t2.2 < ByteArray.size t2.1 then Option.bind (yD ((Go.IntKind.wrap .i64 ((UInt8.toNat (ByteArray.get t2.1 (Int.toNat t2.2) h1) : Nat) : Int)), (97 : Int), (122 : Int))) fun r2 => Option.bind (bif (!r2) then if (0 : Int) ≤ t2.2 then if h4 : Int.toNat t2.2 < ByteArray.size t2.1 then Option.bind (yD ((Go.IntKind.wrap .i64 ((UInt8.toNat (ByteArray.get t2.1 (Int.toNat t2.2) h4) : Nat) : Int)), (48 : Int), (57 : Int))) fun r5 => some (!r5) else none else none else some false) fun u3 => bif u3 then k0 (t2.1, false) else again (t2.1, (Go.IntKind.wrap .i64 (t2.2 + (1 : Int)))) else none else none else k1 t2.1
def QP k0 k1 := zx (@vE R k0 k1) zO
def Ya (x : ByteArray) : Option Bool :=
 QP (fun x6 => some x6.2) (fun x7 => Option.bind (yD (((ByteArray.size x7 : Nat) : Int), (1 : Int), (6 : Int))) fun r8 => some r8) (x, (0 : Int))
def yky : List QF := [q96]
def y76 (t : yv4) : St := ⟨vS t.1 :: dd 2 (vI t.2 :: dd 23 []), []⟩
def yip : Gk vD := fun κ => vE (fun t => κ none ⟨vS t.1 :: .dead :: vB t.2 :: dd 24 [], []⟩) (fun t => κ (some 0) ⟨vS t :: dd 26 [], []⟩)
def ykz : Lp := lpC 2 (unG yv5 y76) @yip lpN
theorem ysr : LF yky ykz 178 2 Tryz.f178 0 y76 @yip fun t => t := fun R κ again t => by kernel_rfl
theorem yss : LK yky ykz 178 Tryz.f178 0 := lkN (u := (unG yv5 y76)) (yp fun t => by kernel_rfl) ysr
theorem yx2 : EV yky ykz 178 Tryz.f178 ypv [.str] [.bool] Ya := fun x => by kernel_rfl
def yvl : QF := ⟨178, Ya, okN (n := 1) Tryz.func178 ⟨yss, trivial⟩ yx2⟩
abbrev vF : Type := yAF
def Jf (k0 : List ye → Option R) (again : vF → Option R) (t3 : vF) : Option R :=
 bif (decide (t3.2.2.1 < (List.length t3.1 : Int))) then if (0 : Int) ≤ t3.2.2.1 then if t3.2.2.1 < (List.length t3.1 : Int) then Option.bind (bif ((yC t3.1 t3.2.2.1).2 == t3.2.1) then some (t3.2.1 != (0 : Int)) else some false) fun u1 => bif u1 then if (0 : Int) ≤ t3.2.2.1 then if t3.2.2.1 < (List.length t3.1 : Int) then if (List.length t3.2.2.2 + List.length ([(yC t3.1 t3.2.2.1).1] : List ye)) * 8 < 140737488355328 then again (t3.1, t3.2.1, (Go.IntKind.wrap .i64 (t3.2.2.1 + (1 : Int))), (t3.2.2.2 ++ ([(yC t3.1 t3.2.2.1).1] : List ye))) else none else none else none else again (t3.1, t3.2.1, (Go.IntKind.wrap .i64 (t3.2.2.1 + (1 : Int))), t3.2.2.2) else none else none else k0 t3.2.2.2
def QQ k0 := zx (@Jf R k0) zO
def jj (x : yeg) : Option (List ye) :=
 QQ (fun x2 => some x2) (x.1, x.2, (0 : Int), ([] : List ye))
def ykA : List QF := []
def y77 (t : yAF) : St := ⟨za t.1 :: vI t.2.1 :: dd 3 (.own 10000000 :: vI t.2.2.1 :: dd 27 []), [(10000000, .root true 3 yg t.2.2.2)]⟩
def yiq : Gk vF := fun κ => Jf (fun t => κ (some 0) ⟨dd 5 (.own 10000000 :: dd 28 []), [(10000000, .root true 3 yg t)]⟩)
def ykB : Lp := lpC 3 (unG yAG y77) @yiq lpN
theorem yst : LF ykA ykB 260 3 Tryz.f260 0 y77 @yiq fun t => t := fun R κ again t => by kernel_rfl
theorem ysu : LK ykA ykB 260 Tryz.f260 0 := lkN (u := (unG yAG y77)) (yp fun t => by kernel_rfl) yst
theorem yx3 : EV ykA ykB 260 Tryz.f260 ypw yeh [(.sl 3 yg)] jj := fun x => by kernel_rfl
def yx4 : QF := ⟨260, jj, okN (n := 1) Tryz.func260 ⟨ysu, trivial⟩ yx3⟩
abbrev KL : Type := yAH
def jv (k0 : yvJ → Option R) (k1 : yei → Option R) (again : KL → Option R) (t8 : KL) : Option R :=
 bif (decide (t8.2.1 < t8.1)) then if (0 : Int) ≤ t8.2.1 then if t8.2.1 < (List.length t8.2.2.2.2.2.2.1 : Int) then bif ((yq t8.2.2.2.2.2.2.1 t8.2.1).2.1 == t8.2.2.2.2.2.2.2.2.2.1) then k0 (false, t8.1, t8.2.2.1, t8.2.2.2.1, t8.2.2.2.2.1, t8.2.2.2.2.2.1, t8.2.2.2.2.2.2.1, t8.2.2.2.2.2.2.2.1) else again (t8.1, (Go.IntKind.wrap .i64 (t8.2.1 + (1 : Int))), t8.2.2.1, t8.2.2.2.1, t8.2.2.2.2.1, t8.2.2.2.2.2.1, t8.2.2.2.2.2.2.1, t8.2.2.2.2.2.2.2.1, t8.2.2.2.2.2.2.2.2.1, t8.2.2.2.2.2.2.2.2.2.1, t8.2.2.2.2.2.2.2.2.2.2.1, t8.2.2.2.2.2.2.2.2.2.2.2) else none else none else k1 (t8.1, t8.2.2.1, t8.2.2.2.1, t8.2.2.2.2.1, t8.2.2.2.2.2.1, t8.2.2.2.2.2.2.1, t8.2.2.2.2.2.2.2.1)
def KM k0 k1 := zx (@jv R k0 k1) zO
abbrev KN : Type := yei
def jw (k0 : ygj → Option R) (k1 : Qv → Option R) (again : KN → Option R) (t2 : KN) : Option R :=
 bif (decide (t2.1 < (List.length t2.2.2.2.2.2.1 : Int))) then if (0 : Int) ≤ t2.1 then if t2.1 < (List.length t2.2.2.2.2.2.1 : Int) then Option.bind (Ya ((yq t2.2.2.2.2.2.1 t2.1).1)) fun r1 => Option.bind (bif (!r1) then some true else Option.bind (yD ((yq t2.2.2.2.2.2.1 t2.1).2.2.1, (1 : Int), (12 : Int))) fun r3 => some (!r3)) fun u2 => Option.bind (bif u2 then some true else Option.bind (zG (t2.2.2.2.1, (yq t2.2.2.2.2.2.1 t2.1).2.1)) fun r5 => some (decide (r5 < (0 : Int)))) fun u4 => Option.bind (bif u4 then some true else Option.bind (jj (t2.2.2.2.1, (yq t2.2.2.2.2.2.1 t2.1).2.1)) fun r7 => some (decide ((List.length r7 : Int) > (0 : Int)))) fun u6 => Option.bind (bif u6 then some true else Option.bind (bif (decide (t2.1 > (0 : Int))) then if (0 : Int) ≤ (Go.IntKind.wrap .i64 (t2.1 - (1 : Int))) then if (Go.IntKind.wrap .i64 (t2.1 - (1 : Int))) < (List.length t2.2.2.2.2.2.1 : Int) then some (!Go.Op.bytesLess (ByteArray.toList ((yq t2.2.2.2.2.2.1 (Go.IntKind.wrap .i64 (t2.1 - (1 : Int)))).1)) (ByteArray.toList ((yq t2.2.2.2.2.2.1 t2.1).1))) else none else none else some false) fun u9 => some u9) fun u8 => bif u8 then k0 (false, t2.2) else KM (fun x10 => k0 (x10.1, x10.2.2)) (fun x11 => again ((Go.IntKind.wrap .i64 (x11.1 + (1 : Int))), x11.2.1, x11.2.2.1, x11.2.2.2.1, x11.2.2.2.2.1, x11.2.2.2.2.2.1, x11.2.2.2.2.2.2)) (t2.1, (0 : Int), t2.2.1, t2.2.2.1, t2.2.2.2.1, t2.2.2.2.2.1, t2.2.2.2.2.2.1, t2.2.2.2.2.2.2, (yq t2.2.2.2.2.2.1 t2.1).1, (yq t2.2.2.2.2.2.1 t2.1).2.1, (yq t2.2.2.2.2.2.1 t2.1).2.2.1, (yq t2.2.2.2.2.2.1 t2.1).2.2.2) else none else none else k1 t2.2
def Qb k0 k1 := zx (@jw R k0 k1) zO
def wh (x : Qv) : Option Bool :=
 Qb (fun x12 => some x12.1) (fun x13 => some (decide ((List.length x13.2.2.2.2.1 : Int) ≤ (6 : Int)))) ((0 : Int), x.1, x.2.1, x.2.2.1, x.2.2.2.1, x.2.2.2.2.1, x.2.2.2.2.2)
def yeE : List QF := [q96, yvl, yx4, ymK]
def y78 (t : yAH) : St := ⟨.dead :: .box 1 0 :: .dead :: vI t.1 :: .box 4 0 :: vI t.2.1 :: dd 73 [], [(1, .box [yU t.2.2.1, yt t.2.2.2.1, za t.2.2.2.2.1, yL t.2.2.2.2.2.1, zP t.2.2.2.2.2.2.1, vI t.2.2.2.2.2.2.2.1]), (4, .box [vS t.2.2.2.2.2.2.2.2.1, vI t.2.2.2.2.2.2.2.2.2.1, vI t.2.2.2.2.2.2.2.2.2.2.1, vB t.2.2.2.2.2.2.2.2.2.2.2])]⟩
def yir : Gk KL := fun κ => jv (fun t => κ none ⟨.dead :: .box 1 0 :: vB t.1 :: vI t.2.1 :: dd 75 [], [(1, .box [yU t.2.2.1, yt t.2.2.2.1, za t.2.2.2.2.1, yL t.2.2.2.2.2.1, zP t.2.2.2.2.2.2.1, vI t.2.2.2.2.2.2.2])]⟩) (fun t => κ (some 2) ⟨.dead :: .box 1 0 :: .dead :: vI t.1 :: dd 75 [], [(1, .box [yU t.2.1, yt t.2.2.1, za t.2.2.2.1, yL t.2.2.2.2.1, zP t.2.2.2.2.2.1, vI t.2.2.2.2.2.2])]⟩)
def y79 (t : yei) : St := ⟨.dead :: .box 1 0 :: .dead :: vI t.1 :: dd 75 [], [(1, .box [yU t.2.1, yt t.2.2.1, za t.2.2.2.1, yL t.2.2.2.2.1, zP t.2.2.2.2.2.1, vI t.2.2.2.2.2.2])]⟩
def yis : Gk KN := fun κ => jw (fun t => κ none ⟨.dead :: .box 1 0 :: vB t.1 :: dd 76 [], [(1, .box [yU t.2.1, yt t.2.2.1, za t.2.2.2.1, yL t.2.2.2.2.1, zP t.2.2.2.2.2.1, vI t.2.2.2.2.2.2])]⟩) (fun t => κ (some 0) ⟨.dead :: .box 1 0 :: dd 77 [], [(1, .box [yU t.1, yt t.2.1, za t.2.2.1, yL t.2.2.2.1, zP t.2.2.2.2.1, vI t.2.2.2.2.2])]⟩)
def yeF : Lp := lpC 2 (unG ymI y79) @yis (lpC 8 (unG yAI y78) @yir lpN)
theorem ysv : LF yeE yeF 215 8 Tryz.f215 1 y78 @yir fun t => t := fun R κ again t => by kernel_rfl
theorem ysw : LK yeE yeF 215 Tryz.f215 1 := lkN (u := (unG yAI y78)) (yp fun t => by kernel_rfl) ysv
theorem ysx : LF yeE yeF 215 2 Tryz.f215 0 y79 @yis fun t => t := fun R κ again t => by kernel_rfl
theorem ysy : LK yeE yeF 215 Tryz.f215 0 := lkN (u := (unG ymI y79)) (yp fun t => by kernel_rfl) ysx
theorem yx5 : EV yeE yeF 215 Tryz.f215 ypx zY [.bool] wh := fun x => by kernel_rfl
def yDt : QF := ⟨215, wh, okN (n := 2) Tryz.func215 ⟨ysy, ysw, trivial⟩ yx5⟩
abbrev Wi : Type := yv6
def Z6 (k0 : Int → Option R) (again : Wi → Option R) (t3 : Wi) : Option R :=
 bif (decide (t3.2.2 < (List.length t3.1 : Int))) then if (0 : Int) ≤ t3.2.2 then if t3.2.2 < (List.length t3.1 : Int) then bif (yA t3.1 t3.2.2).2.1 then again (t3.1, (Go.IntKind.wrap .i64 (t3.2.1 + (1 : Int))), (Go.IntKind.wrap .i64 (t3.2.2 + (1 : Int)))) else again (t3.1, t3.2.1, (Go.IntKind.wrap .i64 (t3.2.2 + (1 : Int)))) else none else none else k0 t3.2.1
def Vr k0 := zx (@Z6 R k0) zO
def YV (x : List yb) : Option Int :=
 Vr (fun x1 => some x1) (x, (0 : Int), (0 : Int))
def ykC : List QF := []
def y7a (t : yv6) : St := ⟨yL t.1 :: dd 2 (vI t.2.1 :: vI t.2.2 :: dd 14 []), []⟩
def yit : Gk Wi := fun κ => Z6 (fun t => κ (some 0) ⟨dd 3 (vI t :: dd 15 []), []⟩)
def ykD : Lp := lpC 3 (unG yv7 y7a) @yit lpN
theorem ysz : LF ykC ykD 147 3 Tryz.f147 0 y7a @yit fun t => t := fun R κ again t => by kernel_rfl
theorem ysA : LK ykC ykD 147 Tryz.f147 0 := lkN (u := (unG yv7 y7a)) (yp fun t => by kernel_rfl) ysz
theorem yx6 : EV ykC ykD 147 Tryz.f147 ypy [(.sl 113 yf)] [(.int .i64)] YV := fun x => by kernel_rfl
def yC2 : QF := ⟨147, YV, okN (n := 1) Tryz.func147 ⟨ysA, trivial⟩ yx6⟩
def JJ (x : yv6) : Option yAJ :=
 Option.bind (yD (x.2.1, (0 : Int), (Go.IntKind.wrap .i64 ((List.length x.1 : Int) - (1 : Int))))) fun r1 => Option.bind (bif (!r1) then some true else if (0 : Int) ≤ x.2.1 then if x.2.1 < (List.length x.1 : Int) then some (!((yA x.1 x.2.1).2.1)) else none else none) fun u2 => Option.bind (bif u2 then some true else if (0 : Int) ≤ x.2.1 then if x.2.1 < (List.length x.1 : Int) then some ((yA x.1 x.2.1).1 != x.2.2) else none else none) fun u3 => bif u3 then some ((0 : Int), false) else if (0 : Int) ≤ x.2.1 then if x.2.1 < (List.length x.1 : Int) then some ((yA x.1 x.2.1).2.2, true) else none else none
theorem yx7 : EV [q96] lpN 285 Tryz.f285 ypz yv7 yAK JJ := fun x => by kernel_rfl
def yDu : QF := ⟨285, JJ, okN (n := 0) Tryz.func285 trivial yx7⟩
abbrev kO : Type := ync
def ZN (k0 : yCQ → Option R) (k1 : yfB → Option R) (again : kO → Option R) (t14 : kO) : Option R :=
 bif (decide (t14.2.2.1 < t14.2.1)) then if (0 : Int) ≤ t14.2.2.1 then if t14.2.2.1 < (List.length t14.2.2.2.2.2.2.2.2.2 : Int) then Option.bind (bif ((y0 t14.2.2.2.2.2.2.2.2.2 t14.2.2.1).2.2.1 == (1 : Int)) then if (0 : Int) ≤ t14.2.2.1 then if t14.2.2.1 < (List.length t14.2.2.2.2.2.2.2.2.2 : Int) then if (0 : Int) ≤ t14.2.1 then if t14.2.1 < (List.length t14.2.2.2.2.2.2.2.2.2 : Int) then some ((y0 t14.2.2.2.2.2.2.2.2.2 t14.2.2.1).2.2.2.1 == (y0 t14.2.2.2.2.2.2.2.2.2 t14.2.1).2.2.2.1) else none else none else none else none else some false) fun u4 => bif u4 then k0 (false, t14.1, t14.2.1, t14.2.2.2) else again (t14.1, t14.2.1, (Go.IntKind.wrap .i64 (t14.2.2.1 + (1 : Int))), t14.2.2.2.1, t14.2.2.2.2.1, t14.2.2.2.2.2.1, t14.2.2.2.2.2.2.1, t14.2.2.2.2.2.2.2.1, t14.2.2.2.2.2.2.2.2.1, t14.2.2.2.2.2.2.2.2.2) else none else none else k1 (t14.1, t14.2.1, t14.2.2.2)
def kP k0 k1 := zx (@ZN R k0 k1) zO
abbrev KO : Type := yfB
def jx (k0 : yvJ → Option R) (k1 : yei → Option R) (again : KO → Option R) (t4 : KO) : Option R :=
 bif (decide (t4.2.1 < (List.length t4.2.2.2.2.2.2.2.2 : Int))) then if (0 : Int) ≤ t4.2.1 then if t4.2.1 < (List.length t4.2.2.2.2.2.2.2.2 : Int) then Option.bind (zG (t4.2.2.2.2.1, (y0 t4.2.2.2.2.2.2.2.2 t4.2.1).2.1)) fun r2 => bif (decide (r2 < (0 : Int))) then k0 (false, t4.1, t4.2.2.1, t4.2.2.2.1, t4.2.2.2.2.1, t4.2.2.2.2.2.1, t4.2.2.2.2.2.2.1, t4.2.2.2.2.2.2.2.1) else if (0 : Int) ≤ t4.2.1 then if t4.2.1 < (List.length t4.2.2.2.2.2.2.2.2 : Int) then bif ((y0 t4.2.2.2.2.2.2.2.2 t4.2.1).2.2.1 != (1 : Int)) then again (t4.1, (Go.IntKind.wrap .i64 (t4.2.1 + (1 : Int))), t4.2.2.1, t4.2.2.2.1, t4.2.2.2.2.1, t4.2.2.2.2.2.1, t4.2.2.2.2.2.2.1, t4.2.2.2.2.2.2.2.1, t4.2.2.2.2.2.2.2.2) else if (0 : Int) ≤ t4.2.1 then if t4.2.1 < (List.length t4.2.2.2.2.2.2.2.2 : Int) then if (0 : Int) ≤ t4.2.1 then if t4.2.1 < (List.length t4.2.2.2.2.2.2.2.2 : Int) then Option.bind (JJ (t4.2.2.2.2.2.1, (y0 t4.2.2.2.2.2.2.2.2 t4.2.1).2.2.2.1, (y0 t4.2.2.2.2.2.2.2.2 t4.2.1).2.2.2.2)) fun r3 => bif (!r3.2) then k0 (false, (Go.IntKind.wrap .i64 (t4.1 + (1 : Int))), t4.2.2.1, t4.2.2.2.1, t4.2.2.2.2.1, t4.2.2.2.2.2.1, t4.2.2.2.2.2.2.1, t4.2.2.2.2.2.2.2.1) else kP (fun x5 => k0 (x5.1, x5.2.1, x5.2.2.2.1, x5.2.2.2.2.1, x5.2.2.2.2.2.1, x5.2.2.2.2.2.2.1, x5.2.2.2.2.2.2.2.1, x5.2.2.2.2.2.2.2.2.1)) (fun x6 => again (x6.1, (Go.IntKind.wrap .i64 (x6.2.1 + (1 : Int))), x6.2.2.1, x6.2.2.2.1, x6.2.2.2.2.1, x6.2.2.2.2.2.1, x6.2.2.2.2.2.2.1, x6.2.2.2.2.2.2.2.1, x6.2.2.2.2.2.2.2.2)) ((Go.IntKind.wrap .i64 (t4.1 + (1 : Int))), t4.2.1, (0 : Int), t4.2.2.1, t4.2.2.2.1, t4.2.2.2.2.1, t4.2.2.2.2.2.1, t4.2.2.2.2.2.2.1, t4.2.2.2.2.2.2.2.1, t4.2.2.2.2.2.2.2.2) else none else none else none else none else none else none else none else none else k1 (t4.1, t4.2.2.1, t4.2.2.2.1, t4.2.2.2.2.1, t4.2.2.2.2.2.1, t4.2.2.2.2.2.2.1, t4.2.2.2.2.2.2.2.1)
def Qc k0 k1 := zx (@jx R k0 k1) zO
def wi (x : Qv) : Option Bool :=
 Option.bind (yu (x.1, x.2.1)) fun r1 => Qc (fun x7 => some x7.1) (fun x8 => Option.bind (YV x8.2.2.2.2.1) fun r9 => some (x8.1 == r9)) ((0 : Int), (0 : Int), x.1, x.2.1, x.2.2.1, x.2.2.2.1, x.2.2.2.2.1, x.2.2.2.2.2, r1)
def yeG : List QF := [yfC, yC2, ymK, yDu]
def y4E (t : ync) : St := ⟨.dead :: .box 1 0 :: .dead :: .own 10000000 :: vI t.1 :: vI t.2.1 :: dd 2 (vI t.2.2.1 :: dd 73 []), [(1, .box [yU t.2.2.2.1, yt t.2.2.2.2.1, za t.2.2.2.2.2.1, yL t.2.2.2.2.2.2.1, zP t.2.2.2.2.2.2.2.1, vI t.2.2.2.2.2.2.2.2.1]), (10000000, .root true 64 yi t.2.2.2.2.2.2.2.2.2)]⟩
def yeH : Gk kO := fun κ => ZN (fun t => κ none ⟨.dead :: .box 1 0 :: vB t.1 :: .own 10000000 :: vI t.2.1 :: vI t.2.2.1 :: dd 76 [], [(1, .box [yU t.2.2.2.1, yt t.2.2.2.2.1, za t.2.2.2.2.2.1, yL t.2.2.2.2.2.2.1, zP t.2.2.2.2.2.2.2.1, vI t.2.2.2.2.2.2.2.2.1]), (10000000, .root true 64 yi t.2.2.2.2.2.2.2.2.2)]⟩) (fun t => κ (some 2) ⟨.dead :: .box 1 0 :: .dead :: .own 10000000 :: vI t.1 :: vI t.2.1 :: dd 76 [], [(1, .box [yU t.2.2.1, yt t.2.2.2.1, za t.2.2.2.2.1, yL t.2.2.2.2.2.1, zP t.2.2.2.2.2.2.1, vI t.2.2.2.2.2.2.2.1]), (10000000, .root true 64 yi t.2.2.2.2.2.2.2.2)]⟩)
def y7b (t : yfB) : St := ⟨.dead :: .box 1 0 :: .dead :: .own 10000000 :: vI t.1 :: vI t.2.1 :: dd 76 [], [(1, .box [yU t.2.2.1, yt t.2.2.2.1, za t.2.2.2.2.1, yL t.2.2.2.2.2.1, zP t.2.2.2.2.2.2.1, vI t.2.2.2.2.2.2.2.1]), (10000000, .root true 64 yi t.2.2.2.2.2.2.2.2)]⟩
def yiu : Gk KO := fun κ => jx (fun t => κ none ⟨.dead :: .box 1 0 :: vB t.1 :: .dead :: vI t.2.1 :: dd 77 [], [(1, .box [yU t.2.2.1, yt t.2.2.2.1, za t.2.2.2.2.1, yL t.2.2.2.2.2.1, zP t.2.2.2.2.2.2.1, vI t.2.2.2.2.2.2.2])]⟩) (fun t => κ (some 0) ⟨.dead :: .box 1 0 :: dd 2 (vI t.1 :: dd 77 []), [(1, .box [yU t.2.1, yt t.2.2.1, za t.2.2.2.1, yL t.2.2.2.2.1, zP t.2.2.2.2.2.1, vI t.2.2.2.2.2.2])]⟩)
def yeI : Lp := lpC 4 (unG yi0 y7b) @yiu (lpC 14 (unG yv8 y4E) @yeH lpN)
theorem ykE : LF yeG yeI 216 14 Tryz.f216 1 y4E @yeH fun t => t := fun R κ again t => by kernel_rfl
theorem ykF : LK yeG yeI 216 Tryz.f216 1 := lkN (u := (unG yv8 y4E)) (yp fun t => by kernel_rfl) ykE
theorem ysB : LF yeG yeI 216 4 Tryz.f216 0 y7b @yiu fun t => t := fun R κ again t => by kernel_rfl
theorem ysC : LK yeG yeI 216 Tryz.f216 0 := lkN (u := (unG yi0 y7b)) (yp fun t => by kernel_rfl) ysB
theorem yx8 : EV yeG yeI 216 Tryz.f216 ypA zY [.bool] wi := fun x => by kernel_rfl
def yDv : QF := ⟨216, wi, okN (n := 2) Tryz.func216 ⟨ysC, ykF, trivial⟩ yx8⟩
abbrev vG : Type := yei
def Jg (k0 : ygj → Option R) (k1 : Qv → Option R) (again : vG → Option R) (t2 : vG) : Option R :=
 bif (decide (t2.1 < (List.length t2.2.2.2.1 : Int))) then if (0 : Int) ≤ t2.1 then if t2.1 < (List.length t2.2.2.2.1 : Int) then bif (decide ((yC t2.2.2.2.1 t2.1).1 ≥ t2.2.2.2.2.2.2)) then k0 (false, t2.2) else again ((Go.IntKind.wrap .i64 (t2.1 + (1 : Int))), t2.2.1, t2.2.2.1, t2.2.2.2.1, t2.2.2.2.2.1, t2.2.2.2.2.2.1, t2.2.2.2.2.2.2) else none else none else k1 t2.2
def QR k0 k1 := zx (@Jg R k0 k1) zO
def yH (x : Qv) : Option Bool :=
 QR (fun x1 => some x1.1) (fun x2 => Option.bind (Y9 (x2.1, x2.2.1)) fun r3 => Option.bind (bif r3 then Option.bind (Z5 x2.2.2.1) fun r5 => some r5 else some false) fun u4 => Option.bind (bif u4 then Option.bind (Zt x2.2.2.2.1) fun r7 => some r7 else some false) fun u6 => Option.bind (bif u6 then Option.bind (yD (x2.2.2.2.2.2, (1 : Int), (61 : Int))) fun r9 => some r9 else some false) fun u8 => Option.bind (bif u8 then Option.bind (wh x2) fun r11 => some r11 else some false) fun u10 => Option.bind (bif u10 then Option.bind (wi x2) fun r13 => some r13 else some false) fun u12 => some u12) ((0 : Int), x.1, x.2.1, x.2.2.1, x.2.2.2.1, x.2.2.2.2.1, x.2.2.2.2.2)
def yx9 : List QF := [q96, yC1, ywY, yx1, yDt, yDv]
def yb3 (t : yei) : St := ⟨.dead :: .box 1 0 :: .dead :: vI t.1 :: dd 42 [], [(1, .box [yU t.2.1, yt t.2.2.1, za t.2.2.2.1, yL t.2.2.2.2.1, zP t.2.2.2.2.2.1, vI t.2.2.2.2.2.2])]⟩
def ysD : Gk vG := fun κ => Jg (fun t => κ none ⟨.dead :: .box 1 0 :: vB t.1 :: dd 43 [], [(1, .box [yU t.2.1, yt t.2.2.1, za t.2.2.2.1, yL t.2.2.2.2.1, zP t.2.2.2.2.2.1, vI t.2.2.2.2.2.2])]⟩) (fun t => κ (some 0) ⟨.dead :: .box 1 0 :: dd 44 [], [(1, .box [yU t.1, yt t.2.1, za t.2.2.1, yL t.2.2.2.1, zP t.2.2.2.2.1, vI t.2.2.2.2.2])]⟩)
def yxa : Lp := lpC 2 (unG ymI yb3) @ysD lpN
theorem yxb : LF yx9 yxa 95 2 Tryz.f95 0 yb3 @ysD fun t => t := fun R κ again t => by kernel_rfl
theorem yxc : LK yx9 yxa 95 Tryz.f95 0 := lkN (u := (unG ymI yb3)) (yp fun t => by kernel_rfl) yxb
theorem yDw : EV yx9 yxa 95 Tryz.f95 yBk zY [.bool] yH := fun x => by kernel_rfl
def q95 : QF := ⟨95, yH, okN (n := 1) Tryz.func95 ⟨yxc, trivial⟩ yDw⟩
def yP (x : yCR) : Option yao :=
 Option.bind (bif (!x.2.2.2.2.2.2.2.2.2.2.2.2) then some true else Option.bind (yH (x.2.2.2.2.2.2.1, x.2.2.2.2.2.2.2.1, x.2.2.2.2.2.2.2.2.1, x.2.2.2.2.2.2.2.2.2.1, x.2.2.2.2.2.2.2.2.2.2.1, x.2.2.2.2.2.2.2.2.2.2.2.1)) fun r2 => some (!r2)) fun u1 => bif u1 then Option.bind (ym (x.1, x.2.1, x.2.2.1, x.2.2.2.1, x.2.2.2.2.1, x.2.2.2.2.2.1)) fun r3 => some (r3.1, r3.2.1, r3.2.2.1, r3.2.2.2.1, r3.2.2.2.2.1, r3.2.2.2.2.2, (6 : Int)) else some (x.2.2.2.2.2.2.1, x.2.2.2.2.2.2.2.1, x.2.2.2.2.2.2.2.2.1, x.2.2.2.2.2.2.2.2.2.1, x.2.2.2.2.2.2.2.2.2.2.1, x.2.2.2.2.2.2.2.2.2.2.2.1, (0 : Int))
theorem yxd : EV [q94, q95] lpN 177 Tryz.f177 ypB yCS yap yP := fun x => by kernel_rfl
def ymL : QF := ⟨177, yP, okN (n := 0) Tryz.func177 trivial yxd⟩
def Zu (x : yuY) : Option Int :=
 Option.bind (yH (x.1, x.2.1, x.2.2.1, x.2.2.2.1, x.2.2.2.2.1, x.2.2.2.2.2.1)) fun r1 => Option.bind (bif (!r1) then some true else Option.bind (Ya x.2.2.2.2.2.2) fun r3 => some (!r3)) fun u2 => bif u2 then some (1 : Int) else some (0 : Int)
theorem yxe : EV [q95, yvl] lpN 173 Tryz.f173 ypC yuZ [(.int .i64)] Zu := fun x => by kernel_rfl
def yxf : QF := ⟨173, Zu, okN (n := 0) Tryz.func173 trivial yxe⟩
def JK (x : yuY) : Option Int :=
 Option.bind (Zu x) fun r1 => Option.bind (bif (r1 == (0 : Int)) then Option.bind (zm x) fun r3 => some (decide (r3 < (0 : Int))) else some false) fun u2 => bif u2 then some (2 : Int) else some r1
theorem yxg : EV [yxf, yi9] lpN 179 Tryz.f179 ypD yuZ [(.int .i64)] JK := fun x => by kernel_rfl
def yC3 : QF := ⟨179, JK, okN (n := 0) Tryz.func179 trivial yxg⟩
def jk (x : yuY) : Option yao :=
 Option.bind (ym (x.1, x.2.1, x.2.2.1, x.2.2.2.1, x.2.2.2.2.1, x.2.2.2.2.2.1)) fun r1 => Option.bind (JK x) fun r2 => bif (r2 != (0 : Int)) then some (r1.1, r1.2.1, r1.2.2.1, r1.2.2.2.1, r1.2.2.2.2.1, r1.2.2.2.2.2, r2) else Option.bind (zm x) fun r3 => if (0 : Int) ≤ (0 : Int) then if (0 : Int) ≤ r3 then if r3 ≤ (List.length x.2.2.2.2.1 : Int) then if (List.length ([] : List yl) + List.length (List.drop (Int.toNat (0 : Int)) (List.take (Int.toNat r3) x.2.2.2.2.1))) * 40 < 140737488355328 then if (0 : Int) ≤ (Go.IntKind.wrap .i64 (r3 + (1 : Int))) then if (Go.IntKind.wrap .i64 (r3 + (1 : Int))) ≤ (List.length x.2.2.2.2.1 : Int) then if (List.length x.2.2.2.2.1 : Int) ≤ (List.length x.2.2.2.2.1 : Int) then if (List.length (([] : List yl) ++ (List.drop (Int.toNat (0 : Int)) (List.take (Int.toNat r3) x.2.2.2.2.1))) + List.length (List.drop (Int.toNat (Go.IntKind.wrap .i64 (r3 + (1 : Int)))) (List.take (Int.toNat (List.length x.2.2.2.2.1 : Int)) x.2.2.2.2.1))) * 40 < 140737488355328 then Option.bind (yP (x.1, x.2.1, x.2.2.1, x.2.2.2.1, x.2.2.2.2.1, x.2.2.2.2.2.1, r1.1, r1.2.1, r1.2.2.1, r1.2.2.2.1, ((([] : List yl) ++ (List.drop (Int.toNat (0 : Int)) (List.take (Int.toNat r3) x.2.2.2.2.1))) ++ (List.drop (Int.toNat (Go.IntKind.wrap .i64 (r3 + (1 : Int)))) (List.take (Int.toNat (List.length x.2.2.2.2.1 : Int)) x.2.2.2.2.1))), r1.2.2.2.2.2, true)) fun r4 => some r4 else none else none else none else none else none else none else none else none
theorem yDx : EV [q94, yi9, ymL, yC3] lpN 64 Tryz.f64 yBl yuZ yap jk := fun x => by kernel_rfl
def q64 : QF := ⟨64, jk, okN (n := 0) Tryz.func64 trivial yDx⟩
abbrev VG : Type := y9g
def Kg (k0 : yAL → Option R) (again : VG → Option R) (t3 : VG) : Option R :=
 Option.bind (bif (decide (t3.2.2 < (List.length t3.1 : Int))) then some (decide (t3.2.2 < (4000 : Int))) else some false) fun u1 => bif u1 then if (0 : Int) ≤ t3.2.2 then if t3.2.2 < (List.length t3.1 : Int) then again (t3.1, (Go.bits .and .i64 (Go.IntKind.wrap .i64 ((Go.IntKind.wrap .i64 ((Go.IntKind.wrap .i64 (t3.2.1 * (137 : Int))) + (Go.IntKind.wrap .i64 (yn2 t3.1 t3.2.2)))) + (11 : Int))) (1073741823 : Int)), (Go.IntKind.wrap .i64 (t3.2.2 + (1 : Int)))) else none else none else k0 (t3.1, t3.2.1)
def y5l k0 := zx (@Kg R k0) zO
def wW (x : List Vh) : Option y9g :=
 y5l (fun x2 => some (x2.1, (0 : Int), x2.2)) (x, (Go.IntKind.wrap .i64 ((941941 : Int) + (List.length x : Int))), (0 : Int))
def ykG : List QF := []
def y7c (t : y9g) : St := ⟨y5c t.1 :: dd 2 (vI t.2.1 :: vI t.2.2 :: dd 27 []), []⟩
def yiv : Gk VG := fun κ => Kg (fun t => κ (some 0) ⟨y5c t.1 :: dd 2 (vI t.2 :: dd 28 []), []⟩)
def ykH : Lp := lpC 3 (unG qg y7c) @yiv lpN
theorem ysE : LF ykG ykH 112 3 Tryz.f112 0 y7c @yiv fun t => t := fun R κ again t => by kernel_rfl
theorem ysF : LK ykG ykH 112 Tryz.f112 0 := lkN (u := (unG qg y7c)) (yp fun t => by kernel_rfl) ysE
theorem yxh : EV ykG ykH 112 Tryz.f112 ypE [(.sl 5 Yo)] qg wW := fun x => by kernel_rfl
def yxi : QF := ⟨112, wW, okN (n := 1) Tryz.func112 ⟨ysF, trivial⟩ yxh⟩
def JL (x : yAL) : Option Int :=
 bif (decide ((Go.IntKind.wrap .i64 ((3 : Int) + (Go.IntKind.wrap .i64 (Int.tdiv (List.length x.1 : Int) (12 : Int))))) > x.2)) then some x.2 else some (Go.IntKind.wrap .i64 ((3 : Int) + (Go.IntKind.wrap .i64 (Int.tdiv (List.length x.1 : Int) (12 : Int)))))
theorem yxj : EV [] lpN 114 Tryz.f114 ypF yCT [(.int .i64)] JL := fun x => by kernel_rfl
def yC4 : QF := ⟨114, JL, okN (n := 0) Tryz.func114 trivial yxj⟩
def Z7 (x : y9g) : Option ygk :=
 bif (decide (x.2.1 < (List.length x.1 : Int))) then if (0 : Int) ≤ x.2.1 then if x.2.1 < (List.length x.1 : Int) then some ((Go.bits .and .i64 (Go.IntKind.wrap .i64 ((Go.bits .and .i64 (Go.bits .xor .i64 (Int.fdiv (Go.IntKind.wrap .i64 ((Go.IntKind.wrap .i64 (x.2.2 * (6364136223846793005 : Int))) + (1442695040888963407 : Int))) (2 ^ (min (Int.toNat (33 : Int)) (Go.IntKind.bits .i64)))) (Int.fdiv (Go.IntKind.wrap .i64 ((Go.IntKind.wrap .i64 (x.2.2 * (6364136223846793005 : Int))) + (1442695040888963407 : Int))) (2 ^ (min (Int.toNat (47 : Int)) (Go.IntKind.bits .i64))))) (255 : Int)) + (Go.IntKind.wrap .i64 (yn2 x.1 x.2.1)))) (255 : Int)), x.1, (Go.IntKind.wrap .i64 (x.2.1 + (1 : Int))), (Go.IntKind.wrap .i64 ((Go.IntKind.wrap .i64 (x.2.2 * (6364136223846793005 : Int))) + (1442695040888963407 : Int)))) else none else none else some ((Go.bits .and .i64 (Go.bits .xor .i64 (Int.fdiv (Go.IntKind.wrap .i64 ((Go.IntKind.wrap .i64 (x.2.2 * (6364136223846793005 : Int))) + (1442695040888963407 : Int))) (2 ^ (min (Int.toNat (33 : Int)) (Go.IntKind.bits .i64)))) (Int.fdiv (Go.IntKind.wrap .i64 ((Go.IntKind.wrap .i64 (x.2.2 * (6364136223846793005 : Int))) + (1442695040888963407 : Int))) (2 ^ (min (Int.toNat (47 : Int)) (Go.IntKind.bits .i64))))) (255 : Int)), x.1, x.2.1, (Go.IntKind.wrap .i64 ((Go.IntKind.wrap .i64 (x.2.2 * (6364136223846793005 : Int))) + (1442695040888963407 : Int))))
theorem yxk : EV [] lpN 263 Tryz.f263 ypG qg ymJ Z7 := fun x => by kernel_rfl
def yDy : QF := ⟨263, Z7, okN (n := 0) Tryz.func263 trivial yxk⟩
def yc (x : yi1) : Option ygk :=
 bif (decide (x.2.2.2 ≤ (0 : Int))) then some ((0 : Int), x.1, x.2.1, x.2.2.1) else bif (decide (x.2.2.2 ≤ (256 : Int))) then Option.bind (Z7 (x.1, x.2.1, x.2.2.1)) fun r1 => if x.2.2.2 = 0 then none else some ((Int.tmod r1.1 x.2.2.2), r1.2.1, r1.2.2.1, r1.2.2.2) else Option.bind (Z7 (x.1, x.2.1, x.2.2.1)) fun r2 => Option.bind (Z7 r2.2) fun r3 => Option.bind (Z7 r3.2) fun r4 => if x.2.2.2 = 0 then none else some ((Int.tmod (Go.IntKind.wrap .i64 ((Go.IntKind.wrap .i64 ((Go.IntKind.wrap .i64 (r2.1 * (65536 : Int))) + (Go.IntKind.wrap .i64 (r3.1 * (256 : Int))))) + r4.1)) x.2.2.2), r4.2.1, r4.2.2.1, r4.2.2.2)
theorem yxl : EV [yDy] lpN 145 Tryz.f145 ypH yi2 ymJ yc := fun x => by kernel_rfl
def y5d : QF := ⟨145, yc, okN (n := 0) Tryz.func145 trivial yxl⟩
def yr (x : yCU) : Option ygk :=
 Option.bind (yc (x.1, x.2.1, x.2.2.1, (List.length x.2.2.2 : Int))) fun r1 => if (0 : Int) ≤ r1.1 then if r1.1 < (List.length x.2.2.2 : Int) then some ((zl x.2.2.2 r1.1), r1.2.1, r1.2.2.1, r1.2.2.2) else none else none
theorem yDz : EV [y5d] lpN 90 Tryz.f90 yBm yCV ymJ yr := fun x => by kernel_rfl
def q90 : QF := ⟨90, yr, okN (n := 0) Tryz.func90 trivial yDz⟩
def Jh (x : yCW) : Option yAM :=
 Option.bind (yc (x.1, x.2.1, x.2.2.1, (List.length x.2.2.2 : Int))) fun r1 => if (0 : Int) ≤ r1.1 then if r1.1 < (List.length x.2.2.2 : Int) then some ((yed x.2.2.2 r1.1), r1.2.1, r1.2.2.1, r1.2.2.2) else none else none
theorem yxm : EV [y5d] lpN 240 Tryz.f240 ypI yCX yAN Jh := fun x => by kernel_rfl
def yxn : QF := ⟨240, Jh, okN (n := 0) Tryz.func240 trivial yxm⟩
def zM (x : y9g) : Option yAM :=
 Option.bind (Jh (x.1, x.2.1, x.2.2, ([{ data := #[97] }, { data := #[98] }, { data := #[99] }, { data := #[100] }, { data := #[101, 53] }] : List qR))) fun r1 => some r1
theorem yxo : EV [yxn] lpN 236 Tryz.f236 ypJ qg yAN zM := fun x => by kernel_rfl
def yC5 : QF := ⟨236, zM, okN (n := 0) Tryz.func236 trivial yxo⟩
def Yw (x : y9g) : Option ygk :=
 Option.bind (yc (x.1, x.2.1, x.2.2, (200 : Int))) fun r1 => Option.bind (yr (r1.2.1, r1.2.2.1, r1.2.2.2, ([(0 : Int), (1 : Int), (2 : Int), (7 : Int), (65535 : Int), (Go.IntKind.wrap .i64 ((1 : Int) + r1.1))] : List ye))) fun r2 => some r2
theorem yxp : EV [q90, y5d] lpN 241 Tryz.f241 ypK qg ymJ Yw := fun x => by kernel_rfl
def yDA : QF := ⟨241, Yw, okN (n := 0) Tryz.func241 trivial yxp⟩
def Zv (x : y9g) : Option yCY :=
 Option.bind (yr (x.1, x.2.1, x.2.2, ([(1 : Int), (1 : Int), (1 : Int), (2 : Int), (2 : Int), (3 : Int), (4 : Int), (4 : Int), (4 : Int), (4 : Int), (4 : Int), (4 : Int), (5 : Int), (6 : Int), (7 : Int), (7 : Int), (8 : Int), (9 : Int)] : List ye))) fun r1 => bif (decide (r1.1 < (7 : Int))) then Option.bind (Jh (r1.2.1, r1.2.2.1, r1.2.2.2, ([{ data := #[97] }, { data := #[97] }, { data := #[98] }, { data := #[99] }, { data := #[100] }] : List qR))) fun r2 => bif (r1.1 == (1 : Int)) then bif (r1.1 == (1 : Int)) then Option.bind (yr (r2.2.1, r2.2.2.1, r2.2.2.2, ([(1 : Int), (3 : Int), (4 : Int), (12 : Int), (5 : Int)] : List ye))) fun r3 => some (r1.1, r2.1, (⟨#[]⟩ : ByteArray), r3.1, (0 : Int), r3.2.1, r3.2.2.1, r3.2.2.2) else bif (r1.1 == (2 : Int)) then Option.bind (zM r2.2) fun r4 => Option.bind (yr (r4.2.1, r4.2.2.1, r4.2.2.2, ([(0 : Int), (0 : Int), (0 : Int), (1 : Int)] : List ye))) fun r5 => some (r1.1, r2.1, r4.1, (0 : Int), r5.1, r5.2.1, r5.2.2.1, r5.2.2.2) else bif (r1.1 == (4 : Int)) then Option.bind (yc (r2.2.1, r2.2.2.1, r2.2.2.2, (5 : Int))) fun r6 => Option.bind (Yw r6.2) fun r7 => some (r1.1, r2.1, (⟨#[]⟩ : ByteArray), r6.1, r7.1, r7.2.1, r7.2.2.1, r7.2.2.2) else bif (r1.1 == (5 : Int)) then Option.bind (yc (r2.2.1, r2.2.2.1, r2.2.2.2, (5 : Int))) fun r8 => some (r1.1, r2.1, (⟨#[]⟩ : ByteArray), r8.1, (0 : Int), r8.2.1, r8.2.2.1, r8.2.2.2) else bif (r1.1 == (8 : Int)) then bif (r1.1 == (8 : Int)) then Option.bind (yc (r2.2.1, r2.2.2.1, r2.2.2.2, (6 : Int))) fun r9 => some (r1.1, r2.1, (⟨#[]⟩ : ByteArray), r9.1, (0 : Int), r9.2.1, r9.2.2.1, r9.2.2.2) else some (r1.1, r2.1, (⟨#[]⟩ : ByteArray), (0 : Int), (0 : Int), r2.2.1, r2.2.2.1, r2.2.2.2) else bif (r1.1 == (9 : Int)) then Option.bind (yc (r2.2.1, r2.2.2.1, r2.2.2.2, (6 : Int))) fun r10 => some (r1.1, r2.1, (⟨#[]⟩ : ByteArray), r10.1, (0 : Int), r10.2.1, r10.2.2.1, r10.2.2.2) else some (r1.1, r2.1, (⟨#[]⟩ : ByteArray), (0 : Int), (0 : Int), r2.2.1, r2.2.2.1, r2.2.2.2) else bif (r1.1 == (6 : Int)) then Option.bind (yr (r2.2.1, r2.2.2.1, r2.2.2.2, ([(1 : Int), (3 : Int), (4 : Int), (12 : Int), (5 : Int)] : List ye))) fun r11 => some (r1.1, r2.1, (⟨#[]⟩ : ByteArray), r11.1, (0 : Int), r11.2.1, r11.2.2.1, r11.2.2.2) else bif (r1.1 == (2 : Int)) then Option.bind (zM r2.2) fun r12 => Option.bind (yr (r12.2.1, r12.2.2.1, r12.2.2.2, ([(0 : Int), (0 : Int), (0 : Int), (1 : Int)] : List ye))) fun r13 => some (r1.1, r2.1, r12.1, (0 : Int), r13.1, r13.2.1, r13.2.2.1, r13.2.2.2) else bif (r1.1 == (4 : Int)) then Option.bind (yc (r2.2.1, r2.2.2.1, r2.2.2.2, (5 : Int))) fun r14 => Option.bind (Yw r14.2) fun r15 => some (r1.1, r2.1, (⟨#[]⟩ : ByteArray), r14.1, r15.1, r15.2.1, r15.2.2.1, r15.2.2.2) else bif (r1.1 == (5 : Int)) then Option.bind (yc (r2.2.1, r2.2.2.1, r2.2.2.2, (5 : Int))) fun r16 => some (r1.1, r2.1, (⟨#[]⟩ : ByteArray), r16.1, (0 : Int), r16.2.1, r16.2.2.1, r16.2.2.2) else bif (r1.1 == (8 : Int)) then bif (r1.1 == (8 : Int)) then Option.bind (yc (r2.2.1, r2.2.2.1, r2.2.2.2, (6 : Int))) fun r17 => some (r1.1, r2.1, (⟨#[]⟩ : ByteArray), r17.1, (0 : Int), r17.2.1, r17.2.2.1, r17.2.2.2) else some (r1.1, r2.1, (⟨#[]⟩ : ByteArray), (0 : Int), (0 : Int), r2.2.1, r2.2.2.1, r2.2.2.2) else bif (r1.1 == (9 : Int)) then Option.bind (yc (r2.2.1, r2.2.2.1, r2.2.2.2, (6 : Int))) fun r18 => some (r1.1, r2.1, (⟨#[]⟩ : ByteArray), r18.1, (0 : Int), r18.2.1, r18.2.2.1, r18.2.2.2) else some (r1.1, r2.1, (⟨#[]⟩ : ByteArray), (0 : Int), (0 : Int), r2.2.1, r2.2.2.1, r2.2.2.2) else bif (r1.1 == (1 : Int)) then bif (r1.1 == (1 : Int)) then Option.bind (yr (r1.2.1, r1.2.2.1, r1.2.2.2, ([(1 : Int), (3 : Int), (4 : Int), (12 : Int), (5 : Int)] : List ye))) fun r19 => some (r1.1, (⟨#[]⟩ : ByteArray), (⟨#[]⟩ : ByteArray), r19.1, (0 : Int), r19.2.1, r19.2.2.1, r19.2.2.2) else bif (r1.1 == (2 : Int)) then Option.bind (zM r1.2) fun r20 => Option.bind (yr (r20.2.1, r20.2.2.1, r20.2.2.2, ([(0 : Int), (0 : Int), (0 : Int), (1 : Int)] : List ye))) fun r21 => some (r1.1, (⟨#[]⟩ : ByteArray), r20.1, (0 : Int), r21.1, r21.2.1, r21.2.2.1, r21.2.2.2) else bif (r1.1 == (4 : Int)) then Option.bind (yc (r1.2.1, r1.2.2.1, r1.2.2.2, (5 : Int))) fun r22 => Option.bind (Yw r22.2) fun r23 => some (r1.1, (⟨#[]⟩ : ByteArray), (⟨#[]⟩ : ByteArray), r22.1, r23.1, r23.2.1, r23.2.2.1, r23.2.2.2) else bif (r1.1 == (5 : Int)) then Option.bind (yc (r1.2.1, r1.2.2.1, r1.2.2.2, (5 : Int))) fun r24 => some (r1.1, (⟨#[]⟩ : ByteArray), (⟨#[]⟩ : ByteArray), r24.1, (0 : Int), r24.2.1, r24.2.2.1, r24.2.2.2) else bif (r1.1 == (8 : Int)) then bif (r1.1 == (8 : Int)) then Option.bind (yc (r1.2.1, r1.2.2.1, r1.2.2.2, (6 : Int))) fun r25 => some (r1.1, (⟨#[]⟩ : ByteArray), (⟨#[]⟩ : ByteArray), r25.1, (0 : Int), r25.2.1, r25.2.2.1, r25.2.2.2) else some (r1.1, (⟨#[]⟩ : ByteArray), (⟨#[]⟩ : ByteArray), (0 : Int), (0 : Int), r1.2.1, r1.2.2.1, r1.2.2.2) else bif (r1.1 == (9 : Int)) then Option.bind (yc (r1.2.1, r1.2.2.1, r1.2.2.2, (6 : Int))) fun r26 => some (r1.1, (⟨#[]⟩ : ByteArray), (⟨#[]⟩ : ByteArray), r26.1, (0 : Int), r26.2.1, r26.2.2.1, r26.2.2.2) else some (r1.1, (⟨#[]⟩ : ByteArray), (⟨#[]⟩ : ByteArray), (0 : Int), (0 : Int), r1.2.1, r1.2.2.1, r1.2.2.2) else bif (r1.1 == (6 : Int)) then Option.bind (yr (r1.2.1, r1.2.2.1, r1.2.2.2, ([(1 : Int), (3 : Int), (4 : Int), (12 : Int), (5 : Int)] : List ye))) fun r27 => some (r1.1, (⟨#[]⟩ : ByteArray), (⟨#[]⟩ : ByteArray), r27.1, (0 : Int), r27.2.1, r27.2.2.1, r27.2.2.2) else bif (r1.1 == (2 : Int)) then Option.bind (zM r1.2) fun r28 => Option.bind (yr (r28.2.1, r28.2.2.1, r28.2.2.2, ([(0 : Int), (0 : Int), (0 : Int), (1 : Int)] : List ye))) fun r29 => some (r1.1, (⟨#[]⟩ : ByteArray), r28.1, (0 : Int), r29.1, r29.2.1, r29.2.2.1, r29.2.2.2) else bif (r1.1 == (4 : Int)) then Option.bind (yc (r1.2.1, r1.2.2.1, r1.2.2.2, (5 : Int))) fun r30 => Option.bind (Yw r30.2) fun r31 => some (r1.1, (⟨#[]⟩ : ByteArray), (⟨#[]⟩ : ByteArray), r30.1, r31.1, r31.2.1, r31.2.2.1, r31.2.2.2) else bif (r1.1 == (5 : Int)) then Option.bind (yc (r1.2.1, r1.2.2.1, r1.2.2.2, (5 : Int))) fun r32 => some (r1.1, (⟨#[]⟩ : ByteArray), (⟨#[]⟩ : ByteArray), r32.1, (0 : Int), r32.2.1, r32.2.2.1, r32.2.2.2) else bif (r1.1 == (8 : Int)) then bif (r1.1 == (8 : Int)) then Option.bind (yc (r1.2.1, r1.2.2.1, r1.2.2.2, (6 : Int))) fun r33 => some (r1.1, (⟨#[]⟩ : ByteArray), (⟨#[]⟩ : ByteArray), r33.1, (0 : Int), r33.2.1, r33.2.2.1, r33.2.2.2) else some (r1.1, (⟨#[]⟩ : ByteArray), (⟨#[]⟩ : ByteArray), (0 : Int), (0 : Int), r1.2.1, r1.2.2.1, r1.2.2.2) else bif (r1.1 == (9 : Int)) then Option.bind (yc (r1.2.1, r1.2.2.1, r1.2.2.2, (6 : Int))) fun r34 => some (r1.1, (⟨#[]⟩ : ByteArray), (⟨#[]⟩ : ByteArray), r34.1, (0 : Int), r34.2.1, r34.2.2.1, r34.2.2.2) else some (r1.1, (⟨#[]⟩ : ByteArray), (⟨#[]⟩ : ByteArray), (0 : Int), (0 : Int), r1.2.1, r1.2.2.1, r1.2.2.2)
theorem yxq : EV [q90, y5d, yC5, yxn, yDA] lpN 115 Tryz.f115 ypL qg yCZ Zv := fun x => by kernel_rfl
def yDB : QF := ⟨115, Zv, okN (n := 0) Tryz.func115 trivial yxq⟩
def jL (x : Unit) : Option y4D :=
 some (([(0 : Int)] : List ye), ([([] : List ya)] : List y8))
theorem yxr : EV [] lpN 312 Tryz.f312 ypM [] W8 jL := fun x => by kernel_rfl
def yC6 : QF := ⟨312, jL, okN (n := 0) Tryz.func312 trivial yxr⟩
def ZO (x : Unit) : Option (List yb) :=
 if (0 : Int) ≤ (24 : Int) then if (24 : Int) ≤ (24 : Int) then if (24 : Int) * ((24 : Nat) : Int) ≤ 140737488351232 then some (List.replicate (Int.toNat (24 : Int)) ZB) else none else none else none
theorem yxs : EV [] lpN 313 Tryz.f313 ypN [] [(.sl 113 yf)] ZO := fun x => by kernel_rfl
def yC7 : QF := ⟨313, ZO, okN (n := 0) Tryz.func313 trivial yxs⟩
def Kh (x : Unit) : Option Qv :=
 Option.bind (jL ()) fun r1 => Option.bind (ZO ()) fun r2 => some (r1.1, r1.2, ([] : List yd), r2, ([] : List yl), (1 : Int))
theorem yxt : EV [yC6, yC7] lpN 238 Tryz.f238 ypO [] zY Kh := fun x => by kernel_rfl
def yDC : QF := ⟨238, Kh, okN (n := 0) Tryz.func238 trivial yxt⟩
abbrev Wj : Type := yAO
def Wk (k0 : yD0 → Option R) (again : Wj → Option R) (t4 : Wj) : Option R :=
 bif (decide (t4.2.2.2.2.1 < (List.length t4.1 : Int))) then Option.bind (bif (!t4.2.2.2.1) then if (0 : Int) ≤ t4.2.2.2.2.1 then if t4.2.2.2.2.1 < (List.length t4.1 : Int) then some (decide ((yC t4.1 t4.2.2.2.2.1).1 > t4.2.1)) else none else none else some false) fun u2 => bif u2 then if (List.length t4.2.2.2.2.2 + List.length ([(t4.2.1, t4.2.2.1)] : List yd)) * 16 < 140737488355328 then if (0 : Int) ≤ t4.2.2.2.2.1 then if t4.2.2.2.2.1 < (List.length t4.1 : Int) then if (List.length (t4.2.2.2.2.2 ++ ([(t4.2.1, t4.2.2.1)] : List yd)) + List.length ([((yC t4.1 t4.2.2.2.2.1).1, (yC t4.1 t4.2.2.2.2.1).2)] : List yd)) * 16 < 140737488355328 then again (t4.1, t4.2.1, t4.2.2.1, true, (Go.IntKind.wrap .i64 (t4.2.2.2.2.1 + (1 : Int))), ((t4.2.2.2.2.2 ++ ([(t4.2.1, t4.2.2.1)] : List yd)) ++ ([((yC t4.1 t4.2.2.2.2.1).1, (yC t4.1 t4.2.2.2.2.1).2)] : List yd))) else none else none else none else none else if (0 : Int) ≤ t4.2.2.2.2.1 then if t4.2.2.2.2.1 < (List.length t4.1 : Int) then if (List.length t4.2.2.2.2.2 + List.length ([((yC t4.1 t4.2.2.2.2.1).1, (yC t4.1 t4.2.2.2.2.1).2)] : List yd)) * 16 < 140737488355328 then again (t4.1, t4.2.1, t4.2.2.1, t4.2.2.2.1, (Go.IntKind.wrap .i64 (t4.2.2.2.2.1 + (1 : Int))), (t4.2.2.2.2.2 ++ ([((yC t4.1 t4.2.2.2.2.1).1, (yC t4.1 t4.2.2.2.2.1).2)] : List yd))) else none else none else none else k0 (t4.1, t4.2.1, t4.2.2.1, t4.2.2.2.1, t4.2.2.2.2.2)
def QS k0 := zx (@Wk R k0) zO
def zU (x : yvG) : Option yn8 :=
 Option.bind (zG (x.1, x.2.1)) fun r1 => QS (fun x3 => bif (!x3.2.2.2.1) then if (List.length x3.2.2.2.2 + List.length ([(x3.2.1, x3.2.2.1)] : List yd)) * 16 < 140737488355328 then Option.bind (zG (x3.1, x3.2.1)) fun r4 => Option.bind (bif (decide (r4 ≥ (0 : Int))) then some true else Option.bind (Z5 (x3.2.2.2.2 ++ ([(x3.2.1, x3.2.2.1)] : List yd))) fun r6 => some (!r6)) fun u5 => bif u5 then if (List.length ([] : List yd) + List.length x3.1) * 16 < 140737488355328 then some ((([] : List yd) ++ x3.1), false) else none else some ((x3.2.2.2.2 ++ ([(x3.2.1, x3.2.2.1)] : List yd)), true) else none else Option.bind (zG (x3.1, x3.2.1)) fun r7 => Option.bind (bif (decide (r7 ≥ (0 : Int))) then some true else Option.bind (Z5 x3.2.2.2.2) fun r9 => some (!r9)) fun u8 => bif u8 then if (List.length ([] : List yd) + List.length x3.1) * 16 < 140737488355328 then some ((([] : List yd) ++ x3.1), false) else none else some (x3.2.2.2.2, true)) (x.1, x.2.1, x.2.2, (decide (r1 ≥ (0 : Int))), (0 : Int), ([] : List yd))
def ykI : List QF := [ywY, ymK]
def y7d (t : yAO) : St := ⟨za t.1 :: vI t.2.1 :: vI t.2.2.1 :: dd 5 (.own 10000000 :: vB t.2.2.2.1 :: vI t.2.2.2.2.1 :: dd 56 []), [(10000000, .root true 146 yk t.2.2.2.2.2)]⟩
def yiw : Gk Wj := fun κ => Wk (fun t => κ (some 0) ⟨za t.1 :: vI t.2.1 :: vI t.2.2.1 :: dd 5 (.own 10000000 :: vB t.2.2.2.1 :: dd 57 []), [(10000000, .root true 146 yk t.2.2.2.2)]⟩)
def ykJ : Lp := lpC 4 (unG yAP y7d) @yiw lpN
theorem ysG : LF ykI ykJ 175 4 Tryz.f175 0 y7d @yiw fun t => t := fun R κ again t => by kernel_rfl
theorem ysH : LK ykI ykJ 175 Tryz.f175 0 := lkN (u := (unG yAP y7d)) (yp fun t => by kernel_rfl) ysG
theorem yxu : EV ykI ykJ 175 Tryz.f175 ypP yvH yvI zU := fun x => by kernel_rfl
def yxv : QF := ⟨175, zU, okN (n := 1) Tryz.func175 ⟨ysH, trivial⟩ yxu⟩
abbrev jX : Type := yvK
def jY (k0 : yvK → Option R) (again : jX → Option R) (t3 : jX) : Option R :=
 Option.bind (bif (decide (t3.1 > (0 : Int))) then if (0 : Int) ≤ (Go.IntKind.wrap .i64 (t3.1 - (1 : Int))) then if (Go.IntKind.wrap .i64 (t3.1 - (1 : Int))) < (List.length t3.2.2.2.2.2 : Int) then some (!(Go.Op.bytesLess (ByteArray.toList ((yq t3.2.2.2.2.2 (Go.IntKind.wrap .i64 (t3.1 - (1 : Int)))).1)) (ByteArray.toList t3.2.1) || (ByteArray.toList ((yq t3.2.2.2.2.2 (Go.IntKind.wrap .i64 (t3.1 - (1 : Int)))).1)) == (ByteArray.toList t3.2.1))) else none else none else some false) fun u1 => bif u1 then if (0 : Int) ≤ (Go.IntKind.wrap .i64 (t3.1 - (1 : Int))) then if (Go.IntKind.wrap .i64 (t3.1 - (1 : Int))) < (List.length t3.2.2.2.2.2 : Int) then if (0 : Int) ≤ t3.1 then if t3.1 < (List.length t3.2.2.2.2.2 : Int) then again ((Go.IntKind.wrap .i64 (t3.1 - (1 : Int))), t3.2.1, t3.2.2.1, t3.2.2.2.1, t3.2.2.2.2.1, (List.set t3.2.2.2.2.2 (Int.toNat t3.1) ((yq t3.2.2.2.2.2 (Go.IntKind.wrap .i64 (t3.1 - (1 : Int)))).1, (yq t3.2.2.2.2.2 (Go.IntKind.wrap .i64 (t3.1 - (1 : Int)))).2.1, (yq t3.2.2.2.2.2 (Go.IntKind.wrap .i64 (t3.1 - (1 : Int)))).2.2.1, (yq t3.2.2.2.2.2 (Go.IntKind.wrap .i64 (t3.1 - (1 : Int)))).2.2.2))) else none else none else none else none else k0 t3
def Vs k0 := zx (@jY R k0) zO
def YW (x : yvL) : Option (List yl) :=
 if (List.length ([] : List yl) + List.length x.1) * 40 < 140737488355328 then if (List.length (([] : List yl) ++ x.1) + List.length ([x.2] : List yl)) * 40 < 140737488355328 then Vs (fun x2 => if (0 : Int) ≤ x2.1 then if x2.1 < (List.length x2.2.2.2.2.2 : Int) then some (List.set x2.2.2.2.2.2 (Int.toNat x2.1) (x2.2.1, x2.2.2.1, x2.2.2.2.1, x2.2.2.2.2.1)) else none else none) ((Go.IntKind.wrap .i64 (((List.length ((([] : List yl) ++ x.1) ++ ([x.2] : List yl)) : Nat) : Int) - (1 : Int))), x.2.1, x.2.2.1, x.2.2.2.1, x.2.2.2.2, ((([] : List yl) ++ x.1) ++ ([x.2] : List yl))) else none else none
def ykK : List QF := []
def y7e (t : yvK) : St := ⟨dd 3 (.box 3 0 :: .dead :: .own 10000000 :: vI t.1 :: dd 37 []), [(3, .box [vS t.2.1, vI t.2.2.1, vI t.2.2.2.1, vB t.2.2.2.2.1]), (10000000, .root true 46 yz t.2.2.2.2.2)]⟩
def yix : Gk jX := fun κ => jY (fun t => κ (some 0) ⟨dd 3 (.box 3 0 :: .dead :: .own 10000000 :: vI t.1 :: dd 37 []), [(3, .box [vS t.2.1, vI t.2.2.1, vI t.2.2.2.1, vB t.2.2.2.2.1]), (10000000, .root true 46 yz t.2.2.2.2.2)]⟩)
def ykL : Lp := lpC 3 (unG yAQ y7e) @yix lpN
theorem ysI : LF ykK ykL 176 3 Tryz.f176 0 y7e @yix fun t => t := fun R κ again t => by kernel_rfl
theorem ysJ : LK ykK ykL 176 Tryz.f176 0 := lkN (u := (unG yAQ y7e)) (yp fun t => by kernel_rfl) ysI
theorem yxw : EV ykK ykL 176 Tryz.f176 ypQ yvM [(.sl 46 yz)] YW := fun x => by kernel_rfl
def yC8 : QF := ⟨176, YW, okN (n := 1) Tryz.func176 ⟨ysJ, trivial⟩ yxw⟩
def JM (x : yv9) : Option yao :=
 Option.bind (Zu (x.1, x.2.1, x.2.2.1, x.2.2.2.1, x.2.2.2.2.1, x.2.2.2.2.2.1, x.2.2.2.2.2.2.1)) fun r1 => bif (r1 != (0 : Int)) then Option.bind (ym (x.1, x.2.1, x.2.2.1, x.2.2.2.1, x.2.2.2.2.1, x.2.2.2.2.2.1)) fun r2 => some (r2.1, r2.2.1, r2.2.2.1, r2.2.2.2.1, r2.2.2.2.2.1, r2.2.2.2.2.2, r1) else Option.bind (zm (x.1, x.2.1, x.2.2.1, x.2.2.2.1, x.2.2.2.2.1, x.2.2.2.2.2.1, x.2.2.2.2.2.2.1)) fun r3 => bif (decide (r3 ≥ (0 : Int))) then Option.bind (ym (x.1, x.2.1, x.2.2.1, x.2.2.2.1, x.2.2.2.2.1, x.2.2.2.2.2.1)) fun r4 => some (r4.1, r4.2.1, r4.2.2.1, r4.2.2.2.1, r4.2.2.2.2.1, r4.2.2.2.2.2, (3 : Int)) else Option.bind (yD (x.2.2.2.2.2.2.2, (1 : Int), (12 : Int))) fun r5 => bif (!r5) then Option.bind (ym (x.1, x.2.1, x.2.2.1, x.2.2.2.1, x.2.2.2.2.1, x.2.2.2.2.2.1)) fun r6 => some (r6.1, r6.2.1, r6.2.2.1, r6.2.2.2.1, r6.2.2.2.2.1, r6.2.2.2.2.2, (4 : Int)) else Option.bind (ym (x.1, x.2.1, x.2.2.1, x.2.2.2.1, x.2.2.2.2.1, x.2.2.2.2.2.1)) fun r7 => Option.bind (zU (x.2.2.1, x.2.2.2.2.2.1, (0 : Int))) fun r8 => Option.bind (YW (x.2.2.2.2.1, x.2.2.2.2.2.2.1, x.2.2.2.2.2.1, x.2.2.2.2.2.2.2, false)) fun r9 => Option.bind (yP (x.1, x.2.1, x.2.2.1, x.2.2.2.1, x.2.2.2.2.1, x.2.2.2.2.2.1, r7.1, r7.2.1, r8.1, r7.2.2.2.1, r9, (Go.IntKind.wrap .i64 (x.2.2.2.2.2.1 + (1 : Int))), r8.2)) fun r10 => some r10
theorem yDD : EV [q94, q96, yxf, yi9, yxv, yC8, ymL] lpN 59 Tryz.f59 yBn yva yap JM := fun x => by kernel_rfl
def q59 : QF := ⟨59, JM, okN (n := 0) Tryz.func59 trivial yDD⟩
def kQ (x : yD1) : Option yao :=
 Option.bind (Zu (x.1, x.2.1, x.2.2.1, x.2.2.2.1, x.2.2.2.2.1, x.2.2.2.2.2.1, x.2.2.2.2.2.2.1)) fun r1 => Option.bind (bif (r1 != (0 : Int)) then some true else Option.bind (Ya x.2.2.2.2.2.2.2.1) fun r3 => some (!r3)) fun u2 => bif u2 then Option.bind (ym (x.1, x.2.1, x.2.2.1, x.2.2.2.1, x.2.2.2.2.1, x.2.2.2.2.2.1)) fun r4 => some (r4.1, r4.2.1, r4.2.2.1, r4.2.2.2.1, r4.2.2.2.2.1, r4.2.2.2.2.2, (1 : Int)) else Option.bind (zm (x.1, x.2.1, x.2.2.1, x.2.2.2.1, x.2.2.2.2.1, x.2.2.2.2.2.1, x.2.2.2.2.2.2.1)) fun r5 => bif (decide (r5 < (0 : Int))) then Option.bind (ym (x.1, x.2.1, x.2.2.1, x.2.2.2.1, x.2.2.2.2.1, x.2.2.2.2.2.1)) fun r6 => some (r6.1, r6.2.1, r6.2.2.1, r6.2.2.2.1, r6.2.2.2.2.1, r6.2.2.2.2.2, (2 : Int)) else Option.bind (zm (x.1, x.2.1, x.2.2.1, x.2.2.2.1, x.2.2.2.2.1, x.2.2.2.2.2.1, x.2.2.2.2.2.2.2.1)) fun r7 => bif (decide (r7 ≥ (0 : Int))) then Option.bind (ym (x.1, x.2.1, x.2.2.1, x.2.2.2.1, x.2.2.2.2.1, x.2.2.2.2.2.1)) fun r8 => some (r8.1, r8.2.1, r8.2.2.1, r8.2.2.2.1, r8.2.2.2.2.1, r8.2.2.2.2.2, (3 : Int)) else Option.bind (ym (x.1, x.2.1, x.2.2.1, x.2.2.2.1, x.2.2.2.2.1, x.2.2.2.2.2.1)) fun r9 => Option.bind (zm (x.1, x.2.1, x.2.2.1, x.2.2.2.1, x.2.2.2.2.1, x.2.2.2.2.2.1, x.2.2.2.2.2.2.1)) fun r10 => if (0 : Int) ≤ r10 then if r10 < (List.length x.2.2.2.2.1 : Int) then Option.bind (zU (x.2.2.1, x.2.2.2.2.2.1, (yq x.2.2.2.2.1 r10).2.1)) fun r11 => if (0 : Int) ≤ r10 then if r10 < (List.length x.2.2.2.2.1 : Int) then Option.bind (zU (r11.1, (Go.IntKind.wrap .i64 (x.2.2.2.2.2.1 + (1 : Int))), (yq x.2.2.2.2.1 r10).2.1)) fun r12 => if (0 : Int) ≤ r10 then if r10 < (List.length r9.2.2.2.2.1 : Int) then if (0 : Int) ≤ r10 then if r10 < (List.length x.2.2.2.2.1 : Int) then Option.bind (YW ((List.set r9.2.2.2.2.1 (Int.toNat r10) ((yq r9.2.2.2.2.1 r10).1, x.2.2.2.2.2.1, (yq r9.2.2.2.2.1 r10).2.2)), x.2.2.2.2.2.2.2.1, (Go.IntKind.wrap .i64 (x.2.2.2.2.2.1 + (1 : Int))), (yq x.2.2.2.2.1 r10).2.2.1, x.2.2.2.2.2.2.2.2)) fun r13 => Option.bind (bif r11.2 then some r12.2 else some false) fun u14 => Option.bind (yP (x.1, x.2.1, x.2.2.1, x.2.2.2.1, x.2.2.2.2.1, x.2.2.2.2.2.1, r9.1, r9.2.1, r12.1, r9.2.2.2.1, r13, (Go.IntKind.wrap .i64 (x.2.2.2.2.2.1 + (2 : Int))), u14)) fun r15 => some r15 else none else none else none else none else none else none else none else none
theorem yDE : EV [q94, yxf, yi9, yxv, yC8, ymL, yvl] lpN 61 Tryz.f61 yBo yD2 yap kQ := fun x => by kernel_rfl
def q61 : QF := ⟨61, kQ, okN (n := 0) Tryz.func61 trivial yDE⟩
abbrev JN : Type := yAR
def JO (k0 : yD3 → Option R) (k1 : List yb → Option R) (again : JN → Option R) (t3 : JN) : Option R :=
 Option.bind (bif (decide (t3.2.2.1 < (List.length t3.1 : Int))) then Option.bind (Zt t3.1) fun r3 => some r3 else some false) fun u2 => Option.bind (bif u2 then Option.bind (zo t3.2.1) fun r5 => some r5 else some false) fun u4 => bif u4 then if (0 : Int) ≤ t3.2.2.1 then if t3.2.2.1 < (List.length t3.1 : Int) then bif (!((yA t3.1 t3.2.2.1).2.1)) then if (0 : Int) ≤ t3.2.2.1 then if t3.2.2.1 < (List.length t3.2.2.2 : Int) then if (0 : Int) ≤ t3.2.2.1 then if t3.2.2.1 < ((List.length (List.set t3.2.2.2 (Int.toNat t3.2.2.1) ((yA t3.2.2.2 t3.2.2.1).1, true, (yA t3.2.2.2 t3.2.2.1).2.2)) : Nat) : Int) then k0 (t3.2.2.1, true, (List.set (List.set t3.2.2.2 (Int.toNat t3.2.2.1) ((yA t3.2.2.2 t3.2.2.1).1, true, (yA t3.2.2.2 t3.2.2.1).2.2)) (Int.toNat t3.2.2.1) ((yA (List.set t3.2.2.2 (Int.toNat t3.2.2.1) ((yA t3.2.2.2 t3.2.2.1).1, true, (yA t3.2.2.2 t3.2.2.1).2.2)) t3.2.2.1).1, (yA (List.set t3.2.2.2 (Int.toNat t3.2.2.1) ((yA t3.2.2.2 t3.2.2.1).1, true, (yA t3.2.2.2 t3.2.2.1).2.2)) t3.2.2.1).2.1, t3.2.1))) else none else none else none else none else again (t3.1, t3.2.1, (Go.IntKind.wrap .i64 (t3.2.2.1 + (1 : Int))), t3.2.2.2) else none else none else k1 t3.2.2.2
def qq k0 k1 := zx (@JO R k0 k1) zO
def Ye (x : yn9) : Option yD4 :=
 Option.bind (Yv x.1) fun r1 => qq (fun x6 => some (x6.2.2, x6.1, x6.2.1)) (fun x7 => some (x7, (0 : Int), false)) (x.1, x.2, (0 : Int), r1)
def ykM : List QF := [yvk, ywD, yx1]
def y7f (t : yAR) : St := ⟨yL t.1 :: vI t.2.1 :: dd 5 (.own 10000000 :: vI t.2.2.1 :: dd 34 []), [(10000000, .root true 113 yf t.2.2.2)]⟩
def yiy : Gk JN := fun κ => JO (fun t => κ none ⟨dd 4 (.own 10000000 :: vI t.1 :: vB t.2.1 :: .own 10000000 :: dd 35 []), [(10000000, .root true 113 yf t.2.2)]⟩) (fun t => κ (some 0) ⟨dd 7 (.own 10000000 :: dd 35 []), [(10000000, .root true 113 yf t)]⟩)
def ykN : Lp := lpC 3 (unG yAS y7f) @yiy lpN
theorem ysK : LF ykM ykN 103 3 Tryz.f103 0 y7f @yiy fun t => t := fun R κ again t => by kernel_rfl
theorem ysL : LK ykM ykN 103 Tryz.f103 0 := lkN (u := (unG yAS y7f)) (yp fun t => by kernel_rfl) ysK
theorem yxx : EV ykM ykN 103 Tryz.f103 ypR yna yD5 Ye := fun x => by kernel_rfl
def yxy : QF := ⟨103, Ye, okN (n := 1) Tryz.func103 ⟨ysL, trivial⟩ yxx⟩
def YG (x : yv9) : Option Int :=
 Option.bind (JK (x.1, x.2.1, x.2.2.1, x.2.2.2.1, x.2.2.2.2.1, x.2.2.2.2.2.1, x.2.2.2.2.2.2.1)) fun r1 => bif (r1 != (0 : Int)) then some r1 else Option.bind (zm (x.1, x.2.1, x.2.2.1, x.2.2.2.1, x.2.2.2.2.1, x.2.2.2.2.2.1, x.2.2.2.2.2.2.1)) fun r2 => if (0 : Int) ≤ r2 then if r2 < (List.length x.2.2.2.2.1 : Int) then bif (yq x.2.2.2.2.1 r2).2.2.2 then some (5 : Int) else Option.bind (zm (x.1, x.2.1, x.2.2.1, x.2.2.2.1, x.2.2.2.2.1, x.2.2.2.2.2.1, x.2.2.2.2.2.2.1)) fun r3 => if (0 : Int) ≤ r3 then if r3 < (List.length x.2.2.2.2.1 : Int) then Option.bind (yD (x.2.2.2.2.2.2.2, (0 : Int), (Go.IntKind.wrap .i64 ((yq x.2.2.2.2.1 r3).2.2.1 - (1 : Int))))) fun r4 => bif (!r4) then some (4 : Int) else some (0 : Int) else none else none else none else none
theorem yxz : EV [q96, yi9, yC3] lpN 181 Tryz.f181 ypS yva [(.int .i64)] YG := fun x => by kernel_rfl
def yxA : QF := ⟨181, YG, okN (n := 0) Tryz.func181 trivial yxz⟩
abbrev wC : Type := yAT
def wD (k0 : Int → Option R) (again : wC → Option R) (t3 : wC) : Option R :=
 bif (decide (t3.2.2.2.1 < (List.length t3.2.2.2.2.1 : Int))) then if (0 : Int) ≤ t3.2.2.2.1 then if t3.2.2.2.1 < (List.length t3.2.2.2.2.1 : Int) then Option.bind (JH (t3.1, t3.2.1)) fun r1 => bif (decide ((zl t3.2.2.2.2.1 t3.2.2.2.1) ≤ r1)) then again (t3.1, t3.2.1, t3.2.2.2.1, (Go.IntKind.wrap .i64 (t3.2.2.2.1 + (1 : Int))), t3.2.2.2.2.1, t3.2.2.2.2.2) else again (t3.1, t3.2.1, t3.2.2.1, (Go.IntKind.wrap .i64 (t3.2.2.2.1 + (1 : Int))), t3.2.2.2.2.1, t3.2.2.2.2.2) else none else none else k0 t3.2.2.1
def Qd k0 := zx (@wD R k0) zO
def jM (x : yvb) : Option Int :=
 Qd (fun x2 => some x2) (x.2.2.1, x.2.2.2, (-1 : Int), (0 : Int), x.1, x.2.1)
def ykO : List QF := [yBX]
def y7g (t : yAT) : St := ⟨.dead :: vI t.1 :: vI t.2.1 :: .box 3 0 :: dd 3 (vI t.2.2.1 :: vI t.2.2.2.1 :: dd 18 []), [(3, .box [yU t.2.2.2.2.1, yt t.2.2.2.2.2])]⟩
def yiz : Gk wC := fun κ => wD (fun t => κ (some 0) ⟨dd 7 (vI t :: dd 19 []), []⟩)
def ykP : Lp := lpC 3 (unG yAU y7g) @yiz lpN
theorem ysM : LF ykO ykP 227 3 Tryz.f227 0 y7g @yiz fun t => t := fun R κ again t => by kernel_rfl
theorem ysN : LK ykO ykP 227 Tryz.f227 0 := lkN (u := (unG yAU y7g)) (yp fun t => by kernel_rfl) ysM
theorem yxB : EV ykO ykP 227 Tryz.f227 ypT yvc [(.int .i64)] jM := fun x => by kernel_rfl
def yC9 : QF := ⟨227, jM, okN (n := 1) Tryz.func227 ⟨ysN, trivial⟩ yxB⟩
def yR (x : List y9) : Option (List ya) :=
 bif ((List.length x : Int) == (0 : Int)) then some ([] : List ya) else if (List.length ([] : List y9) + List.length x) * 40 < 140737488355328 then some ([(([] : List y9) ++ x)] : List ya) else none
theorem yxC : EV [] lpN 234 Tryz.f234 ypU [(.sl 64 yi)] [(.sl 58 yn)] yR := fun x => by kernel_rfl
def yvm : QF := ⟨234, yR, okN (n := 0) Tryz.func234 trivial yxC⟩
abbrev VH : Type := yAV
def wj (k0 : yvd → Option R) (k1 : yfz → Option R) (again : VH → Option R) (t2 : VH) : Option R :=
 bif (decide (t2.2.2.2.1 < (List.length t2.1 : Int))) then if (0 : Int) ≤ t2.2.2.2.1 then if t2.2.2.2.1 < (List.length t2.1 : Int) then Option.bind (bif ((y0 t2.1 t2.2.2.2.1).1 == t2.2.1) then if (0 : Int) ≤ t2.2.2.2.1 then if t2.2.2.2.1 < (List.length t2.1 : Int) then some ((y0 t2.1 t2.2.2.2.1).2.1 == t2.2.2.1) else none else none else some false) fun u1 => bif u1 then if (0 : Int) ≤ t2.2.2.2.1 then if t2.2.2.2.1 < (List.length t2.1 : Int) then k0 (true, (y0 t2.1 t2.2.2.2.1).1, (y0 t2.1 t2.2.2.2.1).2.1, (y0 t2.1 t2.2.2.2.1).2.2.1, (y0 t2.1 t2.2.2.2.1).2.2.2.1, (y0 t2.1 t2.2.2.2.1).2.2.2.2) else none else none else again (t2.1, t2.2.1, t2.2.2.1, (Go.IntKind.wrap .i64 (t2.2.2.2.1 + (1 : Int))), t2.2.2.2.2.1, t2.2.2.2.2.2.1, t2.2.2.2.2.2.2.1, t2.2.2.2.2.2.2.2.1, t2.2.2.2.2.2.2.2.2) else none else none else k1 t2.2.2.2.2
def y17 k0 k1 := zx (@wj R k0 k1) zO
def wX (x : yAX) : Option ydt :=
 y17 (fun x2 => some (x2.2.1, x2.2.2.1, x2.2.2.2.1, x2.2.2.2.2.1, x2.2.2.2.2.2, x2.1)) (fun x3 => some ((0 : Int), (0 : Int), (0 : Int), (0 : Int), (0 : Int), false)) (x.1, x.2.1, x.2.2, (0 : Int), (0 : Int), (0 : Int), (0 : Int), (0 : Int), (0 : Int))
def ykQ : List QF := []
def y7h (t : yAV) : St := ⟨qf t.1 :: vI t.2.1 :: vI t.2.2.1 :: dd 3 (.box 6 0 :: .dead :: vI t.2.2.2.1 :: dd 27 []), [(6, .box [vI t.2.2.2.2.1, vI t.2.2.2.2.2.1, vI t.2.2.2.2.2.2.1, vI t.2.2.2.2.2.2.2.1, vI t.2.2.2.2.2.2.2.2])]⟩
def yiA : Gk VH := fun κ => wj (fun t => κ none ⟨dd 6 (.box 6 0 :: vB t.1 :: dd 28 []), [(6, .box [vI t.2.1, vI t.2.2.1, vI t.2.2.2.1, vI t.2.2.2.2.1, vI t.2.2.2.2.2])]⟩) (fun t => κ (some 0) ⟨dd 6 (.box 6 0 :: dd 29 []), [(6, .box [vI t.1, vI t.2.1, vI t.2.2.1, vI t.2.2.2.1, vI t.2.2.2.2])]⟩)
def ykR : Lp := lpC 2 (unG yAW y7h) @yiA lpN
theorem ysO : LF ykQ ykR 305 2 Tryz.f305 0 y7h @yiA fun t => t := fun R κ again t => by kernel_rfl
theorem ysP : LK ykQ ykR 305 Tryz.f305 0 := lkN (u := (unG yAW y7h)) (yp fun t => by kernel_rfl) ysO
theorem yxD : EV ykQ ykR 305 Tryz.f305 ypV yAY ydu wX := fun x => by kernel_rfl
def yCa : QF := ⟨305, wX, okN (n := 1) Tryz.func305 ⟨ysP, trivial⟩ yxD⟩
def Yz (x : yvN) : Option yAZ :=
 Option.bind (zh x.1) fun r1 => bif (decide ((Go.IntKind.wrap .i64 ((List.length r1 : Int) - (1 : Int))) ≥ (0 : Int))) then if (0 : Int) ≤ (Go.IntKind.wrap .i64 ((List.length r1 : Int) - (1 : Int))) then if (Go.IntKind.wrap .i64 ((List.length r1 : Int) - (1 : Int))) < (List.length r1 : Int) then Option.bind (wX ((yo r1 (Go.IntKind.wrap .i64 ((List.length r1 : Int) - (1 : Int)))), x.2.1, x.2.2.1)) fun r2 => Option.bind (bif (decide ((Go.IntKind.wrap .i64 ((List.length r1 : Int) - (1 : Int))) ≥ (0 : Int))) then if (0 : Int) ≤ (Go.IntKind.wrap .i64 ((List.length r1 : Int) - (1 : Int))) then if (Go.IntKind.wrap .i64 ((List.length r1 : Int) - (1 : Int))) < (List.length r1 : Int) then Option.bind (bif (decide (((List.length (yo r1 (Go.IntKind.wrap .i64 ((List.length r1 : Int) - (1 : Int)))) : Nat) : Int) < (4 : Int))) then some true else some r2.2.2.2.2.2) fun u4 => some u4 else none else none else some false) fun u3 => bif u3 then if (0 : Int) ≤ (Go.IntKind.wrap .i64 ((List.length r1 : Int) - (1 : Int))) then if (Go.IntKind.wrap .i64 ((List.length r1 : Int) - (1 : Int))) < (List.length r1 : Int) then Option.bind (zr ((yo r1 (Go.IntKind.wrap .i64 ((List.length r1 : Int) - (1 : Int)))), x.2.1, x.2.2.1, x.2.2.2.1, x.2.2.2.2.1, x.2.2.2.2.2)) fun r5 => if (0 : Int) ≤ (Go.IntKind.wrap .i64 ((List.length r1 : Int) - (1 : Int))) then if (Go.IntKind.wrap .i64 ((List.length r1 : Int) - (1 : Int))) < (List.length r1 : Int) then Option.bind (zn (List.set r1 (Int.toNat (Go.IntKind.wrap .i64 ((List.length r1 : Int) - (1 : Int)))) r5)) fun r6 => bif r6 then some ((List.set r1 (Int.toNat (Go.IntKind.wrap .i64 ((List.length r1 : Int) - (1 : Int)))) r5), true) else Option.bind (yE x.1) fun r7 => Option.bind (zr (r7, x.2)) fun r8 => Option.bind (zT r8) fun r9 => bif (decide ((List.length r9 : Int) > (8 : Int))) then Option.bind (zh x.1) fun r10 => some (r10, false) else Option.bind (yR r9) fun r11 => Option.bind (zn r11) fun r12 => bif (!r12) then Option.bind (zh x.1) fun r13 => some (r13, false) else Option.bind (yR r9) fun r14 => some (r14, true) else none else none else none else none else if (List.length r1 + List.length ([([x.2] : List y9)] : List ya)) * 24 < 140737488355328 then Option.bind (zn (r1 ++ ([([x.2] : List y9)] : List ya))) fun r15 => bif r15 then some ((r1 ++ ([([x.2] : List y9)] : List ya)), true) else Option.bind (yE x.1) fun r16 => Option.bind (zr (r16, x.2)) fun r17 => Option.bind (zT r17) fun r18 => bif (decide ((List.length r18 : Int) > (8 : Int))) then Option.bind (zh x.1) fun r19 => some (r19, false) else Option.bind (yR r18) fun r20 => Option.bind (zn r20) fun r21 => bif (!r21) then Option.bind (zh x.1) fun r22 => some (r22, false) else Option.bind (yR r18) fun r23 => some (r23, true) else none else none else none else Option.bind (bif (decide ((Go.IntKind.wrap .i64 ((List.length r1 : Int) - (1 : Int))) ≥ (0 : Int))) then if (0 : Int) ≤ (Go.IntKind.wrap .i64 ((List.length r1 : Int) - (1 : Int))) then if (Go.IntKind.wrap .i64 ((List.length r1 : Int) - (1 : Int))) < (List.length r1 : Int) then Option.bind (bif (decide (((List.length (yo r1 (Go.IntKind.wrap .i64 ((List.length r1 : Int) - (1 : Int)))) : Nat) : Int) < (4 : Int))) then some true else some false) fun u25 => some u25 else none else none else some false) fun u24 => bif u24 then if (0 : Int) ≤ (Go.IntKind.wrap .i64 ((List.length r1 : Int) - (1 : Int))) then if (Go.IntKind.wrap .i64 ((List.length r1 : Int) - (1 : Int))) < (List.length r1 : Int) then Option.bind (zr ((yo r1 (Go.IntKind.wrap .i64 ((List.length r1 : Int) - (1 : Int)))), x.2.1, x.2.2.1, x.2.2.2.1, x.2.2.2.2.1, x.2.2.2.2.2)) fun r26 => if (0 : Int) ≤ (Go.IntKind.wrap .i64 ((List.length r1 : Int) - (1 : Int))) then if (Go.IntKind.wrap .i64 ((List.length r1 : Int) - (1 : Int))) < (List.length r1 : Int) then Option.bind (zn (List.set r1 (Int.toNat (Go.IntKind.wrap .i64 ((List.length r1 : Int) - (1 : Int)))) r26)) fun r27 => bif r27 then some ((List.set r1 (Int.toNat (Go.IntKind.wrap .i64 ((List.length r1 : Int) - (1 : Int)))) r26), true) else Option.bind (yE x.1) fun r28 => Option.bind (zr (r28, x.2)) fun r29 => Option.bind (zT r29) fun r30 => bif (decide ((List.length r30 : Int) > (8 : Int))) then Option.bind (zh x.1) fun r31 => some (r31, false) else Option.bind (yR r30) fun r32 => Option.bind (zn r32) fun r33 => bif (!r33) then Option.bind (zh x.1) fun r34 => some (r34, false) else Option.bind (yR r30) fun r35 => some (r35, true) else none else none else none else none else if (List.length r1 + List.length ([([x.2] : List y9)] : List ya)) * 24 < 140737488355328 then Option.bind (zn (r1 ++ ([([x.2] : List y9)] : List ya))) fun r36 => bif r36 then some ((r1 ++ ([([x.2] : List y9)] : List ya)), true) else Option.bind (yE x.1) fun r37 => Option.bind (zr (r37, x.2)) fun r38 => Option.bind (zT r38) fun r39 => bif (decide ((List.length r39 : Int) > (8 : Int))) then Option.bind (zh x.1) fun r40 => some (r40, false) else Option.bind (yR r39) fun r41 => Option.bind (zn r41) fun r42 => bif (!r42) then Option.bind (zh x.1) fun r43 => some (r43, false) else Option.bind (yR r39) fun r44 => some (r44, true) else none
theorem yxE : EV [ywG, yvj, ykf, yvm, yBV, yCa, yC0] lpN 228 Tryz.f228 ypW yvO yB0 Yz := fun x => by kernel_rfl
def yCb : QF := ⟨228, Yz, okN (n := 0) Tryz.func228 trivial yxE⟩
def Ji (x : yD6) : Option y4D :=
 if (0 : Int) ≤ (0 : Int) then if (0 : Int) ≤ x.2.2.1 then if x.2.2.1 ≤ (List.length x.1 : Int) then if (List.length ([] : List ye) + List.length (List.drop (Int.toNat (0 : Int)) (List.take (Int.toNat x.2.2.1) x.1))) * 8 < 140737488355328 then if (List.length (([] : List ye) ++ (List.drop (Int.toNat (0 : Int)) (List.take (Int.toNat x.2.2.1) x.1))) + List.length x.2.2.2.1) * 8 < 140737488355328 then if (0 : Int) ≤ (Go.IntKind.wrap .i64 (x.2.2.1 + (1 : Int))) then if (Go.IntKind.wrap .i64 (x.2.2.1 + (1 : Int))) ≤ (List.length x.1 : Int) then if (List.length x.1 : Int) ≤ (List.length x.1 : Int) then if (List.length ((([] : List ye) ++ (List.drop (Int.toNat (0 : Int)) (List.take (Int.toNat x.2.2.1) x.1))) ++ x.2.2.2.1) + List.length (List.drop (Int.toNat (Go.IntKind.wrap .i64 (x.2.2.1 + (1 : Int)))) (List.take (Int.toNat (List.length x.1 : Int)) x.1))) * 8 < 140737488355328 then if (0 : Int) ≤ (0 : Int) then if (0 : Int) ≤ x.2.2.1 then if x.2.2.1 ≤ (List.length x.2.1 : Int) then if (List.length ([] : List y8) + List.length (List.drop (Int.toNat (0 : Int)) (List.take (Int.toNat x.2.2.1) x.2.1))) * 24 < 140737488355328 then if (List.length (([] : List y8) ++ (List.drop (Int.toNat (0 : Int)) (List.take (Int.toNat x.2.2.1) x.2.1))) + List.length x.2.2.2.2) * 24 < 140737488355328 then if (0 : Int) ≤ (Go.IntKind.wrap .i64 (x.2.2.1 + (1 : Int))) then if (Go.IntKind.wrap .i64 (x.2.2.1 + (1 : Int))) ≤ (List.length x.2.1 : Int) then if (List.length x.2.1 : Int) ≤ (List.length x.2.1 : Int) then if (List.length ((([] : List y8) ++ (List.drop (Int.toNat (0 : Int)) (List.take (Int.toNat x.2.2.1) x.2.1))) ++ x.2.2.2.2) + List.length (List.drop (Int.toNat (Go.IntKind.wrap .i64 (x.2.2.1 + (1 : Int)))) (List.take (Int.toNat (List.length x.2.1 : Int)) x.2.1))) * 24 < 140737488355328 then some ((((([] : List ye) ++ (List.drop (Int.toNat (0 : Int)) (List.take (Int.toNat x.2.2.1) x.1))) ++ x.2.2.2.1) ++ (List.drop (Int.toNat (Go.IntKind.wrap .i64 (x.2.2.1 + (1 : Int)))) (List.take (Int.toNat (List.length x.1 : Int)) x.1))), (((([] : List y8) ++ (List.drop (Int.toNat (0 : Int)) (List.take (Int.toNat x.2.2.1) x.2.1))) ++ x.2.2.2.2) ++ (List.drop (Int.toNat (Go.IntKind.wrap .i64 (x.2.2.1 + (1 : Int)))) (List.take (Int.toNat (List.length x.2.1 : Int)) x.2.1)))) else none else none else none else none else none else none else none else none else none else none else none else none else none else none else none else none else none else none
theorem yxF : EV [] lpN 229 Tryz.f229 ypX yD7 W8 Ji := fun x => by kernel_rfl
def yDF : QF := ⟨229, Ji, okN (n := 0) Tryz.func229 trivial yxF⟩
abbrev vH : Type := yan
def Wl (k0 : Int → Option R) (k1 : Unit → Option R) (again : vH → Option R) (t2 : vH) : Option R :=
 bif (decide ((Go.IntKind.wrap .i64 (t2.1 + (1 : Int))) < (List.length t2.2.2 : Int))) then if (0 : Int) ≤ t2.1 then if t2.1 < (List.length t2.2.2 : Int) then Option.bind (yE (yh t2.2.2 t2.1)) fun r1 => if (0 : Int) ≤ (Go.IntKind.wrap .i64 (t2.1 + (1 : Int))) then if (Go.IntKind.wrap .i64 (t2.1 + (1 : Int))) < (List.length t2.2.2 : Int) then Option.bind (yE (yh t2.2.2 (Go.IntKind.wrap .i64 (t2.1 + (1 : Int))))) fun r2 => bif (decide ((Go.IntKind.wrap .i64 ((List.length r1 : Int) + (List.length r2 : Int))) ≤ (6 : Int))) then k0 t2.1 else again ((Go.IntKind.wrap .i64 (t2.1 + (1 : Int))), t2.2.1, t2.2.2) else none else none else none else none else k1 ()
def QT k0 k1 := zx (@Wl R k0 k1) zO
def JP (x : y4D) : Option Int :=
 QT (fun x3 => some x3) (fun x4 => some (-1 : Int)) ((0 : Int), x.1, x.2)
def ykS : List QF := [ykf]
def y7i (t : yan) : St := ⟨.dead :: .box 1 0 :: .dead :: vI t.1 :: dd 26 [], [(1, .box [yU t.2.1, yt t.2.2])]⟩
def yiB : Gk vH := fun κ => Wl (fun t => κ none ⟨dd 2 (vI t :: dd 27 []), []⟩) (fun t => κ (some 0) ⟨dd 30 [], []⟩)
def ykT : Lp := lpC 2 (unG yfA y7i) @yiB lpN
theorem ysQ : LF ykS ykT 310 2 Tryz.f310 0 y7i @yiB fun t => t := fun R κ again t => by kernel_rfl
theorem ysR : LK ykS ykT 310 Tryz.f310 0 := lkN (u := (unG yfA y7i)) (yp fun t => by kernel_rfl) ysQ
theorem yxG : EV ykS ykT 310 Tryz.f310 ypY W8 [(.int .i64)] JP := fun x => by kernel_rfl
def yDG : QF := ⟨310, JP, okN (n := 1) Tryz.func310 ⟨ysR, trivial⟩ yxG⟩
abbrev vJ : Type := yan
def Wm (k0 : y4D → Option R) (again : vJ → Option R) (t2 : vJ) : Option R :=
 bif (decide (t2.1 ≥ (0 : Int))) then if (0 : Int) ≤ t2.1 then if t2.1 < (List.length t2.2.2 : Int) then Option.bind (yE (yh t2.2.2 t2.1)) fun r2 => if (0 : Int) ≤ (Go.IntKind.wrap .i64 (t2.1 + (1 : Int))) then if (Go.IntKind.wrap .i64 (t2.1 + (1 : Int))) < (List.length t2.2.2 : Int) then Option.bind (yE (yh t2.2.2 (Go.IntKind.wrap .i64 (t2.1 + (1 : Int))))) fun r3 => if (List.length r2 + List.length r3) * 40 < 140737488355328 then if (0 : Int) ≤ (0 : Int) then if (0 : Int) ≤ (Go.IntKind.wrap .i64 (t2.1 + (1 : Int))) then if (Go.IntKind.wrap .i64 (t2.1 + (1 : Int))) ≤ (List.length t2.2.1 : Int) then if (List.length ([] : List ye) + List.length (List.drop (Int.toNat (0 : Int)) (List.take (Int.toNat (Go.IntKind.wrap .i64 (t2.1 + (1 : Int)))) t2.2.1))) * 8 < 140737488355328 then if (0 : Int) ≤ (Go.IntKind.wrap .i64 (t2.1 + (2 : Int))) then if (Go.IntKind.wrap .i64 (t2.1 + (2 : Int))) ≤ (List.length t2.2.1 : Int) then if (List.length t2.2.1 : Int) ≤ (List.length t2.2.1 : Int) then if (List.length (([] : List ye) ++ (List.drop (Int.toNat (0 : Int)) (List.take (Int.toNat (Go.IntKind.wrap .i64 (t2.1 + (1 : Int)))) t2.2.1))) + List.length (List.drop (Int.toNat (Go.IntKind.wrap .i64 (t2.1 + (2 : Int)))) (List.take (Int.toNat (List.length t2.2.1 : Int)) t2.2.1))) * 8 < 140737488355328 then if (0 : Int) ≤ (0 : Int) then if (0 : Int) ≤ t2.1 then if t2.1 ≤ (List.length t2.2.2 : Int) then if (List.length ([] : List y8) + List.length (List.drop (Int.toNat (0 : Int)) (List.take (Int.toNat t2.1) t2.2.2))) * 24 < 140737488355328 then Option.bind (yR (r2 ++ r3)) fun r4 => if (List.length (([] : List y8) ++ (List.drop (Int.toNat (0 : Int)) (List.take (Int.toNat t2.1) t2.2.2))) + List.length ([r4] : List y8)) * 24 < 140737488355328 then if (0 : Int) ≤ (Go.IntKind.wrap .i64 (t2.1 + (2 : Int))) then if (Go.IntKind.wrap .i64 (t2.1 + (2 : Int))) ≤ (List.length t2.2.2 : Int) then if (List.length t2.2.2 : Int) ≤ (List.length t2.2.2 : Int) then if (List.length ((([] : List y8) ++ (List.drop (Int.toNat (0 : Int)) (List.take (Int.toNat t2.1) t2.2.2))) ++ ([r4] : List y8)) + List.length (List.drop (Int.toNat (Go.IntKind.wrap .i64 (t2.1 + (2 : Int)))) (List.take (Int.toNat (List.length t2.2.2 : Int)) t2.2.2))) * 24 < 140737488355328 then Option.bind (JP (((([] : List ye) ++ (List.drop (Int.toNat (0 : Int)) (List.take (Int.toNat (Go.IntKind.wrap .i64 (t2.1 + (1 : Int)))) t2.2.1))) ++ (List.drop (Int.toNat (Go.IntKind.wrap .i64 (t2.1 + (2 : Int)))) (List.take (Int.toNat (List.length t2.2.1 : Int)) t2.2.1))), (((([] : List y8) ++ (List.drop (Int.toNat (0 : Int)) (List.take (Int.toNat t2.1) t2.2.2))) ++ ([r4] : List y8)) ++ (List.drop (Int.toNat (Go.IntKind.wrap .i64 (t2.1 + (2 : Int)))) (List.take (Int.toNat (List.length t2.2.2 : Int)) t2.2.2))))) fun r5 => again (r5, ((([] : List ye) ++ (List.drop (Int.toNat (0 : Int)) (List.take (Int.toNat (Go.IntKind.wrap .i64 (t2.1 + (1 : Int)))) t2.2.1))) ++ (List.drop (Int.toNat (Go.IntKind.wrap .i64 (t2.1 + (2 : Int)))) (List.take (Int.toNat (List.length t2.2.1 : Int)) t2.2.1))), (((([] : List y8) ++ (List.drop (Int.toNat (0 : Int)) (List.take (Int.toNat t2.1) t2.2.2))) ++ ([r4] : List y8)) ++ (List.drop (Int.toNat (Go.IntKind.wrap .i64 (t2.1 + (2 : Int)))) (List.take (Int.toNat (List.length t2.2.2 : Int)) t2.2.2)))) else none else none else none else none else none else none else none else none else none else none else none else none else none else none else none else none else none else none else none else none else none else none else k0 t2.2
def QU k0 := zx (@Wm R k0) zO
def Z8 (x : y4D) : Option y4D :=
 Option.bind (JP x) fun r1 => QU (fun x6 => some x6) (r1, x)
def ykU : List QF := [ykf, yvm, yDG]
def y7j (t : yan) : St := ⟨.dead :: .box 1 0 :: .box 2 0 :: vI t.1 :: dd 56 [], [(1, .box [.own 10000000, .own 10000001]), (2, .box [.nils, .nils]), (10000000, .root true 3 yg t.2.1), (10000001, .root true 140 yj t.2.2)]⟩
def yiC : Gk vJ := fun κ => Wm (fun t => κ (some 0) ⟨.dead :: .box 1 0 :: .box 2 0 :: dd 57 [], [(1, .box [.own 10000000, .own 10000001]), (2, .box [.nils, .nils]), (10000000, .root true 3 yg t.1), (10000001, .root true 140 yj t.2)]⟩)
def ykV : Lp := lpC 2 (unG yfA y7j) @yiC lpN
theorem ysS : LF ykU ykV 235 2 Tryz.f235 0 y7j @yiC fun t => t := fun R κ again t => by kernel_rfl
theorem ysT : LK ykU ykV 235 Tryz.f235 0 := lkN (u := (unG yfA y7j)) (yp fun t => by kernel_rfl) ysS
theorem yxH : EV ykU ykV 235 Tryz.f235 ypZ W8 W8 Z8 := fun x => by kernel_rfl
def yDH : QF := ⟨235, Z8, okN (n := 1) Tryz.func235 ⟨ysT, trivial⟩ yxH⟩
def zI (x : yB1) : Option yB3 :=
 Option.bind (Z3 (x.1, x.2.1)) fun r1 => Option.bind (Y9 (x.1, x.2.1)) fun r2 => Option.bind (bif (!r2) then some true else Option.bind (wV x.2.2) fun r4 => some (!r4)) fun u3 => bif u3 then some (r1.1, r1.2, false) else Option.bind (jM (x.1, x.2.1, x.2.2.1, x.2.2.2.1)) fun r5 => if (0 : Int) ≤ r5 then if r5 < (List.length x.2.1 : Int) then Option.bind (Yz ((yh x.2.1 r5), x.2.2.1, x.2.2.2.1, x.2.2.2.2.1, x.2.2.2.2.2.1, x.2.2.2.2.2.2)) fun r6 => if (0 : Int) ≤ r5 then if r5 < (List.length x.1 : Int) then Option.bind (Ji (r1.1, r1.2, r5, ([(zl x.1 r5)] : List ye), ([r6.1] : List y8))) fun r7 => bif (!r6.2) then if (0 : Int) ≤ r5 then if r5 < (List.length x.2.1 : Int) then Option.bind (yE (yh x.2.1 r5)) fun r8 => Option.bind (zr (r8, x.2.2)) fun r9 => Option.bind (zT r9) fun r10 => if (0 : Int) ≤ r5 then if r5 < (List.length x.1 : Int) then if (0 : Int) ≤ (Go.IntKind.wrap .i64 (Int.tdiv (Go.IntKind.wrap .i64 ((List.length r10 : Int) + (1 : Int))) (2 : Int))) then if (Go.IntKind.wrap .i64 (Int.tdiv (Go.IntKind.wrap .i64 ((List.length r10 : Int) + (1 : Int))) (2 : Int))) < (List.length r10 : Int) then Option.bind (JI ((y0 r10 (Go.IntKind.wrap .i64 (Int.tdiv (Go.IntKind.wrap .i64 ((List.length r10 : Int) + (1 : Int))) (2 : Int)))).1, (y0 r10 (Go.IntKind.wrap .i64 (Int.tdiv (Go.IntKind.wrap .i64 ((List.length r10 : Int) + (1 : Int))) (2 : Int)))).2.1, (y0 r10 (Go.IntKind.wrap .i64 (Int.tdiv (Go.IntKind.wrap .i64 ((List.length r10 : Int) + (1 : Int))) (2 : Int)))).2.2.1, (y0 r10 (Go.IntKind.wrap .i64 (Int.tdiv (Go.IntKind.wrap .i64 ((List.length r10 : Int) + (1 : Int))) (2 : Int)))).2.2.2.1, (y0 r10 (Go.IntKind.wrap .i64 (Int.tdiv (Go.IntKind.wrap .i64 ((List.length r10 : Int) + (1 : Int))) (2 : Int)))).2.2.2.2)) fun r11 => if (0 : Int) ≤ (0 : Int) then if (0 : Int) ≤ (Go.IntKind.wrap .i64 (Int.tdiv (Go.IntKind.wrap .i64 ((List.length r10 : Int) + (1 : Int))) (2 : Int))) then if (Go.IntKind.wrap .i64 (Int.tdiv (Go.IntKind.wrap .i64 ((List.length r10 : Int) + (1 : Int))) (2 : Int))) ≤ (List.length r10 : Int) then Option.bind (yR (List.drop (Int.toNat (0 : Int)) (List.take (Int.toNat (Go.IntKind.wrap .i64 (Int.tdiv (Go.IntKind.wrap .i64 ((List.length r10 : Int) + (1 : Int))) (2 : Int)))) r10))) fun r12 => if (0 : Int) ≤ (Go.IntKind.wrap .i64 (Int.tdiv (Go.IntKind.wrap .i64 ((List.length r10 : Int) + (1 : Int))) (2 : Int))) then if (Go.IntKind.wrap .i64 (Int.tdiv (Go.IntKind.wrap .i64 ((List.length r10 : Int) + (1 : Int))) (2 : Int))) ≤ (List.length r10 : Int) then if (List.length r10 : Int) ≤ (List.length r10 : Int) then Option.bind (yR (List.drop (Int.toNat (Go.IntKind.wrap .i64 (Int.tdiv (Go.IntKind.wrap .i64 ((List.length r10 : Int) + (1 : Int))) (2 : Int)))) (List.take (Int.toNat (List.length r10 : Int)) r10))) fun r13 => Option.bind (Ji (r1.1, r1.2, r5, ([(zl x.1 r5), r11] : List ye), ([r12, r13] : List y8))) fun r14 => Option.bind (Z8 r14) fun r15 => Option.bind (Y9 r15) fun r16 => bif (!r16) then some (r1.1, r1.2, false) else some (r15.1, r15.2, true) else none else none else none else none else none else none else none else none else none else none else none else none else Option.bind (bif (decide (r5 > (0 : Int))) then Option.bind (yE r6.1) fun r18 => some ((List.length r18 : Int) == (0 : Int)) else some false) fun u17 => bif u17 then Option.bind (Ji (r1.1, r1.2, r5, ([] : List ye), ([] : List y8))) fun r19 => Option.bind (Z8 r19) fun r20 => Option.bind (Y9 r20) fun r21 => bif (!r21) then some (r1.1, r1.2, false) else some (r20.1, r20.2, true) else Option.bind (Z8 r7) fun r22 => Option.bind (Y9 r22) fun r23 => bif (!r23) then some (r1.1, r1.2, false) else some (r22.1, r22.2, true) else none else none else none else none
theorem yxI : EV [ywB, yC1, yBZ, yC9, yCb, yDF, ywG, yvj, ykf, yBY, yvm, yDH] lpN 104 Tryz.f104 yq0 yB2 yB4 zI := fun x => by kernel_rfl
def yvn : QF := ⟨104, zI, okN (n := 0) Tryz.func104 trivial yxI⟩
abbrev Wn : Type := yve
def Wo (k0 : yvd → Option R) (k1 : yfz → Option R) (again : Wn → Option R) (t2 : Wn) : Option R :=
 bif (decide (t2.2.2.1 ≥ (0 : Int))) then if (0 : Int) ≤ t2.2.2.1 then if t2.2.2.1 < (List.length t2.2.2.2.1 : Int) then Option.bind (wX ((yo t2.2.2.2.1 t2.2.2.1), t2.1, t2.2.1)) fun r1 => Option.bind (bif r1.2.2.2.2.2 then some (r1.2.2.1 == (0 : Int)) else some false) fun u2 => bif u2 then k0 (false, (0 : Int), (0 : Int), (0 : Int), (0 : Int), (0 : Int)) else bif r1.2.2.2.2.2 then k0 (true, r1.1, r1.2.1, r1.2.2.1, r1.2.2.2.1, r1.2.2.2.2.1) else again (t2.1, t2.2.1, (Go.IntKind.wrap .i64 (t2.2.2.1 - (1 : Int))), t2.2.2.2.1, t2.2.2.2.2.1, t2.2.2.2.2.2.1, t2.2.2.2.2.2.2.1, t2.2.2.2.2.2.2.2.1, t2.2.2.2.2.2.2.2.2) else none else none else k1 t2.2.2.2.2
def QV k0 k1 := zx (@Wo R k0 k1) zO
def Wp (x : yjK) : Option ydt :=
 QV (fun x3 => some (x3.2.1, x3.2.2.1, x3.2.2.2.1, x3.2.2.2.2.1, x3.2.2.2.2.2, x3.1)) (fun x4 => some ((0 : Int), (0 : Int), (0 : Int), (0 : Int), (0 : Int), false)) (x.2.1, x.2.2, (Go.IntKind.wrap .i64 ((List.length x.1 : Int) - (1 : Int))), x.1, (0 : Int), (0 : Int), (0 : Int), (0 : Int), (0 : Int))
def ykW : List QF := [yCa]
def y7k (t : yve) : St := ⟨.dead :: vI t.1 :: vI t.2.1 :: .box 3 0 :: dd 2 (.box 6 0 :: .dead :: vI t.2.2.1 :: dd 31 []), [(3, .box [Yd t.2.2.2.1]), (6, .box [vI t.2.2.2.2.1, vI t.2.2.2.2.2.1, vI t.2.2.2.2.2.2.1, vI t.2.2.2.2.2.2.2.1, vI t.2.2.2.2.2.2.2.2])]⟩
def yiD : Gk Wn := fun κ => Wo (fun t => κ none ⟨dd 6 (.box 6 0 :: vB t.1 :: dd 32 []), [(6, .box [vI t.2.1, vI t.2.2.1, vI t.2.2.2.1, vI t.2.2.2.2.1, vI t.2.2.2.2.2])]⟩) (fun t => κ (some 0) ⟨dd 6 (.box 6 0 :: dd 33 []), [(6, .box [vI t.1, vI t.2.1, vI t.2.2.1, vI t.2.2.2.1, vI t.2.2.2.2])]⟩)
def ykX : Lp := lpC 2 (unG yvf y7k) @yiD lpN
theorem ysU : LF ykW ykX 336 2 Tryz.f336 0 y7k @yiD fun t => t := fun R κ again t => by kernel_rfl
theorem ysV : LK ykW ykX 336 Tryz.f336 0 := lkN (u := (unG yvf y7k)) (yp fun t => by kernel_rfl) ysU
theorem yxJ : EV ykW ykX 336 Tryz.f336 yq1 yvg ydu Wp := fun x => by kernel_rfl
def yDI : QF := ⟨336, Wp, okN (n := 1) Tryz.func336 ⟨ysV, trivial⟩ yxJ⟩
def jl (x : yvb) : Option ydt :=
 Option.bind (jM x) fun r1 => Option.bind (yD (r1, (0 : Int), (Go.IntKind.wrap .i64 ((List.length x.2.1 : Int) - (1 : Int))))) fun r2 => bif (!r2) then some ((0 : Int), (0 : Int), (0 : Int), (0 : Int), (0 : Int), false) else if (0 : Int) ≤ r1 then if r1 < (List.length x.2.1 : Int) then Option.bind (Wp ((yh x.2.1 r1), x.2.2.1, x.2.2.2)) fun r3 => some r3 else none else none
theorem yxK : EV [q96, yC9, yDI] lpN 283 Tryz.f283 yq2 yvc ydu jl := fun x => by kernel_rfl
def yxL : QF := ⟨283, jl, okN (n := 0) Tryz.func283 trivial yxK⟩
def YH (x : yn9) : Option (List yb) :=
 Option.bind (Yv x.1) fun r1 => Option.bind (Zt x.1) fun r2 => Option.bind (bif r2 then Option.bind (yD (x.2, (0 : Int), (Go.IntKind.wrap .i64 ((List.length x.1 : Int) - (1 : Int))))) fun r4 => some r4 else some false) fun u3 => Option.bind (bif u3 then if (0 : Int) ≤ x.2 then if x.2 < (List.length x.1 : Int) then some ((yA x.1 x.2).2.1) else none else none else some false) fun u5 => bif u5 then if (0 : Int) ≤ x.2 then if x.2 < (List.length x.1 : Int) then if (0 : Int) ≤ x.2 then if x.2 < (List.length r1 : Int) then some (List.set r1 (Int.toNat x.2) ((Int.tmod (Go.IntKind.wrap .i64 ((yA x.1 x.2).1 + (1 : Int))) (1000 : Int)), false, (0 : Int))) else none else none else none else none else some r1
theorem yxM : EV [q96, ywD, yx1] lpN 105 Tryz.f105 yq3 yna [(.sl 113 yf)] YH := fun x => by kernel_rfl
def yxN : QF := ⟨105, YH, okN (n := 0) Tryz.func105 trivial yxM⟩
def wk (x : yD8) : Option Qv :=
 Option.bind (bif x.2.2.2.2.2.2.2.2.2.2.2 then some (x.2.2.2.2.2.2.2.2.1 == (1 : Int)) else some false) fun u1 => bif u1 then Option.bind (YH (x.2.2.2.1, x.2.2.2.2.2.2.2.2.2.1)) fun r2 => some (x.1, x.2.1, x.2.2.1, r2, x.2.2.2.2.1, x.2.2.2.2.2.1) else some (x.1, x.2.1, x.2.2.1, x.2.2.2.1, x.2.2.2.2.1, x.2.2.2.2.2.1)
theorem yxO : EV [yxN] lpN 284 Tryz.f284 yq4 yD9 zY wk := fun x => by kernel_rfl
def yDJ : QF := ⟨284, wk, okN (n := 0) Tryz.func284 trivial yxO⟩
def zA (x : yjL) : Option ygj :=
 Option.bind (jl (x.1, x.2.1, x.2.2.2.2.2.2.1, x.2.2.2.2.2.2.2.1)) fun r1 => Option.bind (zI (x.1, x.2.1, x.2.2.2.2.2.2)) fun r2 => bif (!r2.2.2) then some (false, x.1, x.2.1, x.2.2.1, x.2.2.2.1, x.2.2.2.2.1, x.2.2.2.2.2.1) else Option.bind (wk (r2.1, r2.2.1, x.2.2.1, x.2.2.2.1, x.2.2.2.2.1, x.2.2.2.2.2.1, r1)) fun r3 => some (true, r3)
theorem yxP : EV [yvn, yxL, yDJ] lpN 183 Tryz.f183 yq5 yjM ynb zA := fun x => by kernel_rfl
def yxQ : QF := ⟨183, zA, okN (n := 0) Tryz.func183 trivial yxP⟩
def wY (x : yDa) : Option yao :=
 Option.bind (ym (x.1, x.2.1, x.2.2.1, x.2.2.2.1, x.2.2.2.2.1, x.2.2.2.2.2.1)) fun r1 => Option.bind (YG (x.1, x.2.1, x.2.2.1, x.2.2.2.1, x.2.2.2.2.1, x.2.2.2.2.2.1, x.2.2.2.2.2.2.1, x.2.2.2.2.2.2.2.1)) fun r2 => Option.bind (bif (r2 == (0 : Int)) then Option.bind (zo x.2.2.2.2.2.2.2.2) fun r4 => some (!r4) else some false) fun u3 => bif u3 then bif ((4 : Int) != (0 : Int)) then some (r1.1, r1.2.1, r1.2.2.1, r1.2.2.2.1, r1.2.2.2.2.1, r1.2.2.2.2.2, (4 : Int)) else Option.bind (Ye (x.2.2.2.1, x.2.2.2.2.2.2.2.2)) fun r5 => bif r5.2.2 then Option.bind (zm (x.1, x.2.1, x.2.2.1, x.2.2.2.1, x.2.2.2.2.1, x.2.2.2.2.2.1, x.2.2.2.2.2.2.1)) fun r6 => if (0 : Int) ≤ r6 then if r6 < (List.length x.2.2.2.2.1 : Int) then if (0 : Int) ≤ r5.2.1 then if r5.2.1 < (List.length r5.1 : Int) then Option.bind (zA (r1.1, r1.2.1, r1.2.2.1, r5.1, r1.2.2.2.2.1, r1.2.2.2.2.2, x.2.2.2.2.2.2.2.1, (yq x.2.2.2.2.1 r6).2.1, (1 : Int), r5.2.1, (yA r5.1 r5.2.1).1)) fun r7 => Option.bind (yP (x.1, x.2.1, x.2.2.1, x.2.2.2.1, x.2.2.2.2.1, x.2.2.2.2.2.1, r7.2.1, r7.2.2.1, r7.2.2.2.1, r7.2.2.2.2.1, r7.2.2.2.2.2.1, r7.2.2.2.2.2.2, r7.1)) fun r8 => some r8 else none else none else none else none else Option.bind (yP (x.1, x.2.1, x.2.2.1, x.2.2.2.1, x.2.2.2.2.1, x.2.2.2.2.2.1, r1.1, r1.2.1, r1.2.2.1, r5.1, r1.2.2.2.2.1, r1.2.2.2.2.2, false)) fun r9 => some r9 else bif (r2 != (0 : Int)) then some (r1.1, r1.2.1, r1.2.2.1, r1.2.2.2.1, r1.2.2.2.2.1, r1.2.2.2.2.2, r2) else Option.bind (Ye (x.2.2.2.1, x.2.2.2.2.2.2.2.2)) fun r10 => bif r10.2.2 then Option.bind (zm (x.1, x.2.1, x.2.2.1, x.2.2.2.1, x.2.2.2.2.1, x.2.2.2.2.2.1, x.2.2.2.2.2.2.1)) fun r11 => if (0 : Int) ≤ r11 then if r11 < (List.length x.2.2.2.2.1 : Int) then if (0 : Int) ≤ r10.2.1 then if r10.2.1 < (List.length r10.1 : Int) then Option.bind (zA (r1.1, r1.2.1, r1.2.2.1, r10.1, r1.2.2.2.2.1, r1.2.2.2.2.2, x.2.2.2.2.2.2.2.1, (yq x.2.2.2.2.1 r11).2.1, (1 : Int), r10.2.1, (yA r10.1 r10.2.1).1)) fun r12 => Option.bind (yP (x.1, x.2.1, x.2.2.1, x.2.2.2.1, x.2.2.2.2.1, x.2.2.2.2.2.1, r12.2.1, r12.2.2.1, r12.2.2.2.1, r12.2.2.2.2.1, r12.2.2.2.2.2.1, r12.2.2.2.2.2.2, r12.1)) fun r13 => some r13 else none else none else none else none else Option.bind (yP (x.1, x.2.1, x.2.2.1, x.2.2.2.1, x.2.2.2.2.1, x.2.2.2.2.2.1, r1.1, r1.2.1, r1.2.2.1, r10.1, r1.2.2.2.2.1, r1.2.2.2.2.2, false)) fun r14 => some r14
theorem yDK : EV [q94, yxy, yi9, ymL, yxA, yvk, yxQ] lpN 66 Tryz.f66 yBp yDb yap wY := fun x => by kernel_rfl
def q66 : QF := ⟨66, wY, okN (n := 0) Tryz.func66 trivial yDK⟩
abbrev Wq : Type := yB5
def Wr (k0 : List ye → Option R) (again : Wq → Option R) (t3 : Wq) : Option R :=
 Option.bind (bif (decide (t3.2.1 ≥ (0 : Int))) then some (decide ((List.length t3.2.2 : Int) ≤ (List.length t3.1 : Int))) else some false) fun u2 => bif u2 then if (0 : Int) ≤ t3.2.1 then if t3.2.1 < (List.length t3.1 : Int) then if (List.length t3.2.2 + List.length ([(yC t3.1 t3.2.1).1] : List ye)) * 8 < 140737488355328 then if (0 : Int) ≤ t3.2.1 then if t3.2.1 < (List.length t3.1 : Int) then Option.bind (zG (t3.1, (yC t3.1 t3.2.1).2)) fun r3 => again (t3.1, r3, (t3.2.2 ++ ([(yC t3.1 t3.2.1).1] : List ye))) else none else none else none else none else none else k0 t3.2.2
def QW k0 := zx (@Wr R k0) zO
def JQ (x : yeg) : Option (List ye) :=
 Option.bind (zG x) fun r1 => QW (fun x4 => some x4) (x.1, r1, ([] : List ye))
def ykY : List QF := [ymK]
def y7l (t : yB5) : St := ⟨za t.1 :: dd 4 (.own 10000000 :: vI t.2.1 :: dd 29 []), [(10000000, .root true 3 yg t.2.2)]⟩
def yiE : Gk Wq := fun κ => Wr (fun t => κ (some 0) ⟨dd 5 (.own 10000000 :: dd 30 []), [(10000000, .root true 3 yg t)]⟩)
def ykZ : Lp := lpC 3 (unG yB6 y7l) @yiE lpN
theorem ysW : LF ykY ykZ 324 3 Tryz.f324 0 y7l @yiE fun t => t := fun R κ again t => by kernel_rfl
theorem ysX : LK ykY ykZ 324 Tryz.f324 0 := lkN (u := (unG yB6 y7l)) (yp fun t => by kernel_rfl) ysW
theorem yxR : EV ykY ykZ 324 Tryz.f324 yq6 yeh [(.sl 3 yg)] JQ := fun x => by kernel_rfl
def yCc : QF := ⟨324, JQ, okN (n := 1) Tryz.func324 ⟨ysX, trivial⟩ yxR⟩
abbrev vK : Type := yB7
def Jj (k0 : List y9 → Option R) (again : vK → Option R) (t4 : vK) : Option R :=
 bif (decide (t4.2.1 < (List.length t4.2.2.2 : Int))) then if (0 : Int) ≤ t4.2.1 then if t4.2.1 < (List.length t4.2.2.2 : Int) then bif ((y0 t4.2.2.2 t4.2.1).1 == t4.1) then if (0 : Int) ≤ t4.2.1 then if t4.2.1 < (List.length t4.2.2.2 : Int) then if (List.length t4.2.2.1 + List.length ([((y0 t4.2.2.2 t4.2.1).1, (y0 t4.2.2.2 t4.2.1).2.1, (y0 t4.2.2.2 t4.2.1).2.2.1, (y0 t4.2.2.2 t4.2.1).2.2.2.1, (y0 t4.2.2.2 t4.2.1).2.2.2.2)] : List y9)) * 40 < 140737488355328 then again (t4.1, (Go.IntKind.wrap .i64 (t4.2.1 + (1 : Int))), (t4.2.2.1 ++ ([((y0 t4.2.2.2 t4.2.1).1, (y0 t4.2.2.2 t4.2.1).2.1, (y0 t4.2.2.2 t4.2.1).2.2.1, (y0 t4.2.2.2 t4.2.1).2.2.2.1, (y0 t4.2.2.2 t4.2.1).2.2.2.2)] : List y9)), t4.2.2.2) else none else none else none else again (t4.1, (Go.IntKind.wrap .i64 (t4.2.1 + (1 : Int))), t4.2.2.1, t4.2.2.2) else none else none else k0 t4.2.2.1
def QX k0 := zx (@Jj R k0) zO
def Ws (x : yn6) : Option (List y9) :=
 Option.bind (yu (x.1, x.2.1)) fun r1 => QX (fun x2 => some x2) (x.2.2, (0 : Int), ([] : List y9), r1)
def yl0 : List QF := [yfC]
def y7m (t : yB7) : St := ⟨.dead :: vI t.1 :: dd 3 (.own 10000000 :: .own 10000001 :: vI t.2.1 :: dd 24 []), [(10000000, .root true 64 yi t.2.2.1), (10000001, .root true 64 yi t.2.2.2)]⟩
def yiF : Gk vK := fun κ => Jj (fun t => κ (some 0) ⟨dd 5 (.own 10000000 :: dd 26 []), [(10000000, .root true 64 yi t)]⟩)
def yl1 : Lp := lpC 4 (unG yB8 y7m) @yiF lpN
theorem ysY : LF yl0 yl1 350 4 Tryz.f350 0 y7m @yiF fun t => t := fun R κ again t => by kernel_rfl
theorem ysZ : LK yl0 yl1 350 Tryz.f350 0 := lkN (u := (unG yB8 y7m)) (yp fun t => by kernel_rfl) ysY
theorem yxS : EV yl0 yl1 350 Tryz.f350 yq7 yn7 [(.sl 64 yi)] Ws := fun x => by kernel_rfl
def yDL : QF := ⟨350, Ws, okN (n := 1) Tryz.func350 ⟨ysZ, trivial⟩ yxS⟩
abbrev VI : Type := yB9
def wl (k0 : Bool → Option R) (k1 : Unit → Option R) (again : VI → Option R) (t2 : VI) : Option R :=
 bif (decide (t2.2.2 < (List.length t2.1 : Int))) then if (0 : Int) ≤ t2.2.2 then if t2.2.2 < (List.length t2.1 : Int) then bif ((zl t2.1 t2.2.2) == t2.2.1) then k0 true else again (t2.1, t2.2.1, (Go.IntKind.wrap .i64 (t2.2.2 + (1 : Int)))) else none else none else k1 ()
def y18 k0 k1 := zx (@wl R k0 k1) zO
def Kx (x : yvP) : Option Bool :=
 y18 (fun x1 => some x1) (fun x2 => some false) (x.1, x.2, (0 : Int))
def yl2 : List QF := []
def y7n (t : yB9) : St := ⟨yU t.1 :: vI t.2.1 :: dd 3 (vI t.2.2 :: dd 12 []), []⟩
def yiG : Gk VI := fun κ => wl (fun t => κ none ⟨dd 4 (vB t :: dd 13 []), []⟩) (fun t => κ (some 0) ⟨dd 18 [], []⟩)
def yl3 : Lp := lpC 2 (unG yBa y7n) @yiG lpN
theorem yt0 : LF yl2 yl3 351 2 Tryz.f351 0 y7n @yiG fun t => t := fun R κ again t => by kernel_rfl
theorem yt1 : LK yl2 yl3 351 Tryz.f351 0 := lkN (u := (unG yBa y7n)) (yp fun t => by kernel_rfl) yt0
theorem yxT : EV yl2 yl3 351 Tryz.f351 yq8 yvQ [.bool] Kx := fun x => by kernel_rfl
def yDM : QF := ⟨351, Kx, okN (n := 1) Tryz.func351 ⟨yt1, trivial⟩ yxT⟩
abbrev vL : Type := yBb
def Jk (k0 : yBd → Option R) (again : vL → Option R) (t5 : vL) : Option R :=
 bif (decide (t5.2.2.1 < (List.length t5.2.2.2.2.2.2.2.2.2.2.2.2.2 : Int))) then if (0 : Int) ≤ t5.2.2.1 then if t5.2.2.1 < (List.length t5.2.2.2.2.2.2.2.2.2.2.2.2.2 : Int) then Option.bind (Kx (t5.1, (y0 t5.2.2.2.2.2.2.2.2.2.2.2.2.2 t5.2.2.1).2.1)) fun r2 => Option.bind (bif r2 then Option.bind (bif (!t5.2.1) then some true else if (0 : Int) ≤ t5.2.2.1 then if t5.2.2.1 < (List.length t5.2.2.2.2.2.2.2.2.2.2.2.2.2 : Int) then some (decide ((y0 t5.2.2.2.2.2.2.2.2.2.2.2.2.2 t5.2.2.1).2.1 > t5.2.2.2.2.2.2.2.2.2.1)) else none else none) fun u4 => some u4 else some false) fun u3 => bif u3 then if (0 : Int) ≤ t5.2.2.1 then if t5.2.2.1 < (List.length t5.2.2.2.2.2.2.2.2.2.2.2.2.2 : Int) then again (t5.1, true, (Go.IntKind.wrap .i64 (t5.2.2.1 + (1 : Int))), t5.2.2.2.1, t5.2.2.2.2.1, t5.2.2.2.2.2.1, t5.2.2.2.2.2.2.1, t5.2.2.2.2.2.2.2.1, (y0 t5.2.2.2.2.2.2.2.2.2.2.2.2.2 t5.2.2.1).1, (y0 t5.2.2.2.2.2.2.2.2.2.2.2.2.2 t5.2.2.1).2.1, (y0 t5.2.2.2.2.2.2.2.2.2.2.2.2.2 t5.2.2.1).2.2.1, (y0 t5.2.2.2.2.2.2.2.2.2.2.2.2.2 t5.2.2.1).2.2.2.1, (y0 t5.2.2.2.2.2.2.2.2.2.2.2.2.2 t5.2.2.1).2.2.2.2, t5.2.2.2.2.2.2.2.2.2.2.2.2.2) else none else none else again (t5.1, t5.2.1, (Go.IntKind.wrap .i64 (t5.2.2.1 + (1 : Int))), t5.2.2.2.1, t5.2.2.2.2.1, t5.2.2.2.2.2.1, t5.2.2.2.2.2.2.1, t5.2.2.2.2.2.2.2.1, t5.2.2.2.2.2.2.2.2.1, t5.2.2.2.2.2.2.2.2.2.1, t5.2.2.2.2.2.2.2.2.2.2.1, t5.2.2.2.2.2.2.2.2.2.2.2.1, t5.2.2.2.2.2.2.2.2.2.2.2.2.1, t5.2.2.2.2.2.2.2.2.2.2.2.2.2) else none else none else k0 (t5.2.1, t5.2.2.2.1, t5.2.2.2.2.1, t5.2.2.2.2.2.1, t5.2.2.2.2.2.2.1, t5.2.2.2.2.2.2.2.1, t5.2.2.2.2.2.2.2.2.1, t5.2.2.2.2.2.2.2.2.2.1, t5.2.2.2.2.2.2.2.2.2.2.1, t5.2.2.2.2.2.2.2.2.2.2.2.1, t5.2.2.2.2.2.2.2.2.2.2.2.2.1)
def QY k0 := zx (@Jk R k0) zO
def jm (x : yBe) : Option ydt :=
 Option.bind (Ws (x.1, x.2.1, x.2.2.1)) fun r1 => QY (fun x5 => some (x5.2.2.2.2.2.2.1, x5.2.2.2.2.2.2.2.1, x5.2.2.2.2.2.2.2.2.1, x5.2.2.2.2.2.2.2.2.2.1, x5.2.2.2.2.2.2.2.2.2.2, x5.1)) (x.2.2.2, false, (0 : Int), (0 : Int), (0 : Int), (0 : Int), (0 : Int), (0 : Int), (0 : Int), (0 : Int), (0 : Int), (0 : Int), (0 : Int), r1)
def yl4 : List QF := [yDL, yDM]
def y7o (t : yBb) : St := ⟨dd 2 (yU t.1 :: dd 3 (.box 6 0 :: .dead :: .box 8 0 :: vB t.2.1 :: .own 10000000 :: vI t.2.2.1 :: dd 37 [])), [(6, .box [vI t.2.2.2.1, vI t.2.2.2.2.1, vI t.2.2.2.2.2.1, vI t.2.2.2.2.2.2.1, vI t.2.2.2.2.2.2.2.1]), (8, .box [vI t.2.2.2.2.2.2.2.2.1, vI t.2.2.2.2.2.2.2.2.2.1, vI t.2.2.2.2.2.2.2.2.2.2.1, vI t.2.2.2.2.2.2.2.2.2.2.2.1, vI t.2.2.2.2.2.2.2.2.2.2.2.2.1]), (10000000, .root true 64 yi t.2.2.2.2.2.2.2.2.2.2.2.2.2)]⟩
def yiH : Gk vL := fun κ => Jk (fun t => κ (some 0) ⟨dd 6 (.box 6 0 :: .dead :: .box 8 0 :: vB t.1 :: dd 39 []), [(6, .box [vI t.2.1, vI t.2.2.1, vI t.2.2.2.1, vI t.2.2.2.2.1, vI t.2.2.2.2.2.1]), (8, .box [vI t.2.2.2.2.2.2.1, vI t.2.2.2.2.2.2.2.1, vI t.2.2.2.2.2.2.2.2.1, vI t.2.2.2.2.2.2.2.2.2.1, vI t.2.2.2.2.2.2.2.2.2.2])]⟩)
def yl5 : Lp := lpC 5 (unG yBc y7o) @yiH lpN
theorem yt2 : LF yl4 yl5 325 5 Tryz.f325 0 y7o @yiH fun t => t := fun R κ again t => by kernel_rfl
theorem yt3 : LK yl4 yl5 325 Tryz.f325 0 := lkN (u := (unG yBc y7o)) (yp fun t => by kernel_rfl) yt2
theorem yxU : EV yl4 yl5 325 Tryz.f325 yq9 yBf ydu jm := fun x => by kernel_rfl
def yCd : QF := ⟨325, jm, okN (n := 1) Tryz.func325 ⟨yt3, trivial⟩ yxU⟩
def YX (x : yvh) : Option ydt :=
 Option.bind (JQ (x.2.2.1, x.2.2.2.2)) fun r1 => bif ((List.length r1 : Int) == (0 : Int)) then some ((0 : Int), (0 : Int), (0 : Int), (0 : Int), (0 : Int), false) else if (0 : Int) ≤ (1 : Int) then if (1 : Int) ≤ (List.length r1 : Int) then if (List.length r1 : Int) ≤ (List.length r1 : Int) then Option.bind (jm (x.1, x.2.1, x.2.2.2.1, (List.drop (Int.toNat (1 : Int)) (List.take (Int.toNat (List.length r1 : Int)) r1)))) fun r2 => some r2 else none else none else none
theorem yxV : EV [yCc, yCd] lpN 257 Tryz.f257 yqa yvi ydu YX := fun x => by kernel_rfl
def yCe : QF := ⟨257, YX, okN (n := 0) Tryz.func257 trivial yxV⟩
def Y4 (x : ynd) : Option ygj :=
 if (0 : Int) ≤ x.2.2.2.2.2.2.1 then if x.2.2.2.2.2.2.1 < (List.length x.2.2.2.2.1 : Int) then Option.bind (YX (x.1, x.2.1, x.2.2.1, x.2.2.2.2.2.2.2, (yq x.2.2.2.2.1 x.2.2.2.2.2.2.1).2.1)) fun r1 => Option.bind (bif r1.2.2.2.2.2 then some (r1.2.2.1 == (1 : Int)) else some false) fun u2 => bif u2 then Option.bind (zA (x.1, x.2.1, x.2.2.1, x.2.2.2.1, x.2.2.2.2.1, x.2.2.2.2.2.1, x.2.2.2.2.2.2.2, (yq x.2.2.2.2.1 x.2.2.2.2.2.2.1).2.1, (2 : Int), (0 : Int), (0 : Int))) fun r3 => some r3 else Option.bind (jl (x.1, x.2.1, x.2.2.2.2.2.2.2, (yq x.2.2.2.2.1 x.2.2.2.2.2.2.1).2.1)) fun r4 => bif (!r4.2.2.2.2.2) then some (true, x.1, x.2.1, x.2.2.1, x.2.2.2.1, x.2.2.2.2.1, x.2.2.2.2.2.1) else Option.bind (zA (x.1, x.2.1, x.2.2.1, x.2.2.2.1, x.2.2.2.2.1, x.2.2.2.2.2.1, x.2.2.2.2.2.2.2, (yq x.2.2.2.2.1 x.2.2.2.2.2.2.1).2.1, (0 : Int), (0 : Int), (0 : Int))) fun r5 => some r5 else none else none
theorem yxW : EV [yxQ, yCe, yxL] lpN 186 Tryz.f186 yqb yne ynb Y4 := fun x => by kernel_rfl
def yCf : QF := ⟨186, Y4, okN (n := 0) Tryz.func186 trivial yxW⟩
def jN (x : yv9) : Option yao :=
 Option.bind (ym (x.1, x.2.1, x.2.2.1, x.2.2.2.1, x.2.2.2.2.1, x.2.2.2.2.2.1)) fun r1 => Option.bind (YG x) fun r2 => bif (r2 != (0 : Int)) then some (r1.1, r1.2.1, r1.2.2.1, r1.2.2.2.1, r1.2.2.2.2.1, r1.2.2.2.2.2, r2) else Option.bind (zm (x.1, x.2.1, x.2.2.1, x.2.2.2.1, x.2.2.2.2.1, x.2.2.2.2.2.1, x.2.2.2.2.2.2.1)) fun r3 => Option.bind (Y4 (r1.1, r1.2.1, r1.2.2.1, r1.2.2.2.1, r1.2.2.2.2.1, r1.2.2.2.2.2, r3, x.2.2.2.2.2.2.2)) fun r4 => Option.bind (yP (x.1, x.2.1, x.2.2.1, x.2.2.2.1, x.2.2.2.2.1, x.2.2.2.2.2.1, r4.2.1, r4.2.2.1, r4.2.2.2.1, r4.2.2.2.2.1, r4.2.2.2.2.2.1, r4.2.2.2.2.2.2, r4.1)) fun r5 => some r5
theorem yDN : EV [q94, yi9, ymL, yxA, yCf] lpN 70 Tryz.f70 yBq yva yap jN := fun x => by kernel_rfl
def q70 : QF := ⟨70, jN, okN (n := 0) Tryz.func70 trivial yDN⟩
abbrev wE : Type := yej ⊕ yek
def jy (k0 : yvR → Option R) (k1 : yvS → Option R) (again : wE → Option R) : wE → Option R
 | .inl t10 => Option.bind (bif (decide (t10.2.2.2.1 ≥ t10.1)) then some t10.2.2.1 else some false) fun u15 => bif u15 then Option.bind (Y4 (t10.2.2.2.2.2.2.2.2.2.2.2.2.1, t10.2.2.2.2.2.2.2.2.2.2.2.2.2.1, t10.2.2.2.2.2.2.2.2.2.2.2.2.2.2.1, t10.2.2.2.2.2.2.2.2.2.2.2.2.2.2.2.1, t10.2.2.2.2.2.2.2.2.2.2.2.2.2.2.2.2, t10.2.2.2.2.2.2.2.2.2.2.2.1, t10.2.1, t10.2.2.2.1)) fun r16 => again (Sum.inr (t10.1, t10.2.1, r16.1, (Go.IntKind.wrap .i64 (t10.2.2.2.1 - (1 : Int))), t10.2.2.2.2.1, t10.2.2.2.2.2.1, t10.2.2.2.2.2.2.1, t10.2.2.2.2.2.2.2.1, t10.2.2.2.2.2.2.2.2.1, t10.2.2.2.2.2.2.2.2.2.1, t10.2.2.2.2.2.2.2.2.2.2.1, r16.2.1, r16.2.2.1, r16.2.2.2.1, r16.2.2.2.2.2.2, r16.2.2.2.2.1, r16.2.2.2.2.2.1)) else k0 (t10.1, t10.2.1, t10.2.2.1, t10.2.2.2.2)
 | .inr t10 => Option.bind (bif (decide (t10.2.2.2.1 ≥ t10.1)) then some t10.2.2.1 else some false) fun u17 => bif u17 then Option.bind (Y4 (t10.2.2.2.2.2.2.2.2.2.2.2.1, t10.2.2.2.2.2.2.2.2.2.2.2.2.1, t10.2.2.2.2.2.2.2.2.2.2.2.2.2.1, t10.2.2.2.2.2.2.2.2.2.2.2.2.2.2.2.1, t10.2.2.2.2.2.2.2.2.2.2.2.2.2.2.2.2, t10.2.2.2.2.2.2.2.2.2.2.2.2.2.2.1, t10.2.1, t10.2.2.2.1)) fun r18 => again (Sum.inr (t10.1, t10.2.1, r18.1, (Go.IntKind.wrap .i64 (t10.2.2.2.1 - (1 : Int))), t10.2.2.2.2.1, t10.2.2.2.2.2.1, t10.2.2.2.2.2.2.1, t10.2.2.2.2.2.2.2.1, t10.2.2.2.2.2.2.2.2.1, t10.2.2.2.2.2.2.2.2.2.1, t10.2.2.2.2.2.2.2.2.2.2.1, r18.2.1, r18.2.2.1, r18.2.2.2.1, r18.2.2.2.2.2.2, r18.2.2.2.2.1, r18.2.2.2.2.2.1)) else k1 (t10.1, t10.2.1, t10.2.2.1, t10.2.2.2.2)
def wF k0 k1 := zx (@jy R k0 k1) zO
def JR (x : yv9) : Option yao :=
 Option.bind (ym (x.1, x.2.1, x.2.2.1, x.2.2.2.1, x.2.2.2.2.1, x.2.2.2.2.2.1)) fun r1 => Option.bind (YG (x.1, x.2.1, x.2.2.1, x.2.2.2.1, x.2.2.2.2.1, x.2.2.2.2.2.1, x.2.2.2.2.2.2.1, (0 : Int))) fun r2 => Option.bind (bif (r2 == (0 : Int)) then Option.bind (yD (x.2.2.2.2.2.2.2, (1 : Int), (12 : Int))) fun r4 => some (!r4) else some false) fun u3 => bif u3 then bif ((4 : Int) != (0 : Int)) then some (r1.1, r1.2.1, r1.2.2.1, r1.2.2.2.1, r1.2.2.2.2.1, r1.2.2.2.2.2, (4 : Int)) else Option.bind (zm (x.1, x.2.1, x.2.2.1, x.2.2.2.1, x.2.2.2.2.1, x.2.2.2.2.2.1, x.2.2.2.2.2.2.1)) fun r5 => if (0 : Int) ≤ r5 then if r5 < (List.length x.2.2.2.2.1 : Int) then wF (fun x10 => if (0 : Int) ≤ x10.2.1 then if x10.2.1 < (List.length x10.2.2.2.2.2.2.2.2.2.2.2.2.2.2.2 : Int) then Option.bind (yP (x10.2.2.2.1, x10.2.2.2.2.1, x10.2.2.2.2.2.1, x10.2.2.2.2.2.2.1, x10.2.2.2.2.2.2.2.1, x10.2.2.2.2.2.2.2.2.1, x10.2.2.2.2.2.2.2.2.2.2.2.1, x10.2.2.2.2.2.2.2.2.2.2.2.2.1, x10.2.2.2.2.2.2.2.2.2.2.2.2.2.1, x10.2.2.2.2.2.2.2.2.2.2.2.2.2.2.1, (List.set x10.2.2.2.2.2.2.2.2.2.2.2.2.2.2.2 (Int.toNat x10.2.1) ((yq x10.2.2.2.2.2.2.2.2.2.2.2.2.2.2.2 x10.2.1).1, (yq x10.2.2.2.2.2.2.2.2.2.2.2.2.2.2.2 x10.2.1).2.1, x10.1, (yq x10.2.2.2.2.2.2.2.2.2.2.2.2.2.2.2 x10.2.1).2.2.2)), x10.2.2.2.2.2.2.2.2.2.2.1, x10.2.2.1)) fun r11 => some r11 else none else none) (fun x12 => if (0 : Int) ≤ x12.2.1 then if x12.2.1 < (List.length x12.2.2.2.2.2.2.2.2.2.2.2.2.2.2.2 : Int) then Option.bind (yP (x12.2.2.2.1, x12.2.2.2.2.1, x12.2.2.2.2.2.1, x12.2.2.2.2.2.2.1, x12.2.2.2.2.2.2.2.1, x12.2.2.2.2.2.2.2.2.1, x12.2.2.2.2.2.2.2.2.2.2.1, x12.2.2.2.2.2.2.2.2.2.2.2.1, x12.2.2.2.2.2.2.2.2.2.2.2.2.1, x12.2.2.2.2.2.2.2.2.2.2.2.2.2.2.1, (List.set x12.2.2.2.2.2.2.2.2.2.2.2.2.2.2.2 (Int.toNat x12.2.1) ((yq x12.2.2.2.2.2.2.2.2.2.2.2.2.2.2.2 x12.2.1).1, (yq x12.2.2.2.2.2.2.2.2.2.2.2.2.2.2.2 x12.2.1).2.1, x12.1, (yq x12.2.2.2.2.2.2.2.2.2.2.2.2.2.2.2 x12.2.1).2.2.2)), x12.2.2.2.2.2.2.2.2.2.2.2.2.2.1, x12.2.2.1)) fun r13 => some r13 else none else none) (Sum.inl (x.2.2.2.2.2.2.2, r5, true, (Go.IntKind.wrap .i64 ((yq x.2.2.2.2.1 r5).2.2.1 - (1 : Int))), x.1, x.2.1, x.2.2.1, x.2.2.2.1, x.2.2.2.2.1, x.2.2.2.2.2.1, (0 : Int), r1.2.2.2.2.2, r1.1, r1.2.1, r1.2.2.1, r1.2.2.2.1, r1.2.2.2.2.1)) else none else none else bif (r2 != (0 : Int)) then some (r1.1, r1.2.1, r1.2.2.1, r1.2.2.2.1, r1.2.2.2.2.1, r1.2.2.2.2.2, r2) else Option.bind (zm (x.1, x.2.1, x.2.2.1, x.2.2.2.1, x.2.2.2.2.1, x.2.2.2.2.2.1, x.2.2.2.2.2.2.1)) fun r14 => if (0 : Int) ≤ r14 then if r14 < (List.length x.2.2.2.2.1 : Int) then wF (fun x19 => if (0 : Int) ≤ x19.2.1 then if x19.2.1 < (List.length x19.2.2.2.2.2.2.2.2.2.2.2.2.2.2.2 : Int) then Option.bind (yP (x19.2.2.2.1, x19.2.2.2.2.1, x19.2.2.2.2.2.1, x19.2.2.2.2.2.2.1, x19.2.2.2.2.2.2.2.1, x19.2.2.2.2.2.2.2.2.1, x19.2.2.2.2.2.2.2.2.2.2.2.1, x19.2.2.2.2.2.2.2.2.2.2.2.2.1, x19.2.2.2.2.2.2.2.2.2.2.2.2.2.1, x19.2.2.2.2.2.2.2.2.2.2.2.2.2.2.1, (List.set x19.2.2.2.2.2.2.2.2.2.2.2.2.2.2.2 (Int.toNat x19.2.1) ((yq x19.2.2.2.2.2.2.2.2.2.2.2.2.2.2.2 x19.2.1).1, (yq x19.2.2.2.2.2.2.2.2.2.2.2.2.2.2.2 x19.2.1).2.1, x19.1, (yq x19.2.2.2.2.2.2.2.2.2.2.2.2.2.2.2 x19.2.1).2.2.2)), x19.2.2.2.2.2.2.2.2.2.2.1, x19.2.2.1)) fun r20 => some r20 else none else none) (fun x21 => if (0 : Int) ≤ x21.2.1 then if x21.2.1 < (List.length x21.2.2.2.2.2.2.2.2.2.2.2.2.2.2.2 : Int) then Option.bind (yP (x21.2.2.2.1, x21.2.2.2.2.1, x21.2.2.2.2.2.1, x21.2.2.2.2.2.2.1, x21.2.2.2.2.2.2.2.1, x21.2.2.2.2.2.2.2.2.1, x21.2.2.2.2.2.2.2.2.2.2.1, x21.2.2.2.2.2.2.2.2.2.2.2.1, x21.2.2.2.2.2.2.2.2.2.2.2.2.1, x21.2.2.2.2.2.2.2.2.2.2.2.2.2.2.1, (List.set x21.2.2.2.2.2.2.2.2.2.2.2.2.2.2.2 (Int.toNat x21.2.1) ((yq x21.2.2.2.2.2.2.2.2.2.2.2.2.2.2.2 x21.2.1).1, (yq x21.2.2.2.2.2.2.2.2.2.2.2.2.2.2.2 x21.2.1).2.1, x21.1, (yq x21.2.2.2.2.2.2.2.2.2.2.2.2.2.2.2 x21.2.1).2.2.2)), x21.2.2.2.2.2.2.2.2.2.2.2.2.2.1, x21.2.2.1)) fun r22 => some r22 else none else none) (Sum.inl (x.2.2.2.2.2.2.2, r14, true, (Go.IntKind.wrap .i64 ((yq x.2.2.2.2.1 r14).2.2.1 - (1 : Int))), x.1, x.2.1, x.2.2.1, x.2.2.2.1, x.2.2.2.2.1, x.2.2.2.2.2.1, (0 : Int), r1.2.2.2.2.2, r1.1, r1.2.1, r1.2.2.1, r1.2.2.2.1, r1.2.2.2.2.1)) else none else none
def yt4 : List QF := [q94, q96, yi9, ymL, yxA, yCf]
def y3F (t : yej) : St := ⟨dd 2 (vI t.1 :: .box 3 0 :: dd 2 (.box 6 0 :: .dead :: .box 8 0 :: .dead :: vI t.2.1 :: vB t.2.2.1 :: vI t.2.2.2.1 :: dd 49 [])), [(3, .box [yU t.2.2.2.2.1, yt t.2.2.2.2.2.1, za t.2.2.2.2.2.2.1, yL t.2.2.2.2.2.2.2.1, zP t.2.2.2.2.2.2.2.2.1, vI t.2.2.2.2.2.2.2.2.2.1]), (6, .box [.nils, .nils, .nils, .nils, .nils, vI t.2.2.2.2.2.2.2.2.2.2.1]), (8, .box [.own 10000000, .own 10000001, .own 10000002, .own 10000003, .own 10000004, vI t.2.2.2.2.2.2.2.2.2.2.2.1]), (10000000, .root true 3 yg t.2.2.2.2.2.2.2.2.2.2.2.2.1), (10000001, .root true 140 yj t.2.2.2.2.2.2.2.2.2.2.2.2.2.1), (10000002, .root true 146 yk t.2.2.2.2.2.2.2.2.2.2.2.2.2.2.1), (10000003, .root true 113 yf t.2.2.2.2.2.2.2.2.2.2.2.2.2.2.2.1), (10000004, .root true 46 yz t.2.2.2.2.2.2.2.2.2.2.2.2.2.2.2.2)]⟩
theorem ygE : ∀ s t, unG ynf y3F s = some t → y3F t = s := yp fun t => by kernel_rfl
def y3G (t : yek) : St := ⟨dd 2 (vI t.1 :: .box 3 0 :: dd 2 (.box 6 0 :: .dead :: .box 8 0 :: .dead :: vI t.2.1 :: vB t.2.2.1 :: vI t.2.2.2.1 :: dd 49 [])), [(3, .box [yU t.2.2.2.2.1, yt t.2.2.2.2.2.1, za t.2.2.2.2.2.2.1, yL t.2.2.2.2.2.2.2.1, zP t.2.2.2.2.2.2.2.2.1, vI t.2.2.2.2.2.2.2.2.2.1]), (6, .box [.nils, .nils, .nils, .nils, .nils, vI t.2.2.2.2.2.2.2.2.2.2.1]), (8, .box [yU t.2.2.2.2.2.2.2.2.2.2.2.1, yt t.2.2.2.2.2.2.2.2.2.2.2.2.1, za t.2.2.2.2.2.2.2.2.2.2.2.2.2.1, .own 10000000, .own 10000001, vI t.2.2.2.2.2.2.2.2.2.2.2.2.2.2.1]), (10000000, .root true 113 yf t.2.2.2.2.2.2.2.2.2.2.2.2.2.2.2.1), (10000001, .root true 46 yz t.2.2.2.2.2.2.2.2.2.2.2.2.2.2.2.2)]⟩
theorem ygF : ∀ s t, unG yng y3G s = some t → y3G t = s := yp fun t => by kernel_rfl
def y3H : (yej ⊕ yek) → St := Sum.elim y3F y3G
def y7p (s : St) : Option (yej ⊕ yek) := ((unG ynf y3F s).map Sum.inl).or (((unG yng y3G) s).map Sum.inr)
theorem ygG : ∀ s t, y7p s = some t → y3H t = s := y3g ygE ygF
def ych : Gk wE := fun κ => jy (fun t => κ (some 0) ⟨dd 2 (vI t.1 :: .box 3 0 :: dd 2 (.box 6 0 :: .dead :: .box 8 0 :: .dead :: vI t.2.1 :: vB t.2.2.1 :: dd 50 [])), [(3, .box [yU t.2.2.2.1, yt t.2.2.2.2.1, za t.2.2.2.2.2.1, yL t.2.2.2.2.2.2.1, zP t.2.2.2.2.2.2.2.1, vI t.2.2.2.2.2.2.2.2.1]), (6, .box [.nils, .nils, .nils, .nils, .nils, vI t.2.2.2.2.2.2.2.2.2.1]), (8, .box [.own 10000000, .own 10000001, .own 10000002, .own 10000003, .own 10000004, vI t.2.2.2.2.2.2.2.2.2.2.1]), (10000000, .root true 3 yg t.2.2.2.2.2.2.2.2.2.2.2.1), (10000001, .root true 140 yj t.2.2.2.2.2.2.2.2.2.2.2.2.1), (10000002, .root true 146 yk t.2.2.2.2.2.2.2.2.2.2.2.2.2.1), (10000003, .root true 113 yf t.2.2.2.2.2.2.2.2.2.2.2.2.2.2.1), (10000004, .root true 46 yz t.2.2.2.2.2.2.2.2.2.2.2.2.2.2.2)]⟩) (fun t => κ (some 0) ⟨dd 2 (vI t.1 :: .box 3 0 :: dd 2 (.box 6 0 :: .dead :: .box 8 0 :: .dead :: vI t.2.1 :: vB t.2.2.1 :: dd 50 [])), [(3, .box [yU t.2.2.2.1, yt t.2.2.2.2.1, za t.2.2.2.2.2.1, yL t.2.2.2.2.2.2.1, zP t.2.2.2.2.2.2.2.1, vI t.2.2.2.2.2.2.2.2.1]), (6, .box [.nils, .nils, .nils, .nils, .nils, vI t.2.2.2.2.2.2.2.2.2.1]), (8, .box [yU t.2.2.2.2.2.2.2.2.2.2.1, yt t.2.2.2.2.2.2.2.2.2.2.2.1, za t.2.2.2.2.2.2.2.2.2.2.2.2.1, .own 10000000, .own 10000001, vI t.2.2.2.2.2.2.2.2.2.2.2.2.2.1]), (10000000, .root true 113 yf t.2.2.2.2.2.2.2.2.2.2.2.2.2.2.1), (10000001, .root true 46 yz t.2.2.2.2.2.2.2.2.2.2.2.2.2.2.2)]⟩)
def yt5 : Lp := lpC 10 y7p @ych lpN
theorem ygH : LF yt4 yt5 73 10 Tryz.f73 0 y3H @ych fun v : yej => .inl v := fun R κ again v => by kernel_rfl
theorem ygI : LF yt4 yt5 73 10 Tryz.f73 0 y3H @ych fun v : yek => .inr v := fun R κ again v => by kernel_rfl
theorem yt6 : LF yt4 yt5 73 10 Tryz.f73 0 y3H @ych fun t => t := (LC.sum ygH ygI)
theorem yt7 : LK yt4 yt5 73 Tryz.f73 0 := lkN (u := y7p) ygG yt6
theorem yDO : EV yt4 yt5 73 Tryz.f73 yBr yva yap JR := fun x => by kernel_rfl
def q73 : QF := ⟨73, JR, okN (n := 1) Tryz.func73 ⟨yt7, trivial⟩ yDO⟩
def YA (x : ynh) : Option Bool :=
 bif (x.1 == (2 : Int)) then Option.bind (bif (x.2.2.2.1 == (0 : Int)) then Option.bind (yD (x.2.2.2.2, (0 : Int), (1 : Int))) fun r2 => some r2 else some false) fun u1 => some u1 else bif (x.1 == (3 : Int)) then bif (x.1 == (3 : Int)) then Option.bind (bif (x.2.2.2.1 == (0 : Int)) then some (x.2.2.2.2 == (0 : Int)) else some false) fun u3 => some u3 else bif (x.1 == (4 : Int)) then some true else some (x.2.2.2.2 == (0 : Int)) else bif (x.1 == (7 : Int)) then Option.bind (bif (x.2.2.2.1 == (0 : Int)) then some (x.2.2.2.2 == (0 : Int)) else some false) fun u4 => some u4 else bif (x.1 == (4 : Int)) then some true else some (x.2.2.2.2 == (0 : Int))
theorem yxX : EV [q96] lpN 346 Tryz.f346 yqc yaY [.bool] YA := fun x => by kernel_rfl
def yDP : QF := ⟨346, YA, okN (n := 0) Tryz.func346 trivial yxX⟩
def vM (x : ynh) : Option Bool :=
 Option.bind (Ya x.2.1) fun r1 => bif (decide (x.1 ≥ (7 : Int))) then bif (x.1 == (2 : Int)) then Option.bind (Ya x.2.2.1) fun r2 => Option.bind (yD (x.1, (1 : Int), (9 : Int))) fun r3 => Option.bind (bif r3 then some ((ByteArray.toList x.2.1) == (ByteArray.toList ({ data := #[] }))) else some false) fun u4 => Option.bind (bif u4 then some r2 else some false) fun u5 => Option.bind (bif u5 then Option.bind (zo x.2.2.2.1) fun r7 => some r7 else some false) fun u6 => Option.bind (bif u6 then Option.bind (zo x.2.2.2.2) fun r9 => some r9 else some false) fun u8 => Option.bind (bif u8 then Option.bind (YA x) fun r11 => some r11 else some false) fun u10 => some u10 else Option.bind (yD (x.1, (1 : Int), (9 : Int))) fun r12 => Option.bind (bif r12 then some ((ByteArray.toList x.2.1) == (ByteArray.toList ({ data := #[] }))) else some false) fun u13 => Option.bind (bif u13 then some ((ByteArray.toList x.2.2.1) == (ByteArray.toList ({ data := #[] }))) else some false) fun u14 => Option.bind (bif u14 then Option.bind (zo x.2.2.2.1) fun r16 => some r16 else some false) fun u15 => Option.bind (bif u15 then Option.bind (zo x.2.2.2.2) fun r18 => some r18 else some false) fun u17 => Option.bind (bif u17 then Option.bind (YA x) fun r20 => some r20 else some false) fun u19 => some u19 else bif (x.1 == (2 : Int)) then Option.bind (Ya x.2.2.1) fun r21 => Option.bind (yD (x.1, (1 : Int), (9 : Int))) fun r22 => Option.bind (bif r22 then some r1 else some false) fun u23 => Option.bind (bif u23 then some r21 else some false) fun u24 => Option.bind (bif u24 then Option.bind (zo x.2.2.2.1) fun r26 => some r26 else some false) fun u25 => Option.bind (bif u25 then Option.bind (zo x.2.2.2.2) fun r28 => some r28 else some false) fun u27 => Option.bind (bif u27 then Option.bind (YA x) fun r30 => some r30 else some false) fun u29 => some u29 else Option.bind (yD (x.1, (1 : Int), (9 : Int))) fun r31 => Option.bind (bif r31 then some r1 else some false) fun u32 => Option.bind (bif u32 then some ((ByteArray.toList x.2.2.1) == (ByteArray.toList ({ data := #[] }))) else some false) fun u33 => Option.bind (bif u33 then Option.bind (zo x.2.2.2.1) fun r35 => some r35 else some false) fun u34 => Option.bind (bif u34 then Option.bind (zo x.2.2.2.2) fun r37 => some r37 else some false) fun u36 => Option.bind (bif u36 then Option.bind (YA x) fun r39 => some r39 else some false) fun u38 => some u38
theorem yxY : EV [q96, yvl, yvk, yDP] lpN 314 Tryz.f314 yqd yaY [.bool] vM := fun x => by kernel_rfl
def yDQ : QF := ⟨314, vM, okN (n := 0) Tryz.func314 trivial yxY⟩
def Wt (x : List ya) : Option (List ya) :=
 Option.bind (yE x) fun r1 => Option.bind (yR r1) fun r2 => some r2
theorem yxZ : EV [ykf, yvm] lpN 217 Tryz.f217 yqe [(.sl 58 yn)] [(.sl 58 yn)] Wt := fun x => by kernel_rfl
def yDR : QF := ⟨217, Wt, okN (n := 0) Tryz.func217 trivial yxZ⟩
def Wu (x : yn6) : Option y4D :=
 Option.bind (Z3 (x.1, x.2.1)) fun r1 => Option.bind (yD (x.2.2, (0 : Int), (Go.IntKind.wrap .i64 ((List.length x.2.1 : Int) - (1 : Int))))) fun r2 => bif r2 then if (0 : Int) ≤ x.2.2 then if x.2.2 < (List.length x.2.1 : Int) then Option.bind (Wt (yh x.2.1 x.2.2)) fun r3 => if (0 : Int) ≤ x.2.2 then if x.2.2 < (List.length r1.2 : Int) then some (r1.1, (List.set r1.2 (Int.toNat x.2.2) r3)) else none else none else none else none else some r1
theorem yDS : EV [q96, ywB, yDR] lpN 97 Tryz.f97 yBs yn7 W8 Wu := fun x => by kernel_rfl
def q97 : QF := ⟨97, Wu, okN (n := 0) Tryz.func97 trivial yDS⟩
def YI (x : yao) : Option yel :=
 Option.bind (ym (x.1, x.2.1, x.2.2.1, x.2.2.2.1, x.2.2.2.2.1, x.2.2.2.2.2.1)) fun r1 => Option.bind (yH (x.1, x.2.1, x.2.2.1, x.2.2.2.1, x.2.2.2.2.1, x.2.2.2.2.2.1)) fun r2 => Option.bind (bif (!r2) then some true else Option.bind (yD (x.2.2.2.2.2.2, (0 : Int), (Go.IntKind.wrap .i64 ((List.length x.2.1 : Int) - (1 : Int))))) fun r4 => some (!r4)) fun u3 => bif u3 then some (r1.1, r1.2.1, r1.2.2.1, r1.2.2.2.1, r1.2.2.2.2.1, r1.2.2.2.2.2, false) else Option.bind (Wu (x.1, x.2.1, x.2.2.2.2.2.2)) fun r5 => some (r5.1, r5.2, r1.2.2.1, r1.2.2.2.1, r1.2.2.2.2.1, r1.2.2.2.2.2, true)
theorem yDT : EV [q94, q95, q96, q97] lpN 12 Tryz.f12 yBt yap yem YI := fun x => by kernel_rfl
def q12 : QF := ⟨12, YI, okN (n := 0) Tryz.func12 trivial yDT⟩
abbrev Wv : Type := yni
def Ww (k0 : yfz → Option R) (k1 : yfz → Option R) (again : Wv → Option R) (t3 : Wv) : Option R :=
 bif (decide (t3.2.1 < (List.length t3.2.2.2.2.2.2.2 : Int))) then if (0 : Int) ≤ t3.2.1 then if t3.2.1 < (List.length t3.2.2.2.2.2.2.2 : Int) then Option.bind (bif ((y0 t3.2.2.2.2.2.2.2 t3.2.1).2.2.1 == (1 : Int)) then if (0 : Int) ≤ t3.2.1 then if t3.2.1 < (List.length t3.2.2.2.2.2.2.2 : Int) then some ((y0 t3.2.2.2.2.2.2.2 t3.2.1).2.2.2.1 == t3.1) else none else none else some false) fun u2 => bif u2 then if (0 : Int) ≤ t3.2.1 then if t3.2.1 < (List.length t3.2.2.2.2.2.2.2 : Int) then k0 ((y0 t3.2.2.2.2.2.2.2 t3.2.1).1, (y0 t3.2.2.2.2.2.2.2 t3.2.1).2.1, (y0 t3.2.2.2.2.2.2.2 t3.2.1).2.2.1, (y0 t3.2.2.2.2.2.2.2 t3.2.1).2.2.2.1, (y0 t3.2.2.2.2.2.2.2 t3.2.1).2.2.2.2) else none else none else again (t3.1, (Go.IntKind.wrap .i64 (t3.2.1 + (1 : Int))), t3.2.2.1, t3.2.2.2.1, t3.2.2.2.2.1, t3.2.2.2.2.2.1, t3.2.2.2.2.2.2.1, t3.2.2.2.2.2.2.2) else none else none else k1 (t3.2.2.1, t3.2.2.2.1, t3.2.2.2.2.1, t3.2.2.2.2.2.1, t3.2.2.2.2.2.2.1)
def QZ k0 k1 := zx (@Ww R k0 k1) zO
def Wx (x : yao) : Option yfz :=
 Option.bind (yu (x.1, x.2.1)) fun r1 => QZ (fun x3 => some x3) (fun x4 => some ((0 : Int), (0 : Int), (0 : Int), (0 : Int), (0 : Int))) (x.2.2.2.2.2.2, (0 : Int), (0 : Int), (0 : Int), (0 : Int), (0 : Int), (0 : Int), r1)
def yl6 : List QF := [yfC]
def y7q (t : yni) : St := ⟨.dead :: vI t.1 :: dd 2 (.box 4 0 :: .own 10000000 :: vI t.2.1 :: dd 29 []), [(4, .box [vI t.2.2.1, vI t.2.2.2.1, vI t.2.2.2.2.1, vI t.2.2.2.2.2.1, vI t.2.2.2.2.2.2.1]), (10000000, .root true 64 yi t.2.2.2.2.2.2.2)]⟩
def yiI : Gk Wv := fun κ => Ww (fun t => κ none ⟨dd 4 (.box 4 0 :: dd 31 []), [(4, .box [vI t.1, vI t.2.1, vI t.2.2.1, vI t.2.2.2.1, vI t.2.2.2.2])]⟩) (fun t => κ (some 0) ⟨dd 4 (.box 4 0 :: dd 31 []), [(4, .box [vI t.1, vI t.2.1, vI t.2.2.1, vI t.2.2.2.1, vI t.2.2.2.2])]⟩)
def yl7 : Lp := lpC 3 (unG ynj y7q) @yiI lpN
theorem yt8 : LF yl6 yl7 102 3 Tryz.f102 0 y7q @yiI fun t => t := fun R κ again t => by kernel_rfl
theorem yt9 : LK yl6 yl7 102 Tryz.f102 0 := lkN (u := (unG ynj y7q)) (yp fun t => by kernel_rfl) yt8
theorem yy0 : EV yl6 yl7 102 Tryz.f102 yqf yap KW Wx := fun x => by kernel_rfl
def yDU : QF := ⟨102, Wx, okN (n := 1) Tryz.func102 ⟨yt9, trivial⟩ yy0⟩
def YJ (x : yao) : Option yel :=
 Option.bind (ym (x.1, x.2.1, x.2.2.1, x.2.2.2.1, x.2.2.2.2.1, x.2.2.2.2.2.1)) fun r1 => Option.bind (yH (x.1, x.2.1, x.2.2.1, x.2.2.2.1, x.2.2.2.2.1, x.2.2.2.2.2.1)) fun r2 => Option.bind (bif (!r2) then some true else Option.bind (yD (x.2.2.2.2.2.2, (0 : Int), (Go.IntKind.wrap .i64 ((List.length x.2.2.2.1 : Int) - (1 : Int))))) fun r4 => some (!r4)) fun u3 => Option.bind (bif u3 then some true else if (0 : Int) ≤ x.2.2.2.2.2.2 then if x.2.2.2.2.2.2 < (List.length x.2.2.2.1 : Int) then some (!((yA x.2.2.2.1 x.2.2.2.2.2.2).2.1)) else none else none) fun u5 => bif u5 then some (r1.1, r1.2.1, r1.2.2.1, r1.2.2.2.1, r1.2.2.2.2.1, r1.2.2.2.2.2, false) else Option.bind (Wx x) fun r6 => if (0 : Int) ≤ x.2.2.2.2.2.2 then if x.2.2.2.2.2.2 < (List.length x.2.2.2.1 : Int) then Option.bind (Ye (x.2.2.2.1, (yA x.2.2.2.1 x.2.2.2.2.2.2).2.2)) fun r7 => Option.bind (bif (!r7.2.2) then some true else some (decide (r7.2.1 > x.2.2.2.2.2.2))) fun u8 => bif u8 then some (r1.1, r1.2.1, r1.2.2.1, r1.2.2.2.1, r1.2.2.2.2.1, r1.2.2.2.2.2, false) else if (0 : Int) ≤ r7.2.1 then if r7.2.1 < (List.length r7.1 : Int) then Option.bind (zI (x.1, x.2.1, r6.1, r6.2.1, r6.2.2.1, r7.2.1, (yA r7.1 r7.2.1).1)) fun r9 => Option.bind (YH (r7.1, x.2.2.2.2.2.2)) fun r10 => Option.bind (bif (!r9.2.2) then some true else Option.bind (yH (r9.1, r9.2.1, r1.2.2.1, r10, r1.2.2.2.2)) fun r12 => some (!r12)) fun u11 => bif u11 then Option.bind (ym (x.1, x.2.1, x.2.2.1, x.2.2.2.1, x.2.2.2.2.1, x.2.2.2.2.2.1)) fun r13 => some (r13.1, r13.2.1, r13.2.2.1, r13.2.2.2.1, r13.2.2.2.2.1, r13.2.2.2.2.2, false) else some (r9.1, r9.2.1, r1.2.2.1, r10, r1.2.2.2.2.1, r1.2.2.2.2.2, true) else none else none else none else none
theorem yDV : EV [q94, q95, q96, yDU, yxy, yvn, yxN] lpN 15 Tryz.f15 yBu yap yem YJ := fun x => by kernel_rfl
def q15 : QF := ⟨15, YJ, okN (n := 0) Tryz.func15 trivial yDV⟩
def vN (x : yvh) : Option ydt :=
 Option.bind (JQ (x.2.2.1, x.2.2.2.2)) fun r1 => Option.bind (jm (x.1, x.2.1, x.2.2.2.1, r1)) fun r2 => some r2
theorem yy1 : EV [yCc, yCd] lpN 265 Tryz.f265 yqg yvi ydu vN := fun x => by kernel_rfl
def yDW : QF := ⟨265, vN, okN (n := 0) Tryz.func265 trivial yy1⟩
def vO (x : ynk) : Option Bool :=
 Option.bind (vN (x.1, x.2.1, x.2.2.1, x.2.2.2.1, x.2.2.2.2.2.2.2.2)) fun r1 => Option.bind (bif r1.2.2.2.2.2 then some (r1.2.1 == x.2.2.2.2.1) else some false) fun u2 => some u2
theorem yy2 : EV [yDW] lpN 149 Tryz.f149 yqh ynl [.bool] vO := fun x => by kernel_rfl
def yDX : QF := ⟨149, vO, okN (n := 0) Tryz.func149 trivial yy2⟩
abbrev Wy : Type := ynm
def Z9 (k0 : Bool → Option R) (k1 : Unit → Option R) (again : Wy → Option R) (t2 : Wy) : Option R :=
 bif (decide (t2.1 < (List.length t2.2.2.2.2.2.1 : Int))) then if (0 : Int) ≤ t2.1 then if t2.1 < (List.length t2.2.2.2.2.2.1 : Int) then Option.bind (bif (decide ((yq t2.2.2.2.2.2.1 t2.1).2.2.1 > t2.2.2.2.2.2.2.2.1)) then if (0 : Int) ≤ t2.1 then if t2.1 < (List.length t2.2.2.2.2.2.1 : Int) then Option.bind (vO (t2.2.1, t2.2.2.1, t2.2.2.2.1, t2.2.2.2.2.2.2.2.1, t2.2.2.2.2.2.2.2.2.1, t2.2.2.2.2.2.2.2.2.2.1, t2.2.2.2.2.2.2.2.2.2.2.1, t2.2.2.2.2.2.2.2.2.2.2.2, (yq t2.2.2.2.2.2.1 t2.1).2.1)) fun r2 => some r2 else none else none else some false) fun u1 => bif u1 then k0 true else again ((Go.IntKind.wrap .i64 (t2.1 + (1 : Int))), t2.2.1, t2.2.2.1, t2.2.2.2.1, t2.2.2.2.2.1, t2.2.2.2.2.2.1, t2.2.2.2.2.2.2.1, t2.2.2.2.2.2.2.2.1, t2.2.2.2.2.2.2.2.2.1, t2.2.2.2.2.2.2.2.2.2.1, t2.2.2.2.2.2.2.2.2.2.2.1, t2.2.2.2.2.2.2.2.2.2.2.2) else none else none else k1 ()
def Vt k0 k1 := zx (@Z9 R k0 k1) zO
def Yi (x : yjL) : Option Bool :=
 Vt (fun x3 => some x3) (fun x4 => some false) ((0 : Int), x.1, x.2.1, x.2.2.1, x.2.2.2.1, x.2.2.2.2.1, x.2.2.2.2.2.1, x.2.2.2.2.2.2.1, x.2.2.2.2.2.2.2.1, x.2.2.2.2.2.2.2.2.1, x.2.2.2.2.2.2.2.2.2.1, x.2.2.2.2.2.2.2.2.2.2)
def yy3 : List QF := [yDX]
def yb4 (t : ynm) : St := ⟨dd 2 (.box 2 0 :: .box 3 0 :: .dead :: vI t.1 :: dd 30 []), [(2, .box [yU t.2.1, yt t.2.2.1, za t.2.2.2.1, yL t.2.2.2.2.1, zP t.2.2.2.2.2.1, vI t.2.2.2.2.2.2.1]), (3, .box [vI t.2.2.2.2.2.2.2.1, vI t.2.2.2.2.2.2.2.2.1, vI t.2.2.2.2.2.2.2.2.2.1, vI t.2.2.2.2.2.2.2.2.2.2.1, vI t.2.2.2.2.2.2.2.2.2.2.2])]⟩
def yta : Gk Wy := fun κ => Z9 (fun t => κ none ⟨dd 4 (vB t :: dd 31 []), []⟩) (fun t => κ (some 0) ⟨dd 36 [], []⟩)
def yy4 : Lp := lpC 2 (unG ynn yb4) @yta lpN
theorem yy5 : LF yy3 yy4 41 2 Tryz.f41 0 yb4 @yta fun t => t := fun R κ again t => by kernel_rfl
theorem yy6 : LK yy3 yy4 41 Tryz.f41 0 := lkN (u := (unG ynn yb4)) (yp fun t => by kernel_rfl) yy5
theorem yDY : EV yy3 yy4 41 Tryz.f41 yBv yjM [.bool] Yi := fun x => by kernel_rfl
def q41 : QF := ⟨41, Yi, okN (n := 1) Tryz.func41 ⟨yy6, trivial⟩ yDY⟩
abbrev qT : Type := y9h
def Wz (k0 : Bool → Option R) (k1 : Unit → Option R) (again : qT → Option R) (t2 : qT) : Option R :=
 bif (decide (t2.2.1 < (List.length t2.2.2.2.2.2.2.1 : Int))) then if (0 : Int) ≤ t2.2.1 then if t2.2.1 < (List.length t2.2.2.2.2.2.2.1 : Int) then bif ((yq t2.2.2.2.2.2.2.1 t2.2.1).2.1 == t2.1) then k0 false else again (t2.1, (Go.IntKind.wrap .i64 (t2.2.1 + (1 : Int))), t2.2.2.1, t2.2.2.2.1, t2.2.2.2.2.1, t2.2.2.2.2.2.1, t2.2.2.2.2.2.2.1, t2.2.2.2.2.2.2.2) else none else none else k1 ()
def y1Z k0 k1 := zx (@Wz R k0 k1) zO
def kR (x : yao) : Option Bool :=
 y1Z (fun x1 => some x1) (fun x2 => some true) (x.2.2.2.2.2.2, (0 : Int), x.1, x.2.1, x.2.2.1, x.2.2.2.1, x.2.2.2.2.1, x.2.2.2.2.2.1)
def yl8 : List QF := []
def y7r (t : y9h) : St := ⟨.dead :: vI t.1 :: .box 2 0 :: dd 2 (vI t.2.1 :: dd 15 []), [(2, .box [yU t.2.2.1, yt t.2.2.2.1, za t.2.2.2.2.1, yL t.2.2.2.2.2.1, zP t.2.2.2.2.2.2.1, vI t.2.2.2.2.2.2.2])]⟩
def yiJ : Gk qT := fun κ => Wz (fun t => κ none ⟨dd 4 (vB t :: dd 16 []), []⟩) (fun t => κ (some 0) ⟨dd 21 [], []⟩)
def yl9 : Lp := lpC 2 (unG ygl y7r) @yiJ lpN
theorem ytb : LF yl8 yl9 259 2 Tryz.f259 0 y7r @yiJ fun t => t := fun R κ again t => by kernel_rfl
theorem ytc : LK yl8 yl9 259 Tryz.f259 0 := lkN (u := (unG ygl y7r)) (yp fun t => by kernel_rfl) ytb
theorem yy7 : EV yl8 yl9 259 Tryz.f259 yqi yap [.bool] kR := fun x => by kernel_rfl
def yCg : QF := ⟨259, kR, okN (n := 1) Tryz.func259 ⟨ytc, trivial⟩ yy7⟩
def Za (x : yao) : Option Int :=
 Option.bind (jj (x.2.2.1, x.2.2.2.2.2.2)) fun r1 => Option.bind (kR x) fun r2 => Option.bind (bif (!r2) then some true else some ((List.length r1 : Int) != (1 : Int))) fun u3 => bif u3 then some (0 : Int) else if (0 : Int) ≤ (0 : Int) then if (0 : Int) < (List.length r1 : Int) then some (zl r1 (0 : Int)) else none else none
theorem yy8 : EV [yCg, yx4] lpN 142 Tryz.f142 yqj yap [(.int .i64)] Za := fun x => by kernel_rfl
def yCh : QF := ⟨142, Za, okN (n := 0) Tryz.func142 trivial yy8⟩
def Ki (x : yjL) : Option Bool :=
 Option.bind (Za (x.1, x.2.1, x.2.2.1, x.2.2.2.1, x.2.2.2.2.1, x.2.2.2.2.2.1, x.2.2.2.2.2.2.2.1)) fun r1 => bif (r1 == (0 : Int)) then some false else Option.bind (jl (x.1, x.2.1, x.2.2.2.2.2.2.1, r1)) fun r2 => some (!r2.2.2.2.2.2)
theorem yy9 : EV [yCh, yxL] lpN 258 Tryz.f258 yqk yjM [.bool] Ki := fun x => by kernel_rfl
def yDZ : QF := ⟨258, Ki, okN (n := 0) Tryz.func258 trivial yy9⟩
def WA (x : yno) : Option Bool :=
 bif (x.2.2.2.2.2.2.1 == (1 : Int)) then Option.bind (Yi (x.1, x.2.1, x.2.2.1, x.2.2.2.1, x.2.2.2.2.1, x.2.2.2.2.2.1, x.2.2.2.2.2.2.2)) fun r1 => some (!r1) else bif (x.2.2.2.2.2.2.1 == (2 : Int)) then Option.bind (YX (x.1, x.2.1, x.2.2.1, x.2.2.2.2.2.2.2.1, x.2.2.2.2.2.2.2.2.1)) fun r2 => Option.bind (bif (x.2.2.2.2.2.2.2.2.2.1 == (2 : Int)) then some (!r2.2.2.2.2.2) else some false) fun u3 => some u3 else Option.bind (Ki (x.1, x.2.1, x.2.2.1, x.2.2.2.1, x.2.2.2.2.1, x.2.2.2.2.2.1, x.2.2.2.2.2.2.2)) fun r4 => some r4
theorem yya : EV [q41, yCe, yDZ] lpN 138 Tryz.f138 yql ynp [.bool] WA := fun x => by kernel_rfl
def yE0 : QF := ⟨138, WA, okN (n := 0) Tryz.func138 trivial yya⟩
abbrev vP : Type := yfB
def Jl (k0 : yvT → Option R) (k1 : yei → Option R) (again : vP → Option R) (t3 : vP) : Option R :=
 bif (decide (t3.2.1 < (List.length t3.2.2.2.2.2.2.2.2 : Int))) then if (0 : Int) ≤ t3.2.1 then if t3.2.1 < (List.length t3.2.2.2.2.2.2.2.2 : Int) then bif ((y0 t3.2.2.2.2.2.2.2.2 t3.2.1).2.1 == t3.1) then k0 (t3.1, false, t3.2.2.1, t3.2.2.2.1, t3.2.2.2.2.1, t3.2.2.2.2.2.1, t3.2.2.2.2.2.2.1, t3.2.2.2.2.2.2.2.1) else again (t3.1, (Go.IntKind.wrap .i64 (t3.2.1 + (1 : Int))), t3.2.2.1, t3.2.2.2.1, t3.2.2.2.2.1, t3.2.2.2.2.2.1, t3.2.2.2.2.2.2.1, t3.2.2.2.2.2.2.2.1, t3.2.2.2.2.2.2.2.2) else none else none else k1 (t3.1, t3.2.2.1, t3.2.2.2.1, t3.2.2.2.2.1, t3.2.2.2.2.2.1, t3.2.2.2.2.2.2.1, t3.2.2.2.2.2.2.2.1)
def y00 k0 k1 := zx (@Jl R k0 k1) zO
def WB (x : yao) : Option Bool :=
 Option.bind (yu (x.1, x.2.1)) fun r1 => y00 (fun x2 => some x2.2.1) (fun x3 => Option.bind (kR (x3.2.1, x3.2.2.1, x3.2.2.2.1, x3.2.2.2.2.1, x3.2.2.2.2.2.1, x3.2.2.2.2.2.2, x3.1)) fun r4 => Option.bind (bif r4 then Option.bind (jj (x3.2.2.2.1, x3.1)) fun r6 => some (decide ((List.length r6 : Int) ≤ (1 : Int))) else some false) fun u5 => some u5) (x.2.2.2.2.2.2, (0 : Int), x.1, x.2.1, x.2.2.1, x.2.2.2.1, x.2.2.2.2.1, x.2.2.2.2.2.1, r1)
def yla : List QF := [yfC, yCg, yx4]
def y7s (t : yfB) : St := ⟨.dead :: vI t.1 :: .box 2 0 :: dd 2 (.own 10000000 :: vI t.2.1 :: dd 27 []), [(2, .box [yU t.2.2.1, yt t.2.2.2.1, za t.2.2.2.2.1, yL t.2.2.2.2.2.1, zP t.2.2.2.2.2.2.1, vI t.2.2.2.2.2.2.2.1]), (10000000, .root true 64 yi t.2.2.2.2.2.2.2.2)]⟩
def yiK : Gk vP := fun κ => Jl (fun t => κ none ⟨.dead :: vI t.1 :: .box 2 0 :: .dead :: vB t.2.1 :: dd 29 [], [(2, .box [yU t.2.2.1, yt t.2.2.2.1, za t.2.2.2.2.1, yL t.2.2.2.2.2.1, zP t.2.2.2.2.2.2.1, vI t.2.2.2.2.2.2.2])]⟩) (fun t => κ (some 0) ⟨.dead :: vI t.1 :: .box 2 0 :: dd 31 [], [(2, .box [yU t.2.1, yt t.2.2.1, za t.2.2.2.1, yL t.2.2.2.2.1, zP t.2.2.2.2.2.1, vI t.2.2.2.2.2.2])]⟩)
def ylb : Lp := lpC 3 (unG yi0 y7s) @yiK lpN
theorem ytd : LF yla ylb 139 3 Tryz.f139 0 y7s @yiK fun t => t := fun R κ again t => by kernel_rfl
theorem yte : LK yla ylb 139 Tryz.f139 0 := lkN (u := (unG yi0 y7s)) (yp fun t => by kernel_rfl) ytd
theorem yyb : EV yla ylb 139 Tryz.f139 yqm yap [.bool] WB := fun x => by kernel_rfl
def yE1 : QF := ⟨139, WB, okN (n := 1) Tryz.func139 ⟨yte, trivial⟩ yyb⟩
abbrev kS : Type := yfB
def ZP (k0 : ync → Option R) (k1 : yjN → Option R) (again : kS → Option R) (t8 : kS) : Option R :=
 bif (decide (t8.2.1 < (List.length t8.2.2.2.2.2.2.2.2 : Int))) then if (0 : Int) ≤ t8.2.1 then if t8.2.1 < (List.length t8.2.2.2.2.2.2.2.2 : Int) then Option.bind (WA (t8.2.2.1, t8.2.2.2.1, t8.2.2.2.2.1, t8.2.2.2.2.2.1, t8.2.2.2.2.2.2.1, t8.2.2.2.2.2.2.2.1, t8.1, (y0 t8.2.2.2.2.2.2.2.2 t8.2.1).1, (y0 t8.2.2.2.2.2.2.2.2 t8.2.1).2.1, (y0 t8.2.2.2.2.2.2.2.2 t8.2.1).2.2.1, (y0 t8.2.2.2.2.2.2.2.2 t8.2.1).2.2.2.1, (y0 t8.2.2.2.2.2.2.2.2 t8.2.1).2.2.2.2)) fun r3 => bif r3 then k0 (t8.1, t8.2.1, t8.1, t8.2.2) else again (t8.1, (Go.IntKind.wrap .i64 (t8.2.1 + (1 : Int))), t8.2.2.1, t8.2.2.2.1, t8.2.2.2.2.1, t8.2.2.2.2.2.1, t8.2.2.2.2.2.2.1, t8.2.2.2.2.2.2.2.1, t8.2.2.2.2.2.2.2.2) else none else none else k1 (t8.1, t8.2.2)
def qr k0 k1 := zx (@ZP R k0 k1) zO
abbrev kT : Type := yjN
def ZQ (k0 : y9h → Option R) (k1 : Qv → Option R) (again : kT → Option R) (t5 : kT) : Option R :=
 bif (decide (t5.1 ≤ (3 : Int))) then qr (fun x4 => k0 (x4.1, x4.2.1, x4.2.2.2.1, x4.2.2.2.2.1, x4.2.2.2.2.2.1, x4.2.2.2.2.2.2.1, x4.2.2.2.2.2.2.2.1, x4.2.2.2.2.2.2.2.2.1)) (fun x5 => again ((Go.IntKind.wrap .i64 (x5.1 + (1 : Int))), x5.2.1, x5.2.2.1, x5.2.2.2.1, x5.2.2.2.2.1, x5.2.2.2.2.2.1, x5.2.2.2.2.2.2.1, x5.2.2.2.2.2.2.2)) (t5.1, (0 : Int), t5.2.1, t5.2.2.1, t5.2.2.2.1, t5.2.2.2.2.1, t5.2.2.2.2.2.1, t5.2.2.2.2.2.2.1, t5.2.2.2.2.2.2.2) else k1 (t5.2.1, t5.2.2.1, t5.2.2.2.1, t5.2.2.2.2.1, t5.2.2.2.2.2.1, t5.2.2.2.2.2.2.1)
def qs k0 k1 := zx (@ZQ R k0 k1) zO
abbrev WC : Type := yei
def Zb (k0 : yfy → Option R) (k1 : Unit → Option R) (again : WC → Option R) (t13 : WC) : Option R :=
 bif (decide (t13.1 < (List.length t13.2.2.2.1 : Int))) then if (0 : Int) ≤ t13.1 then if t13.1 < (List.length t13.2.2.2.1 : Int) then Option.bind (WB (t13.2.1, t13.2.2.1, t13.2.2.2.1, t13.2.2.2.2.1, t13.2.2.2.2.2.1, t13.2.2.2.2.2.2, (yC t13.2.2.2.1 t13.1).1)) fun r8 => bif r8 then k0 ((4 : Int), t13.1) else again ((Go.IntKind.wrap .i64 (t13.1 + (1 : Int))), t13.2.1, t13.2.2.1, t13.2.2.2.1, t13.2.2.2.2.1, t13.2.2.2.2.2.1, t13.2.2.2.2.2.2) else none else none else k1 ()
def Vu k0 k1 := zx (@Zb R k0 k1) zO
def YK (x : Qv) : Option yfy :=
 Option.bind (yH x) fun r1 => bif (!r1) then some ((0 : Int), (0 : Int)) else Option.bind (yu (x.1, x.2.1)) fun r2 => qs (fun x6 => some (x6.1, x6.2.1)) (fun x7 => Vu (fun x9 => some x9) (fun x10 => some ((0 : Int), (0 : Int))) ((0 : Int), x7.1, x7.2.1, x7.2.2.1, x7.2.2.2.1, x7.2.2.2.2.1, x7.2.2.2.2.2)) ((1 : Int), x.1, x.2.1, x.2.2.1, x.2.2.2.1, x.2.2.2.2.1, x.2.2.2.2.2, r2)
def ylc : List QF := [q95, yfC, yE0, yE1]
def yb5 (t : yfB) : St := ⟨.dead :: .box 1 0 :: dd 2 (.own 10000000 :: vI t.1 :: vI t.2.1 :: dd 42 []), [(1, .box [yU t.2.2.1, yt t.2.2.2.1, za t.2.2.2.2.1, yL t.2.2.2.2.2.1, zP t.2.2.2.2.2.2.1, vI t.2.2.2.2.2.2.2.1]), (10000000, .root true 64 yi t.2.2.2.2.2.2.2.2)]⟩
def ytf : Gk kS := fun κ => ZP (fun t => κ none ⟨.dead :: .box 1 0 :: vI t.1 :: vI t.2.1 :: .own 10000000 :: vI t.2.2.1 :: dd 43 [], [(1, .box [yU t.2.2.2.1, yt t.2.2.2.2.1, za t.2.2.2.2.2.1, yL t.2.2.2.2.2.2.1, zP t.2.2.2.2.2.2.2.1, vI t.2.2.2.2.2.2.2.2.1]), (10000000, .root true 64 yi t.2.2.2.2.2.2.2.2.2)]⟩) (fun t => κ (some 2) ⟨.dead :: .box 1 0 :: dd 2 (.own 10000000 :: vI t.1 :: dd 43 []), [(1, .box [yU t.2.1, yt t.2.2.1, za t.2.2.2.1, yL t.2.2.2.2.1, zP t.2.2.2.2.2.1, vI t.2.2.2.2.2.2.1]), (10000000, .root true 64 yi t.2.2.2.2.2.2.2)]⟩)
def yb6 (t : yjN) : St := ⟨.dead :: .box 1 0 :: dd 2 (.own 10000000 :: vI t.1 :: dd 43 []), [(1, .box [yU t.2.1, yt t.2.2.1, za t.2.2.2.1, yL t.2.2.2.2.1, zP t.2.2.2.2.2.1, vI t.2.2.2.2.2.2.1]), (10000000, .root true 64 yi t.2.2.2.2.2.2.2)]⟩
def ytg : Gk kT := fun κ => ZQ (fun t => κ none ⟨.dead :: .box 1 0 :: vI t.1 :: vI t.2.1 :: dd 45 [], [(1, .box [yU t.2.2.1, yt t.2.2.2.1, za t.2.2.2.2.1, yL t.2.2.2.2.2.1, zP t.2.2.2.2.2.2.1, vI t.2.2.2.2.2.2.2])]⟩) (fun t => κ (some 0) ⟨.dead :: .box 1 0 :: dd 47 [], [(1, .box [yU t.1, yt t.2.1, za t.2.2.1, yL t.2.2.2.1, zP t.2.2.2.2.1, vI t.2.2.2.2.2])]⟩)
def y7t (t : yei) : St := ⟨.dead :: .box 1 0 :: dd 5 (vI t.1 :: dd 41 []), [(1, .box [yU t.2.1, yt t.2.2.1, za t.2.2.2.1, yL t.2.2.2.2.1, zP t.2.2.2.2.2.1, vI t.2.2.2.2.2.2])]⟩
def yiL : Gk WC := fun κ => Zb (fun t => κ none ⟨dd 2 (vI t.1 :: vI t.2 :: dd 45 []), []⟩) (fun t => κ (some 4) ⟨dd 49 [], []⟩)
def yld : Lp := lpC 13 (unG ymI y7t) @yiL (lpC 5 (unG ynq yb6) @ytg (lpC 8 (unG yi0 yb5) @ytf lpN))
theorem yyc : LF ylc yld 33 8 Tryz.f33 1 yb5 @ytf fun t => t := fun R κ again t => by kernel_rfl
theorem yyd : LK ylc yld 33 Tryz.f33 1 := lkN (u := (unG yi0 yb5)) (yp fun t => by kernel_rfl) yyc
theorem yye : LF ylc yld 33 5 Tryz.f33 0 yb6 @ytg fun t => t := fun R κ again t => by kernel_rfl
theorem yyf : LK ylc yld 33 Tryz.f33 0 := lkN (u := (unG ynq yb6)) (yp fun t => by kernel_rfl) yye
theorem yth : LF ylc yld 33 13 Tryz.f33 2 y7t @yiL fun t => t := fun R κ again t => by kernel_rfl
theorem yti : LK ylc yld 33 Tryz.f33 2 := lkN (u := (unG ymI y7t)) (yp fun t => by kernel_rfl) yth
theorem yE2 : EV ylc yld 33 Tryz.f33 yBw zY yjJ YK := fun x => by kernel_rfl
def q33 : QF := ⟨33, YK, okN (n := 3) Tryz.func33 ⟨yyf, yyd, yti, trivial⟩ yE2⟩
def Zw (x : yjL) : Option ygj :=
 Option.bind (zA (x.1, x.2.1, x.2.2.1, x.2.2.2.1, x.2.2.2.2.1, x.2.2.2.2.2.1, x.2.2.2.2.2.2.1, x.2.2.2.2.2.2.2.1, (0 : Int), (0 : Int), (0 : Int))) fun r1 => some r1
theorem yyg : EV [yxQ] lpN 141 Tryz.f141 yqn yjM ynb Zw := fun x => by kernel_rfl
def yE3 : QF := ⟨141, Zw, okN (n := 0) Tryz.func141 trivial yyg⟩
abbrev vQ : Type := ynr
def WD (k0 : List yd → Option R) (again : vQ → Option R) (t6 : vQ) : Option R :=
 bif (decide (t6.2.2.2.1 < (List.length t6.1 : Int))) then if (0 : Int) ≤ t6.2.2.2.1 then if t6.2.2.2.1 < (List.length t6.1 : Int) then bif ((yC t6.1 t6.2.2.2.1).2 == t6.2.1) then if (0 : Int) ≤ t6.2.2.1 then if t6.2.2.1 < (List.length t6.1 : Int) then bif (t6.2.2.2.1 != t6.2.2.1) then if (List.length t6.2.2.2.2 + List.length ([((yC t6.1 t6.2.2.2.1).1, (yC t6.1 t6.2.2.1).2)] : List yd)) * 16 < 140737488355328 then again (t6.1, t6.2.1, t6.2.2.1, (Go.IntKind.wrap .i64 (t6.2.2.2.1 + (1 : Int))), (t6.2.2.2.2 ++ ([((yC t6.1 t6.2.2.2.1).1, (yC t6.1 t6.2.2.1).2)] : List yd))) else none else again (t6.1, t6.2.1, t6.2.2.1, (Go.IntKind.wrap .i64 (t6.2.2.2.1 + (1 : Int))), t6.2.2.2.2) else none else none else bif (t6.2.2.2.1 != t6.2.2.1) then if (List.length t6.2.2.2.2 + List.length ([((yC t6.1 t6.2.2.2.1).1, (yC t6.1 t6.2.2.2.1).2)] : List yd)) * 16 < 140737488355328 then again (t6.1, t6.2.1, t6.2.2.1, (Go.IntKind.wrap .i64 (t6.2.2.2.1 + (1 : Int))), (t6.2.2.2.2 ++ ([((yC t6.1 t6.2.2.2.1).1, (yC t6.1 t6.2.2.2.1).2)] : List yd))) else none else again (t6.1, t6.2.1, t6.2.2.1, (Go.IntKind.wrap .i64 (t6.2.2.2.1 + (1 : Int))), t6.2.2.2.2) else none else none else k0 t6.2.2.2.2
def y01 k0 := zx (@WD R k0) zO
def JS (x : yeg) : Option yn8 :=
 Option.bind (zG x) fun r1 => Option.bind (bif (decide (r1 < (0 : Int))) then some true else Option.bind (Z5 x.1) fun r3 => some (!r3)) fun u2 => bif u2 then if (List.length ([] : List yd) + List.length x.1) * 16 < 140737488355328 then some ((([] : List yd) ++ x.1), false) else none else y01 (fun x4 => some (x4, true)) (x.1, x.2, r1, (0 : Int), ([] : List yd))
def yle : List QF := [ywY, ymK]
def y7u (t : ynr) : St := ⟨za t.1 :: vI t.2.1 :: dd 4 (vI t.2.2.1 :: .own 10000000 :: vI t.2.2.2.1 :: dd 43 []), [(10000000, .root true 146 yk t.2.2.2.2)]⟩
def yiM : Gk vQ := fun κ => WD (fun t => κ (some 0) ⟨dd 7 (.own 10000000 :: dd 44 []), [(10000000, .root true 146 yk t)]⟩)
def ylf : Lp := lpC 6 (unG yns y7u) @yiM lpN
theorem ytj : LF yle ylf 143 6 Tryz.f143 0 y7u @yiM fun t => t := fun R κ again t => by kernel_rfl
theorem ytk : LK yle ylf 143 Tryz.f143 0 := lkN (u := (unG yns y7u)) (yp fun t => by kernel_rfl) ytj
theorem yyh : EV yle ylf 143 Tryz.f143 yqo yeh yvI JS := fun x => by kernel_rfl
def yE4 : QF := ⟨143, JS, okN (n := 1) Tryz.func143 ⟨ytk, trivial⟩ yyh⟩
def yI (x : Qv) : Option yel :=
 Option.bind (ym x) fun r1 => Option.bind (YK x) fun r2 => Option.bind (yu (x.1, x.2.1)) fun r3 => bif (r2.1 == (1 : Int)) then bif (r2.1 == (1 : Int)) then if (0 : Int) ≤ r2.2 then if r2.2 < (List.length r3 : Int) then Option.bind (Zw (r1.1, r1.2.1, r1.2.2.1, r1.2.2.2.1, r1.2.2.2.2.1, r1.2.2.2.2.2, (y0 r3 r2.2).1, (y0 r3 r2.2).2.1, (y0 r3 r2.2).2.2.1, (y0 r3 r2.2).2.2.2.1, (y0 r3 r2.2).2.2.2.2)) fun r4 => Option.bind (bif (!r4.1) then some true else Option.bind (yH r4.2) fun r6 => some (!r6)) fun u5 => bif u5 then Option.bind (ym x) fun r7 => some (r7.1, r7.2.1, r7.2.2.1, r7.2.2.2.1, r7.2.2.2.2.1, r7.2.2.2.2.2, false) else some (r4.2.1, r4.2.2.1, r4.2.2.2.1, r4.2.2.2.2.1, r4.2.2.2.2.2.1, r4.2.2.2.2.2.2, true) else none else none else bif (r2.1 == (3 : Int)) then if (0 : Int) ≤ r2.2 then if r2.2 < (List.length r3 : Int) then Option.bind (zI (r1.1, r1.2.1, (y0 r3 r2.2).1, (y0 r3 r2.2).2.1, (0 : Int), (0 : Int), (0 : Int))) fun r8 => Option.bind (Za (x.1, x.2.1, x.2.2.1, x.2.2.2.1, x.2.2.2.2.1, x.2.2.2.2.2, (y0 r3 r2.2).2.1)) fun r9 => Option.bind (zI (r8.1, r8.2.1, (y0 r3 r2.2).1, r9, (y0 r3 r2.2).2.2.1, (y0 r3 r2.2).2.2.2.1, (y0 r3 r2.2).2.2.2.2)) fun r10 => Option.bind (bif r8.2.2 then some r10.2.2 else some false) fun u11 => Option.bind (bif (!u11) then some true else Option.bind (yH (r10.1, r10.2.1, r1.2.2)) fun r13 => some (!r13)) fun u12 => bif u12 then Option.bind (ym x) fun r14 => some (r14.1, r14.2.1, r14.2.2.1, r14.2.2.2.1, r14.2.2.2.2.1, r14.2.2.2.2.2, false) else some (r10.1, r10.2.1, r1.2.2.1, r1.2.2.2.1, r1.2.2.2.2.1, r1.2.2.2.2.2, true) else none else none else bif (r2.1 == (4 : Int)) then if (0 : Int) ≤ r2.2 then if r2.2 < (List.length x.2.2.1 : Int) then Option.bind (JS (x.2.2.1, (yC x.2.2.1 r2.2).1)) fun r15 => Option.bind (bif (!r15.2) then some true else Option.bind (yH (r1.1, r1.2.1, r15.1, r1.2.2.2)) fun r17 => some (!r17)) fun u16 => bif u16 then Option.bind (ym x) fun r18 => some (r18.1, r18.2.1, r18.2.2.1, r18.2.2.2.1, r18.2.2.2.2.1, r18.2.2.2.2.2, false) else some (r1.1, r1.2.1, r15.1, r1.2.2.2.1, r1.2.2.2.2.1, r1.2.2.2.2.2, true) else none else none else Option.bind (bif (!(r2.1 != (0 : Int))) then some true else Option.bind (yH r1) fun r20 => some (!r20)) fun u19 => bif u19 then Option.bind (ym x) fun r21 => some (r21.1, r21.2.1, r21.2.2.1, r21.2.2.2.1, r21.2.2.2.2.1, r21.2.2.2.2.2, false) else some (r1.1, r1.2.1, r1.2.2.1, r1.2.2.2.1, r1.2.2.2.2.1, r1.2.2.2.2.2, true) else bif (r2.1 == (2 : Int)) then if (0 : Int) ≤ r2.2 then if r2.2 < (List.length r3 : Int) then Option.bind (Zw (r1.1, r1.2.1, r1.2.2.1, r1.2.2.2.1, r1.2.2.2.2.1, r1.2.2.2.2.2, (y0 r3 r2.2).1, (y0 r3 r2.2).2.1, (y0 r3 r2.2).2.2.1, (y0 r3 r2.2).2.2.2.1, (y0 r3 r2.2).2.2.2.2)) fun r22 => Option.bind (bif (!r22.1) then some true else Option.bind (yH r22.2) fun r24 => some (!r24)) fun u23 => bif u23 then Option.bind (ym x) fun r25 => some (r25.1, r25.2.1, r25.2.2.1, r25.2.2.2.1, r25.2.2.2.2.1, r25.2.2.2.2.2, false) else some (r22.2.1, r22.2.2.1, r22.2.2.2.1, r22.2.2.2.2.1, r22.2.2.2.2.2.1, r22.2.2.2.2.2.2, true) else none else none else bif (r2.1 == (3 : Int)) then if (0 : Int) ≤ r2.2 then if r2.2 < (List.length r3 : Int) then Option.bind (zI (r1.1, r1.2.1, (y0 r3 r2.2).1, (y0 r3 r2.2).2.1, (0 : Int), (0 : Int), (0 : Int))) fun r26 => Option.bind (Za (x.1, x.2.1, x.2.2.1, x.2.2.2.1, x.2.2.2.2.1, x.2.2.2.2.2, (y0 r3 r2.2).2.1)) fun r27 => Option.bind (zI (r26.1, r26.2.1, (y0 r3 r2.2).1, r27, (y0 r3 r2.2).2.2.1, (y0 r3 r2.2).2.2.2.1, (y0 r3 r2.2).2.2.2.2)) fun r28 => Option.bind (bif r26.2.2 then some r28.2.2 else some false) fun u29 => Option.bind (bif (!u29) then some true else Option.bind (yH (r28.1, r28.2.1, r1.2.2)) fun r31 => some (!r31)) fun u30 => bif u30 then Option.bind (ym x) fun r32 => some (r32.1, r32.2.1, r32.2.2.1, r32.2.2.2.1, r32.2.2.2.2.1, r32.2.2.2.2.2, false) else some (r28.1, r28.2.1, r1.2.2.1, r1.2.2.2.1, r1.2.2.2.2.1, r1.2.2.2.2.2, true) else none else none else bif (r2.1 == (4 : Int)) then if (0 : Int) ≤ r2.2 then if r2.2 < (List.length x.2.2.1 : Int) then Option.bind (JS (x.2.2.1, (yC x.2.2.1 r2.2).1)) fun r33 => Option.bind (bif (!r33.2) then some true else Option.bind (yH (r1.1, r1.2.1, r33.1, r1.2.2.2)) fun r35 => some (!r35)) fun u34 => bif u34 then Option.bind (ym x) fun r36 => some (r36.1, r36.2.1, r36.2.2.1, r36.2.2.2.1, r36.2.2.2.2.1, r36.2.2.2.2.2, false) else some (r1.1, r1.2.1, r33.1, r1.2.2.2.1, r1.2.2.2.2.1, r1.2.2.2.2.2, true) else none else none else Option.bind (bif (!(r2.1 != (0 : Int))) then some true else Option.bind (yH r1) fun r38 => some (!r38)) fun u37 => bif u37 then Option.bind (ym x) fun r39 => some (r39.1, r39.2.1, r39.2.2.1, r39.2.2.2.1, r39.2.2.2.2.1, r39.2.2.2.2.2, false) else some (r1.1, r1.2.1, r1.2.2.1, r1.2.2.2.1, r1.2.2.2.2.1, r1.2.2.2.2.2, true)
theorem yE5 : EV [q33, q94, q95, yvn, yfC, yE3, yCh, yE4] lpN 35 Tryz.f35 yBx zY yem yI := fun x => by kernel_rfl
def q35 : QF := ⟨35, yI, okN (n := 0) Tryz.func35 trivial yE5⟩
def Kj (x : ynt) : Option yel :=
 bif (x.2.2.2.2.2.2.1 == (7 : Int)) then Option.bind (yI (x.1, x.2.1, x.2.2.1, x.2.2.2.1, x.2.2.2.2.1, x.2.2.2.2.2.1)) fun r1 => some r1 else bif (x.2.2.2.2.2.2.1 == (8 : Int)) then Option.bind (YI (x.1, x.2.1, x.2.2.1, x.2.2.2.1, x.2.2.2.2.1, x.2.2.2.2.2.1, x.2.2.2.2.2.2.2.2.2.1)) fun r2 => some r2 else Option.bind (YJ (x.1, x.2.1, x.2.2.1, x.2.2.2.1, x.2.2.2.2.1, x.2.2.2.2.2.1, x.2.2.2.2.2.2.2.2.2.1)) fun r3 => some r3
theorem yyi : EV [q12, q15, q35] lpN 315 Tryz.f315 yqp ynu yem Kj := fun x => by kernel_rfl
def yE6 : QF := ⟨315, Kj, okN (n := 0) Tryz.func315 trivial yyi⟩
def Jm (x : ynt) : Option yao :=
 Option.bind (vM x.2.2.2.2.2.2) fun r1 => Option.bind (bif (!r1) then some true else Option.bind (yH (x.1, x.2.1, x.2.2.1, x.2.2.2.1, x.2.2.2.2.1, x.2.2.2.2.2.1)) fun r3 => some (!r3)) fun u2 => bif u2 then Option.bind (ym (x.1, x.2.1, x.2.2.1, x.2.2.2.1, x.2.2.2.2.1, x.2.2.2.2.2.1)) fun r4 => some (r4.1, r4.2.1, r4.2.2.1, r4.2.2.2.1, r4.2.2.2.2.1, r4.2.2.2.2.2, (1 : Int)) else bif (x.2.2.2.2.2.2.1 == (1 : Int)) then Option.bind (JM (x.1, x.2.1, x.2.2.1, x.2.2.2.1, x.2.2.2.2.1, x.2.2.2.2.2.1, x.2.2.2.2.2.2.2.1, x.2.2.2.2.2.2.2.2.2.1)) fun r5 => some r5 else bif (x.2.2.2.2.2.2.1 == (2 : Int)) then Option.bind (kQ (x.1, x.2.1, x.2.2.1, x.2.2.2.1, x.2.2.2.2.1, x.2.2.2.2.2.1, x.2.2.2.2.2.2.2.1, x.2.2.2.2.2.2.2.2.1, (x.2.2.2.2.2.2.2.2.2.2 == (1 : Int)))) fun r6 => some r6 else bif (x.2.2.2.2.2.2.1 == (3 : Int)) then Option.bind (jk (x.1, x.2.1, x.2.2.1, x.2.2.2.1, x.2.2.2.2.1, x.2.2.2.2.2.1, x.2.2.2.2.2.2.2.1)) fun r7 => some r7 else bif (x.2.2.2.2.2.2.1 == (4 : Int)) then Option.bind (wY (x.1, x.2.1, x.2.2.1, x.2.2.2.1, x.2.2.2.2.1, x.2.2.2.2.2.1, x.2.2.2.2.2.2.2.1, x.2.2.2.2.2.2.2.2.2)) fun r8 => some r8 else bif (x.2.2.2.2.2.2.1 == (5 : Int)) then Option.bind (jN (x.1, x.2.1, x.2.2.1, x.2.2.2.1, x.2.2.2.2.1, x.2.2.2.2.2.1, x.2.2.2.2.2.2.2.1, x.2.2.2.2.2.2.2.2.2.1)) fun r9 => some r9 else bif (x.2.2.2.2.2.2.1 == (6 : Int)) then Option.bind (JR (x.1, x.2.1, x.2.2.1, x.2.2.2.1, x.2.2.2.2.1, x.2.2.2.2.2.1, x.2.2.2.2.2.2.2.1, x.2.2.2.2.2.2.2.2.2.1)) fun r10 => some r10 else Option.bind (Kj x) fun r11 => bif (!r11.2.2.2.2.2.2) then some (r11.1, r11.2.1, r11.2.2.1, r11.2.2.2.1, r11.2.2.2.2.1, r11.2.2.2.2.2.1, (2 : Int)) else some (r11.1, r11.2.1, r11.2.2.1, r11.2.2.2.1, r11.2.2.2.2.1, r11.2.2.2.2.2.1, (0 : Int))
theorem yyj : EV [q59, q61, q64, q66, q70, q73, q94, q95, yDQ, yE6] lpN 239 Tryz.f239 yqq ynu yap Jm := fun x => by kernel_rfl
def yE7 : QF := ⟨239, Jm, okN (n := 0) Tryz.func239 trivial yyj⟩
abbrev wG : Type := yen ⊕ yeo
def jz (k0 : yvU → Option R) (k1 : yvV → Option R) (again : wG → Option R) : wG → Option R
 | .inl t3 => bif (decide (t3.1 > (0 : Int))) then Option.bind (Zv (t3.2.1, t3.2.2.1, t3.2.2.2.1)) fun r3 => Option.bind (Jm (t3.2.2.2.2.2.2.1, t3.2.2.2.2.2.2.2.1, t3.2.2.2.2.2.2.2.2.1, t3.2.2.2.2.2.2.2.2.2.1, t3.2.2.2.2.2.2.2.2.2.2, t3.2.2.2.2.2.1, r3.1, r3.2.1, r3.2.2.1, r3.2.2.2.1, r3.2.2.2.2.1)) fun r4 => again (Sum.inr ((Go.IntKind.wrap .i64 (t3.1 - (1 : Int))), r3.2.2.2.2.2.1, r3.2.2.2.2.2.2.1, r3.2.2.2.2.2.2.2, t3.2.2.2.2.1, r4.1, r4.2.1, r4.2.2.1, r4.2.2.2.2.2.1, r4.2.2.2.1, r4.2.2.2.2.1)) else k0 t3.2
 | .inr t3 => bif (decide (t3.1 > (0 : Int))) then Option.bind (Zv (t3.2.1, t3.2.2.1, t3.2.2.2.1)) fun r5 => Option.bind (Jm (t3.2.2.2.2.2.1, t3.2.2.2.2.2.2.1, t3.2.2.2.2.2.2.2.1, t3.2.2.2.2.2.2.2.2.2.1, t3.2.2.2.2.2.2.2.2.2.2, t3.2.2.2.2.2.2.2.2.1, r5.1, r5.2.1, r5.2.2.1, r5.2.2.2.1, r5.2.2.2.2.1)) fun r6 => again (Sum.inr ((Go.IntKind.wrap .i64 (t3.1 - (1 : Int))), r5.2.2.2.2.2.1, r5.2.2.2.2.2.2.1, r5.2.2.2.2.2.2.2, t3.2.2.2.2.1, r6.1, r6.2.1, r6.2.2.1, r6.2.2.2.2.2.1, r6.2.2.2.1, r6.2.2.2.2.1)) else k1 t3.2
def Qe k0 k1 := zx (@jz R k0 k1) zO
def wm (x : yi1) : Option ynx :=
 Option.bind (Kh ()) fun r1 => Option.bind (yc (x.1, x.2.1, x.2.2.1, (Go.IntKind.wrap .i64 (x.2.2.2 + (1 : Int))))) fun r2 => Qe (fun x7 => some (x7.2.2.2.2.2.1, x7.2.2.2.2.2.2.1, x7.2.2.2.2.2.2.2.1, x7.2.2.2.2.2.2.2.2.1, x7.2.2.2.2.2.2.2.2.2, x7.2.2.2.2.1, x7.1, x7.2.1, x7.2.2.1)) (fun x8 => some (x8.2.2.2.2.1, x8.2.2.2.2.2.1, x8.2.2.2.2.2.2.1, x8.2.2.2.2.2.2.2.2.1, x8.2.2.2.2.2.2.2.2.2, x8.2.2.2.2.2.2.2.1, x8.1, x8.2.1, x8.2.2.1)) (Sum.inl (r2.1, r2.2.1, r2.2.2.1, r2.2.2.2, (0 : Int), r1.2.2.2.2.2, r1.1, r1.2.1, r1.2.2.1, r1.2.2.2.1, r1.2.2.2.2.1))
def yeJ : List QF := [yDB, y5d, yDC, yE7]
def y3I (t : yen) : St := ⟨.box 900 0 :: dd 3 (.box 4 0 :: .box 5 0 :: vI t.1 :: dd 17 []), [(900, .box [y5c t.2.1, vI t.2.2.1, vI t.2.2.2.1]), (4, .box [.nils, .nils, .nils, .nils, .nils, vI t.2.2.2.2.1]), (5, .box [.own 10000000, .own 10000001, .own 10000002, .own 10000003, .own 10000004, vI t.2.2.2.2.2.1]), (10000000, .root true 3 yg t.2.2.2.2.2.2.1), (10000001, .root true 140 yj t.2.2.2.2.2.2.2.1), (10000002, .root true 146 yk t.2.2.2.2.2.2.2.2.1), (10000003, .root true 113 yf t.2.2.2.2.2.2.2.2.2.1), (10000004, .root true 46 yz t.2.2.2.2.2.2.2.2.2.2)]⟩
theorem ygJ : ∀ s t, unG ynv y3I s = some t → y3I t = s := yp fun t => by kernel_rfl
def y3J (t : yeo) : St := ⟨.box 900 0 :: dd 3 (.box 4 0 :: .box 5 0 :: vI t.1 :: dd 17 []), [(900, .box [y5c t.2.1, vI t.2.2.1, vI t.2.2.2.1]), (4, .box [.nils, .nils, .nils, .nils, .nils, vI t.2.2.2.2.1]), (5, .box [yU t.2.2.2.2.2.1, yt t.2.2.2.2.2.2.1, za t.2.2.2.2.2.2.2.1, .own 10000000, .own 10000001, vI t.2.2.2.2.2.2.2.2.1]), (10000000, .root true 113 yf t.2.2.2.2.2.2.2.2.2.1), (10000001, .root true 46 yz t.2.2.2.2.2.2.2.2.2.2)]⟩
theorem ygK : ∀ s t, unG ynw y3J s = some t → y3J t = s := yp fun t => by kernel_rfl
def y3K : (yen ⊕ yeo) → St := Sum.elim y3I y3J
def y7v (s : St) : Option (yen ⊕ yeo) := ((unG ynv y3I s).map Sum.inl).or (((unG ynw y3J) s).map Sum.inr)
theorem ygL : ∀ s t, y7v s = some t → y3K t = s := y3g ygJ ygK
def yci : Gk wG := fun κ => jz (fun t => κ (some 0) ⟨.box 900 0 :: dd 3 (.box 4 0 :: .box 5 0 :: dd 18 []), [(900, .box [y5c t.1, vI t.2.1, vI t.2.2.1]), (4, .box [.nils, .nils, .nils, .nils, .nils, vI t.2.2.2.1]), (5, .box [.own 10000000, .own 10000001, .own 10000002, .own 10000003, .own 10000004, vI t.2.2.2.2.1]), (10000000, .root true 3 yg t.2.2.2.2.2.1), (10000001, .root true 140 yj t.2.2.2.2.2.2.1), (10000002, .root true 146 yk t.2.2.2.2.2.2.2.1), (10000003, .root true 113 yf t.2.2.2.2.2.2.2.2.1), (10000004, .root true 46 yz t.2.2.2.2.2.2.2.2.2)]⟩) (fun t => κ (some 0) ⟨.box 900 0 :: dd 3 (.box 4 0 :: .box 5 0 :: dd 18 []), [(900, .box [y5c t.1, vI t.2.1, vI t.2.2.1]), (4, .box [.nils, .nils, .nils, .nils, .nils, vI t.2.2.2.1]), (5, .box [yU t.2.2.2.2.1, yt t.2.2.2.2.2.1, za t.2.2.2.2.2.2.1, .own 10000000, .own 10000001, vI t.2.2.2.2.2.2.2.1]), (10000000, .root true 113 yf t.2.2.2.2.2.2.2.2.1), (10000001, .root true 46 yz t.2.2.2.2.2.2.2.2.2)]⟩)
def yeK : Lp := lpC 3 y7v @yci lpN
theorem ygM : LF yeJ yeK 113 3 Tryz.f113 0 y3K @yci fun v : yen => .inl v := fun R κ again v => by kernel_rfl
theorem ygN : LF yeJ yeK 113 3 Tryz.f113 0 y3K @yci fun v : yeo => .inr v := fun R κ again v => by kernel_rfl
theorem ytl : LF yeJ yeK 113 3 Tryz.f113 0 y3K @yci fun t => t := (LC.sum ygM ygN)
theorem ytm : LK yeJ yeK 113 Tryz.f113 0 := lkN (u := y7v) ygL ytl
theorem yyk : EV yeJ yeK 113 Tryz.f113 yqr yi2 yny wm := fun x => by kernel_rfl
def yE8 : QF := ⟨113, wm, okN (n := 1) Tryz.func113 ⟨ytm, trivial⟩ yyk⟩
def zN (x : y9g) : Option yjO :=
 Option.bind (yc (x.1, x.2.1, x.2.2, (4 : Int))) fun r1 => Option.bind (yc (r1.2.1, r1.2.2.1, r1.2.2.2, (5 : Int))) fun r2 => Option.bind (yr (r2.2.1, r2.2.2.1, r2.2.2.2, ([(0 : Int), (1 : Int), (1 : Int), (1 : Int), (2 : Int)] : List ye))) fun r3 => bif (r3.1 == (1 : Int)) then Option.bind (yc (r3.2.1, r3.2.2.1, r3.2.2.2, (24 : Int))) fun r4 => Option.bind (yr (r4.2.1, r4.2.2.1, r4.2.2.2, ([(0 : Int), (1 : Int), (256 : Int), (999 : Int)] : List ye))) fun r5 => some (r1.1, (Go.IntKind.wrap .i64 ((1 : Int) + r2.1)), r3.1, r4.1, r5.1, r5.2.1, r5.2.2.1, r5.2.2.2) else some (r1.1, (Go.IntKind.wrap .i64 ((1 : Int) + r2.1)), r3.1, (0 : Int), (0 : Int), r3.2.1, r3.2.2.1, r3.2.2.2)
theorem yyl : EV [q90, y5d] lpN 264 Tryz.f264 yqs qg yjP zN := fun x => by kernel_rfl
def ytn : QF := ⟨264, zN, okN (n := 0) Tryz.func264 trivial yyl⟩
def Jn (x : y9g) : Option yjO :=
 Option.bind (zN x) fun r1 => Option.bind (yc (r1.2.2.2.2.2.1, r1.2.2.2.2.2.2.1, r1.2.2.2.2.2.2.2, (12 : Int))) fun r2 => some (r2.1, r1.2.1, r1.2.2.1, r1.2.2.2.1, r1.2.2.2.2.1, r2.2)
theorem yym : EV [y5d, ytn] lpN 146 Tryz.f146 yqt qg yjP Jn := fun x => by kernel_rfl
def yCi : QF := ⟨146, Jn, okN (n := 0) Tryz.func146 trivial yym⟩
abbrev WE : Type := ynz
def WF (k0 : yvW → Option R) (again : WE → Option R) (t3 : WE) : Option R :=
 bif (decide (t3.1 > (0 : Int))) then Option.bind (Jn (t3.2.1, t3.2.2.1, t3.2.2.2.1)) fun r3 => Option.bind (zI (t3.2.2.2.2.1, t3.2.2.2.2.2, r3.1, r3.2.1, r3.2.2.1, r3.2.2.2.1, r3.2.2.2.2.1)) fun r4 => again ((Go.IntKind.wrap .i64 (t3.1 - (1 : Int))), r3.2.2.2.2.2.1, r3.2.2.2.2.2.2.1, r3.2.2.2.2.2.2.2, r4.1, r4.2.1) else k0 t3.2
def y02 k0 := zx (@WF R k0) zO
def WG (x : yi1) : Option ynB :=
 Option.bind (jL ()) fun r1 => Option.bind (yc (x.1, x.2.1, x.2.2.1, (Go.IntKind.wrap .i64 (x.2.2.2 + (1 : Int))))) fun r2 => y02 (fun x5 => some (x5.2.2.2.1, x5.2.2.2.2, x5.1, x5.2.1, x5.2.2.1)) (r2.1, r2.2.1, r2.2.2.1, r2.2.2.2, r1)
def ylg : List QF := [yvn, y5d, yCi, yC6]
def y7w (t : ynz) : St := ⟨.box 900 0 :: dd 3 (.box 4 0 :: .box 5 0 :: vI t.1 :: dd 17 []), [(900, .box [y5c t.2.1, vI t.2.2.1, vI t.2.2.2.1]), (4, .box [.nils, .nils]), (5, .box [.own 10000000, .own 10000001]), (10000000, .root true 3 yg t.2.2.2.2.1), (10000001, .root true 140 yj t.2.2.2.2.2)]⟩
def yiN : Gk WE := fun κ => WF (fun t => κ (some 0) ⟨.box 900 0 :: dd 3 (.box 4 0 :: .box 5 0 :: dd 18 []), [(900, .box [y5c t.1, vI t.2.1, vI t.2.2.1]), (4, .box [.nils, .nils]), (5, .box [.own 10000000, .own 10000001]), (10000000, .root true 3 yg t.2.2.2.1), (10000001, .root true 140 yj t.2.2.2.2)]⟩)
def ylh : Lp := lpC 3 (unG ynA y7w) @yiN lpN
theorem yto : LF ylg ylh 332 3 Tryz.f332 0 y7w @yiN fun t => t := fun R κ again t => by kernel_rfl
theorem ytp : LK ylg ylh 332 Tryz.f332 0 := lkN (u := (unG ynA y7w)) (yp fun t => by kernel_rfl) yto
theorem yyn : EV ylg ylh 332 Tryz.f332 yqu yi2 ynC WG := fun x => by kernel_rfl
def yE9 : QF := ⟨332, WG, okN (n := 1) Tryz.func332 ⟨ytp, trivial⟩ yyn⟩
abbrev WH : Type := ygk ⊕ yep
def Jo (k0 : y9g → Option R) (k1 : yvX → Option R) (again : WH → Option R) : WH → Option R
 | .inl t3 => bif (decide (t3.1 > (0 : Int))) then Option.bind (zN t3.2) fun r2 => Option.bind (Yz (([] : List ya), r2.1, r2.2.1, r2.2.2.1, r2.2.2.2.1, r2.2.2.2.2.1)) fun r3 => again (Sum.inr ((Go.IntKind.wrap .i64 (t3.1 - (1 : Int))), r2.2.2.2.2.2.1, r2.2.2.2.2.2.2.1, r2.2.2.2.2.2.2.2, r3.1)) else k0 t3.2
 | .inr t3 => bif (decide (t3.1 > (0 : Int))) then Option.bind (zN (t3.2.1, t3.2.2.1, t3.2.2.2.1)) fun r4 => Option.bind (Yz (t3.2.2.2.2, r4.1, r4.2.1, r4.2.2.1, r4.2.2.2.1, r4.2.2.2.2.1)) fun r5 => again (Sum.inr ((Go.IntKind.wrap .i64 (t3.1 - (1 : Int))), r4.2.2.2.2.2.1, r4.2.2.2.2.2.2.1, r4.2.2.2.2.2.2.2, r5.1)) else k1 t3.2
def y03 k0 k1 := zx (@Jo R k0 k1) zO
def WI (x : y9g) : Option ynE :=
 Option.bind (yc (x.1, x.2.1, x.2.2, (12 : Int))) fun r1 => y03 (fun x6 => some (([] : List ya), x6.1, x6.2.1, x6.2.2)) (fun x7 => some (x7.2.2.2, x7.1, x7.2.1, x7.2.2.1)) (Sum.inl r1)
def yeL : List QF := [y5d, yCb, ytn]
def y3L (t : ygk) : St := ⟨.box 900 0 :: .dead :: .box 2 0 :: .box 3 0 :: vI t.1 :: dd 15 [], [(900, .box [y5c t.2.1, vI t.2.2.1, vI t.2.2.2]), (2, .box [.nils]), (3, .box [.nils])]⟩
theorem ygO : ∀ s t, unG ymJ y3L s = some t → y3L t = s := yp fun t => by kernel_rfl
def y3M (t : yep) : St := ⟨.box 900 0 :: .dead :: .box 2 0 :: .box 3 0 :: vI t.1 :: dd 15 [], [(900, .box [y5c t.2.1, vI t.2.2.1, vI t.2.2.2.1]), (2, .box [.nils]), (3, .box [.own 10000000]), (10000000, .root true 58 yn t.2.2.2.2)]⟩
theorem ygP : ∀ s t, unG ynD y3M s = some t → y3M t = s := yp fun t => by kernel_rfl
def y3N : (ygk ⊕ yep) → St := Sum.elim y3L y3M
def y7x (s : St) : Option (ygk ⊕ yep) := ((unG ymJ y3L s).map Sum.inl).or (((unG ynD y3M) s).map Sum.inr)
theorem ygQ : ∀ s t, y7x s = some t → y3N t = s := y3g ygO ygP
def ycj : Gk WH := fun κ => Jo (fun t => κ (some 0) ⟨.box 900 0 :: .dead :: .box 2 0 :: .box 3 0 :: dd 16 [], [(900, .box [y5c t.1, vI t.2.1, vI t.2.2]), (2, .box [.nils]), (3, .box [.nils])]⟩) (fun t => κ (some 0) ⟨.box 900 0 :: .dead :: .box 2 0 :: .box 3 0 :: dd 16 [], [(900, .box [y5c t.1, vI t.2.1, vI t.2.2.1]), (2, .box [.nils]), (3, .box [.own 10000000]), (10000000, .root true 58 yn t.2.2.2)]⟩)
def yeM : Lp := lpC 3 y7x @ycj lpN
theorem ygR : LF yeL yeM 352 3 Tryz.f352 0 y3N @ycj fun v : ygk => .inl v := fun R κ again v => by kernel_rfl
theorem ygS : LF yeL yeM 352 3 Tryz.f352 0 y3N @ycj fun v : yep => .inr v := fun R κ again v => by kernel_rfl
theorem ytq : LF yeL yeM 352 3 Tryz.f352 0 y3N @ycj fun t => t := (LC.sum ygR ygS)
theorem ytr : LK yeL yeM 352 Tryz.f352 0 := lkN (u := y7x) ygQ ytq
theorem yyo : EV yeL yeM 352 Tryz.f352 yqv qg ynF WI := fun x => by kernel_rfl
def yEa : QF := ⟨352, WI, okN (n := 1) Tryz.func352 ⟨ytr, trivial⟩ yyo⟩
abbrev WJ : Type := ynG
def WK (k0 : yvY → Option R) (again : WJ → Option R) (t3 : WJ) : Option R :=
 bif (decide (t3.1 > (0 : Int))) then Option.bind (zN (t3.2.1, t3.2.2.1, t3.2.2.2.1)) fun r2 => Option.bind (zr (t3.2.2.2.2, r2.1, r2.2.1, r2.2.2.1, r2.2.2.2.1, r2.2.2.2.2.1)) fun r3 => again ((Go.IntKind.wrap .i64 (t3.1 - (1 : Int))), r2.2.2.2.2.2.1, r2.2.2.2.2.2.2.1, r2.2.2.2.2.2.2.2, r3) else k0 t3.2
def y04 k0 := zx (@WK R k0) zO
def WL (x : yi1) : Option ynI :=
 Option.bind (yc (x.1, x.2.1, x.2.2.1, (Go.IntKind.wrap .i64 (x.2.2.2 + (1 : Int))))) fun r1 => y04 (fun x4 => some (x4.2.2.2, x4.1, x4.2.1, x4.2.2.1)) (r1.1, r1.2.1, r1.2.2.1, r1.2.2.2, ([] : List y9))
def yli : List QF := [y5d, yvj, ytn]
def y7y (t : ynG) : St := ⟨.box 900 0 :: dd 4 (.own 10000000 :: vI t.1 :: dd 14 []), [(900, .box [y5c t.2.1, vI t.2.2.1, vI t.2.2.2.1]), (10000000, .root true 64 yi t.2.2.2.2)]⟩
def yiO : Gk WJ := fun κ => WK (fun t => κ (some 0) ⟨.box 900 0 :: dd 4 (.own 10000000 :: dd 15 []), [(900, .box [y5c t.1, vI t.2.1, vI t.2.2.1]), (10000000, .root true 64 yi t.2.2.2)]⟩)
def ylj : Lp := lpC 3 (unG ynH y7y) @yiO lpN
theorem yts : LF yli ylj 362 3 Tryz.f362 0 y7y @yiO fun t => t := fun R κ again t => by kernel_rfl
theorem ytt : LK yli ylj 362 Tryz.f362 0 := lkN (u := (unG ynH y7y)) (yp fun t => by kernel_rfl) yts
theorem yyp : EV yli ylj 362 Tryz.f362 yqw yi2 ynJ WL := fun x => by kernel_rfl
def yEb : QF := ⟨362, WL, okN (n := 1) Tryz.func362 ⟨ytt, trivial⟩ yyp⟩
def Ky (x : y9g) : Option yjO :=
 Option.bind (zN x) fun r1 => Option.bind (yc (r1.2.2.2.2.2.1, r1.2.2.2.2.2.2.1, r1.2.2.2.2.2.2.2, (12 : Int))) fun r2 => bif (r2.1 == (0 : Int)) then Option.bind (yr (r2.2.1, r2.2.2.1, r2.2.2.2, ([(-1 : Int), (15 : Int), (16 : Int)] : List ye))) fun r3 => some (r3.1, r1.2.1, r1.2.2.1, r1.2.2.2.1, r1.2.2.2.2.1, r3.2) else bif (r2.1 == (1 : Int)) then Option.bind (yr (r2.2.1, r2.2.2.1, r2.2.2.2, ([(0 : Int), (60 : Int), (61 : Int)] : List ye))) fun r4 => some (r1.1, r4.1, r1.2.2.1, r1.2.2.2.1, r1.2.2.2.2.1, r4.2) else bif (r2.1 == (2 : Int)) then Option.bind (yr (r2.2.1, r2.2.2.1, r2.2.2.2, ([(-1 : Int), (3 : Int)] : List ye))) fun r5 => some (r1.1, r1.2.1, r5.1, r1.2.2.2.1, r1.2.2.2.2.1, r5.2) else bif (r2.1 == (3 : Int)) then Option.bind (yr (r2.2.1, r2.2.2.1, r2.2.2.2, ([(-1 : Int), (1 : Int), (23 : Int), (24 : Int)] : List ye))) fun r6 => some (r1.1, r1.2.1, r1.2.2.1, r6.1, r1.2.2.2.2.1, r6.2) else bif (r2.1 == (4 : Int)) then Option.bind (yr (r2.2.1, r2.2.2.1, r2.2.2.2, ([(-1 : Int), (1 : Int), (999 : Int), (1000 : Int)] : List ye))) fun r7 => some (r1.1, r1.2.1, r1.2.2.1, r1.2.2.2.1, r7) else some (r1.1, r1.2.1, r1.2.2.1, r1.2.2.2.1, r1.2.2.2.2.1, r2.2)
theorem yyq : EV [q90, y5d, ytn] lpN 363 Tryz.f363 yqx qg yjP Ky := fun x => by kernel_rfl
def yEc : QF := ⟨363, Ky, okN (n := 0) Tryz.func363 trivial yyq⟩
def Kz (x : yi1) : Option ynI :=
 Option.bind (WL x) fun r1 => Option.bind (yc (r1.2.1, r1.2.2.1, r1.2.2.2, (8 : Int))) fun r2 => bif (r2.1 == (0 : Int)) then Option.bind (Ky r2.2) fun r3 => if (List.length r1.1 + List.length ([(r3.1, r3.2.1, r3.2.2.1, r3.2.2.2.1, r3.2.2.2.2.1)] : List y9)) * 40 < 140737488355328 then some ((r1.1 ++ ([(r3.1, r3.2.1, r3.2.2.1, r3.2.2.2.1, r3.2.2.2.2.1)] : List y9)), r3.2.2.2.2.2.1, r3.2.2.2.2.2.2.1, r3.2.2.2.2.2.2.2) else none else bif (r2.1 == (1 : Int)) then bif (decide ((List.length r1.1 : Int) > (1 : Int))) then if (0 : Int) ≤ (0 : Int) then if (0 : Int) < (List.length r1.1 : Int) then if (0 : Int) ≤ (1 : Int) then if (1 : Int) < (List.length r1.1 : Int) then if (0 : Int) ≤ (0 : Int) then if (0 : Int) < (List.length r1.1 : Int) then if (0 : Int) ≤ (1 : Int) then if (1 : Int) < ((List.length (List.set r1.1 (Int.toNat (0 : Int)) ((y0 r1.1 (1 : Int)).1, (y0 r1.1 (1 : Int)).2.1, (y0 r1.1 (1 : Int)).2.2.1, (y0 r1.1 (1 : Int)).2.2.2.1, (y0 r1.1 (1 : Int)).2.2.2.2)) : Nat) : Int) then some ((List.set (List.set r1.1 (Int.toNat (0 : Int)) ((y0 r1.1 (1 : Int)).1, (y0 r1.1 (1 : Int)).2.1, (y0 r1.1 (1 : Int)).2.2.1, (y0 r1.1 (1 : Int)).2.2.2.1, (y0 r1.1 (1 : Int)).2.2.2.2)) (Int.toNat (1 : Int)) ((y0 r1.1 (0 : Int)).1, (y0 r1.1 (0 : Int)).2.1, (y0 r1.1 (0 : Int)).2.2.1, (y0 r1.1 (0 : Int)).2.2.2.1, (y0 r1.1 (0 : Int)).2.2.2.2)), r2.2.1, r2.2.2.1, r2.2.2.2) else none else none else none else none else none else none else none else none else some (r1.1, r2.2) else some (r1.1, r2.2)
theorem yyr : EV [y5d, yEb, yEc] lpN 353 Tryz.f353 yqy yi2 ynJ Kz := fun x => by kernel_rfl
def yEd : QF := ⟨353, Kz, okN (n := 0) Tryz.func353 trivial yyr⟩
def wZ (x : y9g) : Option ynE :=
 Option.bind (WI x) fun r1 => Option.bind (yc (r1.2.1, r1.2.2.1, r1.2.2.2, (8 : Int))) fun r2 => bif (r2.1 == (0 : Int)) then Option.bind (Kz (r2.2.1, r2.2.2.1, r2.2.2.2, (6 : Int))) fun r3 => if (List.length r1.1 + List.length ([r3.1] : List ya)) * 24 < 140737488355328 then some ((r1.1 ++ ([r3.1] : List ya)), r3.2.1, r3.2.2.1, r3.2.2.2) else none else bif (r2.1 == (1 : Int)) then Option.bind (zN r2.2) fun r4 => Option.bind (zN r4.2.2.2.2.2) fun r5 => if (List.length r1.1 + List.length ([([(r4.1, r4.2.1, r4.2.2.1, r4.2.2.2.1, r4.2.2.2.2.1)] : List y9), ([(r5.1, r5.2.1, r5.2.2.1, r5.2.2.2.1, r5.2.2.2.2.1)] : List y9)] : List ya)) * 24 < 140737488355328 then some ((r1.1 ++ ([([(r4.1, r4.2.1, r4.2.2.1, r4.2.2.2.1, r4.2.2.2.2.1)] : List y9), ([(r5.1, r5.2.1, r5.2.2.1, r5.2.2.2.1, r5.2.2.2.2.1)] : List y9)] : List ya)), r5.2.2.2.2.2.1, r5.2.2.2.2.2.2.1, r5.2.2.2.2.2.2.2) else none else some (r1.1, r2.2)
theorem yys : EV [y5d, ytn, yEa, yEd] lpN 333 Tryz.f333 yqz qg ynF wZ := fun x => by kernel_rfl
def yEe : QF := ⟨333, wZ, okN (n := 0) Tryz.func333 trivial yys⟩
def KA (x : yi1) : Option ynB :=
 Option.bind (WG x) fun r1 => Option.bind (yc (r1.2.2.1, r1.2.2.2.1, r1.2.2.2.2, (12 : Int))) fun r2 => bif (r2.1 == (0 : Int)) then Option.bind (yc (r2.2.1, r2.2.2.1, r2.2.2.2, (List.length r1.1 : Int))) fun r3 => Option.bind (yr (r3.2.1, r3.2.2.1, r3.2.2.2, ([(0 : Int), (-1 : Int), (1 : Int), (300 : Int)] : List ye))) fun r4 => if (0 : Int) ≤ r3.1 then if r3.1 < (List.length r1.1 : Int) then some ((List.set r1.1 (Int.toNat r3.1) r4.1), r1.2.1, r4.2.1, r4.2.2.1, r4.2.2.2) else none else none else bif (r2.1 == (1 : Int)) then Option.bind (wZ r2.2) fun r5 => if (List.length r1.2.1 + List.length ([r5.1] : List y8)) * 24 < 140737488355328 then some (r1.1, (r1.2.1 ++ ([r5.1] : List y8)), r5.2.1, r5.2.2.1, r5.2.2.2) else none else bif (r2.1 == (2 : Int)) then Option.bind (yc (r2.2.1, r2.2.2.1, r2.2.2.2, (List.length r1.2.1 : Int))) fun r6 => Option.bind (wZ r6.2) fun r7 => if (0 : Int) ≤ r6.1 then if r6.1 < (List.length r1.2.1 : Int) then some (r1.1, (List.set r1.2.1 (Int.toNat r6.1) r7.1), r7.2.1, r7.2.2.1, r7.2.2.2) else none else none else bif (r2.1 == (3 : Int)) then some (([] : List ye), ([] : List y8), r2.2.1, r2.2.2.1, r2.2.2.2) else some (r1.1, r1.2.1, r2.2)
theorem yyt : EV [q90, y5d, yE9, yEe] lpN 277 Tryz.f277 yqA yi2 ynC KA := fun x => by kernel_rfl
def yEf : QF := ⟨277, KA, okN (n := 0) Tryz.func277 trivial yyt⟩
def Zc (x : yi1) : Option yvZ :=
 Option.bind (yc x) fun r1 => some ((r1.1 == (0 : Int)), r1.2.1, r1.2.2.1, r1.2.2.2)
theorem yyu : EV [y5d] lpN 144 Tryz.f144 yqB yi2 yw0 Zc := fun x => by kernel_rfl
def yvo : QF := ⟨144, Zc, okN (n := 0) Tryz.func144 trivial yyu⟩
abbrev WM : Type := ygm
def WN (k0 : ynK → Option R) (again : WM → Option R) (t3 : WM) : Option R :=
 bif (decide (t3.1 > (0 : Int))) then bif (decide ((List.length t3.2.2.2.2 : Int) > (0 : Int))) then Option.bind (Zc (t3.2.1, t3.2.2.1, t3.2.2.2.1, (4 : Int))) fun r2 => bif (!r2.1) then Option.bind (yc (r2.2.1, r2.2.2.1, r2.2.2.2, (List.length t3.2.2.2.2 : Int))) fun r3 => if (0 : Int) ≤ r3.1 then if r3.1 < (List.length t3.2.2.2.2 : Int) then Option.bind (yc (r3.2.1, r3.2.2.1, r3.2.2.2, (8 : Int))) fun r4 => Option.bind (zU (t3.2.2.2.2, (Go.IntKind.wrap .i64 ((1 : Int) + r4.1)), (yC t3.2.2.2.2 r3.1).1)) fun r5 => again ((Go.IntKind.wrap .i64 (t3.1 - (1 : Int))), r4.2.1, r4.2.2.1, r4.2.2.2, r5.1) else none else none else Option.bind (yc (r2.2.1, r2.2.2.1, r2.2.2.2, (8 : Int))) fun r6 => Option.bind (zU (t3.2.2.2.2, (Go.IntKind.wrap .i64 ((1 : Int) + r6.1)), (0 : Int))) fun r7 => again ((Go.IntKind.wrap .i64 (t3.1 - (1 : Int))), r6.2.1, r6.2.2.1, r6.2.2.2, r7.1) else Option.bind (yc (t3.2.1, t3.2.2.1, t3.2.2.2.1, (8 : Int))) fun r8 => Option.bind (zU (t3.2.2.2.2, (Go.IntKind.wrap .i64 ((1 : Int) + r8.1)), (0 : Int))) fun r9 => again ((Go.IntKind.wrap .i64 (t3.1 - (1 : Int))), r8.2.1, r8.2.2.1, r8.2.2.2, r9.1) else k0 t3.2
def y05 k0 := zx (@WN R k0) zO
def WO (x : y9g) : Option ynL :=
 Option.bind (yc (x.1, x.2.1, x.2.2, (8 : Int))) fun r1 => y05 (fun x10 => some (x10.2.2.2, x10.1, x10.2.1, x10.2.2.1)) (r1.1, r1.2.1, r1.2.2.1, r1.2.2.2, ([] : List yd))
def ylk : List QF := [yvo, y5d, yxv]
def y7z (t : ygm) : St := ⟨.box 900 0 :: dd 2 (.own 10000000 :: vI t.1 :: dd 34 []), [(900, .box [y5c t.2.1, vI t.2.2.1, vI t.2.2.2.1]), (10000000, .root true 146 yk t.2.2.2.2)]⟩
def yiP : Gk WM := fun κ => WN (fun t => κ (some 0) ⟨.box 900 0 :: dd 2 (.own 10000000 :: dd 35 []), [(900, .box [y5c t.1, vI t.2.1, vI t.2.2.1]), (10000000, .root true 146 yk t.2.2.2)]⟩)
def yll : Lp := lpC 3 (unG ygn y7z) @yiP lpN
theorem ytu : LF ylk yll 334 3 Tryz.f334 0 y7z @yiP fun t => t := fun R κ again t => by kernel_rfl
theorem ytv : LK ylk yll 334 Tryz.f334 0 := lkN (u := (unG ygn y7z)) (yp fun t => by kernel_rfl) ytu
theorem yyv : EV ylk yll 334 Tryz.f334 yqC qg ynM WO := fun x => by kernel_rfl
def yEg : QF := ⟨334, WO, okN (n := 1) Tryz.func334 ⟨ytv, trivial⟩ yyv⟩
abbrev WP : Type := ygm
def WQ (k0 : ynK → Option R) (again : WP → Option R) (t10 : WP) : Option R :=
 bif (decide (t10.1 < (14 : Int))) then if (List.length t10.2.2.2.2 + List.length ([((Go.IntKind.wrap .i64 ((20 : Int) + t10.1)), (0 : Int))] : List yd)) * 16 < 140737488355328 then again ((Go.IntKind.wrap .i64 (t10.1 + (1 : Int))), t10.2.1, t10.2.2.1, t10.2.2.2.1, (t10.2.2.2.2 ++ ([((Go.IntKind.wrap .i64 ((20 : Int) + t10.1)), (0 : Int))] : List yd))) else none else k0 t10.2
def y06 k0 := zx (@WQ R k0) zO
def KB (x : y9g) : Option ynL :=
 Option.bind (WO x) fun r1 => Option.bind (yc (r1.2.1, r1.2.2.1, r1.2.2.2, (8 : Int))) fun r2 => bif (r2.1 == (0 : Int)) then Option.bind (yr (r2.2.1, r2.2.2.1, r2.2.2.2, ([(0 : Int), (3 : Int), (60 : Int), (61 : Int)] : List ye))) fun r3 => Option.bind (yr (r3.2.1, r3.2.2.1, r3.2.2.2, ([(0 : Int), (1 : Int), (9 : Int), (-1 : Int)] : List ye))) fun r4 => if (List.length r1.1 + List.length ([(r3.1, r4.1)] : List yd)) * 16 < 140737488355328 then some ((r1.1 ++ ([(r3.1, r4.1)] : List yd)), r4.2.1, r4.2.2.1, r4.2.2.2) else none else bif (r2.1 == (1 : Int)) then bif (decide ((List.length r1.1 : Int) > (0 : Int))) then Option.bind (yr (r2.2.1, r2.2.2.1, r2.2.2.2, ([(1 : Int), (2 : Int), (3 : Int)] : List ye))) fun r5 => if (0 : Int) ≤ (0 : Int) then if (0 : Int) < (List.length r1.1 : Int) then some ((List.set r1.1 (Int.toNat (0 : Int)) ((yC r1.1 (0 : Int)).1, r5.1)), r5.2.1, r5.2.2.1, r5.2.2.2) else none else none else some (r1.1, r2.2) else bif (r2.1 == (2 : Int)) then y06 (fun x6 => some (x6.2.2.2, x6.1, x6.2.1, x6.2.2.1)) ((0 : Int), r2.2.1, r2.2.2.1, r2.2.2.2, r1.1) else some (r1.1, r2.2)
def ylm : List QF := [q90, y5d, yEg]
def y4F (t : ygm) : St := ⟨.box 900 0 :: dd 2 (.own 10000000 :: vI t.1 :: dd 40 []), [(900, .box [y5c t.2.1, vI t.2.2.1, vI t.2.2.2.1]), (10000000, .root true 146 yk t.2.2.2.2)]⟩
def yeN : Gk WP := fun κ => WQ (fun t => κ (some 1) ⟨.box 900 0 :: dd 2 (.own 10000000 :: dd 41 []), [(900, .box [y5c t.1, vI t.2.1, vI t.2.2.1]), (10000000, .root true 146 yk t.2.2.2)]⟩)
def yln : Lp := lpC 10 (unG ygn y4F) @yeN lpN
theorem ylo : LF ylm yln 278 10 Tryz.f278 0 y4F @yeN fun t => t := fun R κ again t => by kernel_rfl
theorem ylp : LK ylm yln 278 Tryz.f278 0 := lkN (u := (unG ygn y4F)) (yp fun t => by kernel_rfl) ylo
theorem yyw : EV ylm yln 278 Tryz.f278 yqD qg ynM KB := fun x => by kernel_rfl
def yEh : QF := ⟨278, KB, okN (n := 1) Tryz.func278 ⟨ylp, trivial⟩ yyw⟩
abbrev WR : Type := ynN
def WS (k0 : yw1 → Option R) (again : WR → Option R) (t3 : WR) : Option R :=
 bif (decide (t3.1 > (0 : Int))) then Option.bind (Zc (t3.2.1, t3.2.2.1, t3.2.2.2.1, (3 : Int))) fun r3 => bif r3.1 then Option.bind (yc (r3.2.1, r3.2.2.1, r3.2.2.2, (6 : Int))) fun r4 => Option.bind (YH (t3.2.2.2.2, r4.1)) fun r5 => again ((Go.IntKind.wrap .i64 (t3.1 - (1 : Int))), r4.2.1, r4.2.2.1, r4.2.2.2, r5) else Option.bind (yr (r3.2.1, r3.2.2.1, r3.2.2.2, ([(0 : Int), (5 : Int), (65535 : Int)] : List ye))) fun r6 => Option.bind (Ye (t3.2.2.2.2, r6.1)) fun r7 => again ((Go.IntKind.wrap .i64 (t3.1 - (1 : Int))), r6.2.1, r6.2.2.1, r6.2.2.2, r7.1) else k0 t3.2
def y07 k0 := zx (@WS R k0) zO
def WT (x : y9g) : Option ynP :=
 Option.bind (ZO ()) fun r1 => Option.bind (yc (x.1, x.2.1, x.2.2, (30 : Int))) fun r2 => y07 (fun x8 => some (x8.2.2.2, x8.1, x8.2.1, x8.2.2.1)) (r2.1, r2.2.1, r2.2.2.1, r2.2.2.2, r1)
def ylq : List QF := [q90, yxy, yxN, yvo, y5d, yC7]
def y7A (t : ynN) : St := ⟨.box 900 0 :: dd 2 (.own 10000000 :: vI t.1 :: dd 23 []), [(900, .box [y5c t.2.1, vI t.2.2.1, vI t.2.2.2.1]), (10000000, .root true 113 yf t.2.2.2.2)]⟩
def yiQ : Gk WR := fun κ => WS (fun t => κ (some 0) ⟨.box 900 0 :: dd 2 (.own 10000000 :: dd 24 []), [(900, .box [y5c t.1, vI t.2.1, vI t.2.2.1]), (10000000, .root true 113 yf t.2.2.2)]⟩)
def ylr : Lp := lpC 3 (unG ynO y7A) @yiQ lpN
theorem ytw : LF ylq ylr 335 3 Tryz.f335 0 y7A @yiQ fun t => t := fun R κ again t => by kernel_rfl
theorem ytx : LK ylq ylr 335 Tryz.f335 0 := lkN (u := (unG ynO y7A)) (yp fun t => by kernel_rfl) ytw
theorem yyx : EV ylq ylr 335 Tryz.f335 yqE qg ynQ WT := fun x => by kernel_rfl
def yEi : QF := ⟨335, WT, okN (n := 1) Tryz.func335 ⟨ytx, trivial⟩ yyx⟩
def KC (x : y9g) : Option ynP :=
 Option.bind (WT x) fun r1 => Option.bind (yc (r1.2.1, r1.2.2.1, r1.2.2.2, (10 : Int))) fun r2 => bif (r2.1 == (0 : Int)) then if (0 : Int) ≤ (1 : Int) then if (1 : Int) ≤ (List.length r1.1 : Int) then if (List.length r1.1 : Int) ≤ (List.length r1.1 : Int) then some ((List.drop (Int.toNat (1 : Int)) (List.take (Int.toNat (List.length r1.1 : Int)) r1.1)), r2.2.1, r2.2.2.1, r2.2.2.2) else none else none else none else bif (r2.1 == (1 : Int)) then Option.bind (yc (r2.2.1, r2.2.2.1, r2.2.2.2, (List.length r1.1 : Int))) fun r3 => Option.bind (yr (r3.2.1, r3.2.2.1, r3.2.2.2, ([(-1 : Int), (999 : Int), (1000 : Int)] : List ye))) fun r4 => if (0 : Int) ≤ r3.1 then if r3.1 < (List.length r1.1 : Int) then some ((List.set r1.1 (Int.toNat r3.1) (r4.1, (yA r1.1 r3.1).2)), r4.2.1, r4.2.2.1, r4.2.2.2) else none else none else bif (r2.1 == (2 : Int)) then Option.bind (yc (r2.2.1, r2.2.2.1, r2.2.2.2, (List.length r1.1 : Int))) fun r5 => Option.bind (yr (r5.2.1, r5.2.2.1, r5.2.2.2, ([(-1 : Int), (5 : Int), (65536 : Int)] : List ye))) fun r6 => if (0 : Int) ≤ r5.1 then if r5.1 < (List.length r1.1 : Int) then some ((List.set r1.1 (Int.toNat r5.1) ((yA r1.1 r5.1).1, (yA r1.1 r5.1).2.1, r6.1)), r6.2.1, r6.2.2.1, r6.2.2.2) else none else none else bif (r2.1 == (3 : Int)) then if (0 : Int) ≤ (0 : Int) then if (0 : Int) < (List.length r1.1 : Int) then some ((List.set r1.1 (Int.toNat (0 : Int)) ((999 : Int), (yA r1.1 (0 : Int)).2)), r2.2.1, r2.2.2.1, r2.2.2.2) else none else none else some (r1.1, r2.2)
theorem yyy : EV [q90, y5d, yEi] lpN 279 Tryz.f279 yqF qg ynQ KC := fun x => by kernel_rfl
def yEj : QF := ⟨279, KC, okN (n := 0) Tryz.func279 trivial yyy⟩
def JT (x : yi1) : Option ynx :=
 Option.bind (wm x) fun r1 => Option.bind (yc (r1.2.2.2.2.2.2.1, r1.2.2.2.2.2.2.2.1, r1.2.2.2.2.2.2.2.2, (20 : Int))) fun r2 => bif (r2.1 == (0 : Int)) then Option.bind (KA (r2.2.1, r2.2.2.1, r2.2.2.2, (6 : Int))) fun r3 => some (r3.1, r3.2.1, r1.2.2.1, r1.2.2.2.1, r1.2.2.2.2.1, r1.2.2.2.2.2.1, r3.2.2) else bif (r2.1 == (1 : Int)) then Option.bind (KB r2.2) fun r4 => some (r1.1, r1.2.1, r4.1, r1.2.2.2.1, r1.2.2.2.2.1, r1.2.2.2.2.2.1, r4.2) else bif (r2.1 == (2 : Int)) then Option.bind (KC r2.2) fun r5 => some (r1.1, r1.2.1, r1.2.2.1, r5.1, r1.2.2.2.2.1, r1.2.2.2.2.2.1, r5.2) else bif (r2.1 == (3 : Int)) then Option.bind (Jh (r2.2.1, r2.2.2.1, r2.2.2.2, ([{ data := #[97] }, { data := #[122, 122] }, { data := #[65] }] : List qR))) fun r6 => Option.bind (yc (r6.2.1, r6.2.2.1, r6.2.2.2, (4 : Int))) fun r7 => Option.bind (yr (r7.2.1, r7.2.2.1, r7.2.2.2, ([(0 : Int), (1 : Int), (13 : Int)] : List ye))) fun r8 => if (List.length r1.2.2.2.2.1 + List.length ([(r6.1, (Go.IntKind.wrap .i64 ((1 : Int) + r7.1)), r8.1, false)] : List yl)) * 40 < 140737488355328 then some (r1.1, r1.2.1, r1.2.2.1, r1.2.2.2.1, (r1.2.2.2.2.1 ++ ([(r6.1, (Go.IntKind.wrap .i64 ((1 : Int) + r7.1)), r8.1, false)] : List yl)), r1.2.2.2.2.2.1, r8.2.1, r8.2.2.1, r8.2.2.2) else none else bif (r2.1 == (4 : Int)) then Option.bind (yr (r2.2.1, r2.2.2.1, r2.2.2.2, ([(0 : Int), (1 : Int), (60 : Int), (61 : Int), (62 : Int)] : List ye))) fun r9 => some (r1.1, r1.2.1, r1.2.2.1, r1.2.2.2.1, r1.2.2.2.2.1, r9) else bif (r2.1 == (5 : Int)) then Option.bind (yc (r2.2.1, r2.2.2.1, r2.2.2.2, (List.length r1.2.2.2.1 : Int))) fun r10 => if (0 : Int) ≤ r10.1 then if r10.1 < (List.length r1.2.2.2.1 : Int) then some (r1.1, r1.2.1, r1.2.2.1, (List.set r1.2.2.2.1 (Int.toNat r10.1) ((yA r1.2.2.2.1 r10.1).1, true, (yA r1.2.2.2.1 r10.1).2.2)), r1.2.2.2.2.1, r1.2.2.2.2.2.1, r10.2.1, r10.2.2.1, r10.2.2.2) else none else none else bif (r2.1 == (6 : Int)) then bif (decide ((List.length r1.2.2.2.2.1 : Int) > (0 : Int))) then Option.bind (yc (r2.2.1, r2.2.2.1, r2.2.2.2, (6 : Int))) fun r11 => if (0 : Int) ≤ (0 : Int) then if (0 : Int) < (List.length r1.2.2.2.2.1 : Int) then some (r1.1, r1.2.1, r1.2.2.1, r1.2.2.2.1, (List.set r1.2.2.2.2.1 (Int.toNat (0 : Int)) ((yq r1.2.2.2.2.1 (0 : Int)).1, (Go.IntKind.wrap .i64 ((1 : Int) + r11.1)), (yq r1.2.2.2.2.1 (0 : Int)).2.2)), r1.2.2.2.2.2.1, r11.2.1, r11.2.2.1, r11.2.2.2) else none else none else some (r1.1, r1.2.1, r1.2.2.1, r1.2.2.2.1, r1.2.2.2.2.1, r1.2.2.2.2.2.1, r2.2) else some (r1.1, r1.2.1, r1.2.2.1, r1.2.2.2.1, r1.2.2.2.2.1, r1.2.2.2.2.2.1, r2.2)
theorem yyz : EV [q90, yE8, y5d, yxn, yEf, yEh, yEj] lpN 165 Tryz.f165 yqG yi2 yny JT := fun x => by kernel_rfl
def yCj : QF := ⟨165, JT, okN (n := 0) Tryz.func165 trivial yyz⟩
abbrev wH : Type := yeq ⊕ yer
def jA (k0 : yw2 → Option R) (k1 : yaZ → Option R) (again : wH → Option R) : wH → Option R
 | .inl t4 => bif (decide (t4.1 > (0 : Int))) then Option.bind (zM (t4.2.2.1, t4.2.2.2.1, t4.2.2.2.2.1)) fun r5 => Option.bind (jk (t4.2.2.2.2.2.1, t4.2.2.2.2.2.2.1, t4.2.2.2.2.2.2.2.1, t4.2.2.2.2.2.2.2.2.1, t4.2.2.2.2.2.2.2.2.2.2, t4.2.2.2.2.2.2.2.2.2.1, r5.1)) fun r6 => again (Sum.inr ((Go.IntKind.wrap .i64 (t4.1 - (1 : Int))), t4.2.1, r5.2.1, r5.2.2.1, r5.2.2.2, r6.1, r6.2.1, r6.2.2.1, r6.2.2.2.2.2.1, r6.2.2.2.1, r6.2.2.2.2.1)) else k0 (t4.2.1, t4.2.2.2.2.2)
 | .inr t4 => bif (decide (t4.1 > (0 : Int))) then Option.bind (zM (t4.2.2.1, t4.2.2.2.1, t4.2.2.2.2.1)) fun r7 => Option.bind (jk (t4.2.2.2.2.2.1, t4.2.2.2.2.2.2.1, t4.2.2.2.2.2.2.2.1, t4.2.2.2.2.2.2.2.2.2.1, t4.2.2.2.2.2.2.2.2.2.2, t4.2.2.2.2.2.2.2.2.1, r7.1)) fun r8 => again (Sum.inr ((Go.IntKind.wrap .i64 (t4.1 - (1 : Int))), t4.2.1, r7.2.1, r7.2.2.1, r7.2.2.2, r8.1, r8.2.1, r8.2.2.1, r8.2.2.2.2.2.1, r8.2.2.2.1, r8.2.2.2.2.1)) else k1 (t4.2.1, t4.2.2.2.2.2)
def Qg k0 k1 := zx (@jA R k0 k1) zO
def jO (x : List Vh) : Option Qv :=
 Option.bind (wW x) fun r1 => Option.bind (JL (x, (24 : Int))) fun r2 => Option.bind (JT (r1.1, r1.2.1, r1.2.2, (Go.IntKind.wrap .i64 ((6 : Int) + r2)))) fun r3 => Option.bind (yc (r3.2.2.2.2.2.2.1, r3.2.2.2.2.2.2.2.1, r3.2.2.2.2.2.2.2.2, (3 : Int))) fun r4 => Qg (fun x9 => some (x9.2.1, x9.2.2.1, x9.2.2.2.1, x9.2.2.2.2.1, x9.2.2.2.2.2.2, x9.2.2.2.2.2.1)) (fun x10 => some (x10.2.1, x10.2.2.1, x10.2.2.2.1, x10.2.2.2.2.2.1, x10.2.2.2.2.2.2, x10.2.2.2.2.1)) (Sum.inl (r4.1, (0 : Int), r4.2.1, r4.2.2.1, r4.2.2.2, r3.1, r3.2.1, r3.2.2.1, r3.2.2.2.1, r3.2.2.2.2.2.1, r3.2.2.2.2.1))
def yeO : List QF := [q64, yxi, yC4, y5d, yCj, yC5]
def y3O (t : yeq) : St := ⟨dd 2 (.box 2 0 :: .box 8500 0 :: .box 4 0 :: vI t.1 :: dd 21 []), [(2, .box [.nils, .nils, .nils, .nils, .nils, vI t.2.1]), (8500, .box [y5c t.2.2.1, vI t.2.2.2.1, vI t.2.2.2.2.1]), (4, .box [yU t.2.2.2.2.2.1, yt t.2.2.2.2.2.2.1, za t.2.2.2.2.2.2.2.1, yL t.2.2.2.2.2.2.2.2.1, .own 10000000, vI t.2.2.2.2.2.2.2.2.2.1]), (10000000, .root true 46 yz t.2.2.2.2.2.2.2.2.2.2)]⟩
theorem ygT : ∀ s t, unG ynR y3O s = some t → y3O t = s := yp fun t => by kernel_rfl
def y3P (t : yer) : St := ⟨dd 2 (.box 2 0 :: .box 8500 0 :: .box 4 0 :: vI t.1 :: dd 21 []), [(2, .box [.nils, .nils, .nils, .nils, .nils, vI t.2.1]), (8500, .box [y5c t.2.2.1, vI t.2.2.2.1, vI t.2.2.2.2.1]), (4, .box [yU t.2.2.2.2.2.1, yt t.2.2.2.2.2.2.1, za t.2.2.2.2.2.2.2.1, .own 10000000, .own 10000001, vI t.2.2.2.2.2.2.2.2.1]), (10000000, .root true 113 yf t.2.2.2.2.2.2.2.2.2.1), (10000001, .root true 46 yz t.2.2.2.2.2.2.2.2.2.2)]⟩
theorem ygU : ∀ s t, unG ynS y3P s = some t → y3P t = s := yp fun t => by kernel_rfl
def y3Q : (yeq ⊕ yer) → St := Sum.elim y3O y3P
def y7B (s : St) : Option (yeq ⊕ yer) := ((unG ynR y3O s).map Sum.inl).or (((unG ynS y3P) s).map Sum.inr)
theorem ygV : ∀ s t, y7B s = some t → y3Q t = s := y3g ygT ygU
def yck : Gk wH := fun κ => jA (fun t => κ (some 0) ⟨dd 2 (.box 2 0 :: .dead :: .box 4 0 :: dd 22 []), [(2, .box [.nils, .nils, .nils, .nils, .nils, vI t.1]), (4, .box [yU t.2.1, yt t.2.2.1, za t.2.2.2.1, yL t.2.2.2.2.1, .own 10000000, vI t.2.2.2.2.2.1]), (10000000, .root true 46 yz t.2.2.2.2.2.2)]⟩) (fun t => κ (some 0) ⟨dd 2 (.box 2 0 :: .dead :: .box 4 0 :: dd 22 []), [(2, .box [.nils, .nils, .nils, .nils, .nils, vI t.1]), (4, .box [yU t.2.1, yt t.2.2.1, za t.2.2.2.1, .own 10000000, .own 10000001, vI t.2.2.2.2.1]), (10000000, .root true 113 yf t.2.2.2.2.2.1), (10000001, .root true 46 yz t.2.2.2.2.2.2)]⟩)
def yeP : Lp := lpC 4 y7B @yck lpN
theorem ygW : LF yeO yeP 106 4 Tryz.f106 0 y3Q @yck fun v : yeq => .inl v := fun R κ again v => by kernel_rfl
theorem ygX : LF yeO yeP 106 4 Tryz.f106 0 y3Q @yck fun v : yer => .inr v := fun R κ again v => by kernel_rfl
theorem yty : LF yeO yeP 106 4 Tryz.f106 0 y3Q @yck fun t => t := (LC.sum ygW ygX)
theorem ytz : LK yeO yeP 106 Tryz.f106 0 := lkN (u := y7B) ygV yty
theorem yyA : EV yeO yeP 106 Tryz.f106 yqH [(.sl 5 Yo)] zY jO := fun x => by kernel_rfl
def yCk : QF := ⟨106, jO, okN (n := 1) Tryz.func106 ⟨ytz, trivial⟩ yyA⟩
def YL (x : List Vh) : Option Qv :=
 Option.bind (jO x) fun r1 => some r1
theorem yEk : EV [yCk] lpN 31 Tryz.f31 yBy [(.sl 5 Yo)] zY YL := fun x => by kernel_rfl
def q31 : QF := ⟨31, YL, okN (n := 0) Tryz.func31 trivial yEk⟩
def jP (x : yv2) : Option Bool :=
 Option.bind (bif (decide (x.1 < x.2.2.2.2.2.1)) then some true else Option.bind (bif (x.1 == x.2.2.2.2.2.1) then some (decide (x.2.1 < x.2.2.2.2.2.2.1)) else some false) fun u2 => some u2) fun u1 => some u1
theorem yyB : EV [] lpN 342 Tryz.f342 yqI yv3 [.bool] jP := fun x => by kernel_rfl
def yCl : QF := ⟨342, jP, okN (n := 0) Tryz.func342 trivial yyB⟩
def ZR (x : yv2) : Option Bool :=
 Option.bind (bif (x.1 == x.2.2.2.2.2.1) then some (x.2.1 == x.2.2.2.2.2.2.1) else some false) fun u1 => some u1
theorem yyC : EV [] lpN 343 Tryz.f343 yqJ yv3 [.bool] ZR := fun x => by kernel_rfl
def yEl : QF := ⟨343, ZR, okN (n := 0) Tryz.func343 trivial yyC⟩
abbrev WU : Type := ynU
def YM (k0 : yAq → Option R) (again : WU → Option R) (t4 : WU) : Option R :=
 bif (decide (t4.2.2.2.1 < t4.2.2.1)) then if (0 : Int) ≤ t4.2.2.2.1 then if t4.2.2.2.1 < (List.length t4.2.1 : Int) then Option.bind (bif (!t4.1) then Option.bind (jP ((y0 t4.2.1 t4.2.2.2.1).1, (y0 t4.2.1 t4.2.2.2.1).2.1, (y0 t4.2.1 t4.2.2.2.1).2.2.1, (y0 t4.2.1 t4.2.2.2.1).2.2.2.1, (y0 t4.2.1 t4.2.2.2.1).2.2.2.2, t4.2.2.2.2.1, t4.2.2.2.2.2.1, t4.2.2.2.2.2.2.1, t4.2.2.2.2.2.2.2.1, t4.2.2.2.2.2.2.2.2.1)) fun r2 => some (!r2) else some false) fun u1 => bif u1 then if (List.length t4.2.2.2.2.2.2.2.2.2 + List.length ([(t4.2.2.2.2.1, t4.2.2.2.2.2.1, t4.2.2.2.2.2.2.1, t4.2.2.2.2.2.2.2.1, t4.2.2.2.2.2.2.2.2.1)] : List y9)) * 40 < 140737488355328 then Option.bind (ZR ((y0 t4.2.1 t4.2.2.2.1).1, (y0 t4.2.1 t4.2.2.2.1).2.1, (y0 t4.2.1 t4.2.2.2.1).2.2.1, (y0 t4.2.1 t4.2.2.2.1).2.2.2.1, (y0 t4.2.1 t4.2.2.2.1).2.2.2.2, t4.2.2.2.2.1, t4.2.2.2.2.2.1, t4.2.2.2.2.2.2.1, t4.2.2.2.2.2.2.2.1, t4.2.2.2.2.2.2.2.2.1)) fun r3 => bif (!r3) then if (List.length (t4.2.2.2.2.2.2.2.2.2 ++ ([(t4.2.2.2.2.1, t4.2.2.2.2.2.1, t4.2.2.2.2.2.2.1, t4.2.2.2.2.2.2.2.1, t4.2.2.2.2.2.2.2.2.1)] : List y9)) + List.length ([((y0 t4.2.1 t4.2.2.2.1).1, (y0 t4.2.1 t4.2.2.2.1).2.1, (y0 t4.2.1 t4.2.2.2.1).2.2.1, (y0 t4.2.1 t4.2.2.2.1).2.2.2.1, (y0 t4.2.1 t4.2.2.2.1).2.2.2.2)] : List y9)) * 40 < 140737488355328 then again (true, t4.2.1, t4.2.2.1, (Go.IntKind.wrap .i64 (t4.2.2.2.1 + (1 : Int))), t4.2.2.2.2.1, t4.2.2.2.2.2.1, t4.2.2.2.2.2.2.1, t4.2.2.2.2.2.2.2.1, t4.2.2.2.2.2.2.2.2.1, ((t4.2.2.2.2.2.2.2.2.2 ++ ([(t4.2.2.2.2.1, t4.2.2.2.2.2.1, t4.2.2.2.2.2.2.1, t4.2.2.2.2.2.2.2.1, t4.2.2.2.2.2.2.2.2.1)] : List y9)) ++ ([((y0 t4.2.1 t4.2.2.2.1).1, (y0 t4.2.1 t4.2.2.2.1).2.1, (y0 t4.2.1 t4.2.2.2.1).2.2.1, (y0 t4.2.1 t4.2.2.2.1).2.2.2.1, (y0 t4.2.1 t4.2.2.2.1).2.2.2.2)] : List y9))) else none else again (true, t4.2.1, t4.2.2.1, (Go.IntKind.wrap .i64 (t4.2.2.2.1 + (1 : Int))), t4.2.2.2.2.1, t4.2.2.2.2.2.1, t4.2.2.2.2.2.2.1, t4.2.2.2.2.2.2.2.1, t4.2.2.2.2.2.2.2.2.1, (t4.2.2.2.2.2.2.2.2.2 ++ ([(t4.2.2.2.2.1, t4.2.2.2.2.2.1, t4.2.2.2.2.2.2.1, t4.2.2.2.2.2.2.2.1, t4.2.2.2.2.2.2.2.2.1)] : List y9))) else none else Option.bind (ZR ((y0 t4.2.1 t4.2.2.2.1).1, (y0 t4.2.1 t4.2.2.2.1).2.1, (y0 t4.2.1 t4.2.2.2.1).2.2.1, (y0 t4.2.1 t4.2.2.2.1).2.2.2.1, (y0 t4.2.1 t4.2.2.2.1).2.2.2.2, t4.2.2.2.2.1, t4.2.2.2.2.2.1, t4.2.2.2.2.2.2.1, t4.2.2.2.2.2.2.2.1, t4.2.2.2.2.2.2.2.2.1)) fun r4 => bif (!r4) then if (List.length t4.2.2.2.2.2.2.2.2.2 + List.length ([((y0 t4.2.1 t4.2.2.2.1).1, (y0 t4.2.1 t4.2.2.2.1).2.1, (y0 t4.2.1 t4.2.2.2.1).2.2.1, (y0 t4.2.1 t4.2.2.2.1).2.2.2.1, (y0 t4.2.1 t4.2.2.2.1).2.2.2.2)] : List y9)) * 40 < 140737488355328 then again (t4.1, t4.2.1, t4.2.2.1, (Go.IntKind.wrap .i64 (t4.2.2.2.1 + (1 : Int))), t4.2.2.2.2.1, t4.2.2.2.2.2.1, t4.2.2.2.2.2.2.1, t4.2.2.2.2.2.2.2.1, t4.2.2.2.2.2.2.2.2.1, (t4.2.2.2.2.2.2.2.2.2 ++ ([((y0 t4.2.1 t4.2.2.2.1).1, (y0 t4.2.1 t4.2.2.2.1).2.1, (y0 t4.2.1 t4.2.2.2.1).2.2.1, (y0 t4.2.1 t4.2.2.2.1).2.2.2.1, (y0 t4.2.1 t4.2.2.2.1).2.2.2.2)] : List y9))) else none else again (t4.1, t4.2.1, t4.2.2.1, (Go.IntKind.wrap .i64 (t4.2.2.2.1 + (1 : Int))), t4.2.2.2.2.1, t4.2.2.2.2.2.1, t4.2.2.2.2.2.2.1, t4.2.2.2.2.2.2.2.1, t4.2.2.2.2.2.2.2.2.1, t4.2.2.2.2.2.2.2.2.2) else none else none else k0 (t4.1, t4.2.2.2.2)
def vR k0 := zx (@YM R k0) zO
def jn (x : yAr) : Option (List y9) :=
 vR (fun x5 => bif (!x5.1) then if (List.length x5.2.2.2.2.2.2 + List.length ([(x5.2.1, x5.2.2.1, x5.2.2.2.1, x5.2.2.2.2.1, x5.2.2.2.2.2.1)] : List y9)) * 40 < 140737488355328 then some (x5.2.2.2.2.2.2 ++ ([(x5.2.1, x5.2.2.1, x5.2.2.2.1, x5.2.2.2.2.1, x5.2.2.2.2.2.1)] : List y9)) else none else some x5.2.2.2.2.2.2) (false, x.1, (List.length x.1 : Int), (0 : Int), x.2.1, x.2.2.1, x.2.2.2.1, x.2.2.2.2.1, x.2.2.2.2.2, ([] : List y9))
def yls : List QF := [yCl, yEl]
def y7C (t : ynU) : St := ⟨dd 3 (.box 3 0 :: .dead :: .own 10000000 :: vB t.1 :: dd 3 (qf t.2.1 :: vI t.2.2.1 :: vI t.2.2.2.1 :: dd 31 [])), [(3, .box [vI t.2.2.2.2.1, vI t.2.2.2.2.2.1, vI t.2.2.2.2.2.2.1, vI t.2.2.2.2.2.2.2.1, vI t.2.2.2.2.2.2.2.2.1]), (10000000, .root true 64 yi t.2.2.2.2.2.2.2.2.2)]⟩
def yiR : Gk WU := fun κ => YM (fun t => κ (some 0) ⟨dd 3 (.box 3 0 :: .dead :: .own 10000000 :: vB t.1 :: dd 37 []), [(3, .box [vI t.2.1, vI t.2.2.1, vI t.2.2.2.1, vI t.2.2.2.2.1, vI t.2.2.2.2.2.1]), (10000000, .root true 64 yi t.2.2.2.2.2.2)]⟩)
def ylt : Lp := lpC 4 (unG ynV y7C) @yiR lpN
theorem ytA : LF yls ylt 302 4 Tryz.f302 0 y7C @yiR fun t => t := fun R κ again t => by kernel_rfl
theorem ytB : LK yls ylt 302 Tryz.f302 0 := lkN (u := (unG ynV y7C)) (yp fun t => by kernel_rfl) ytA
theorem yyD : EV yls ylt 302 Tryz.f302 yqK yAs [(.sl 64 yi)] jn := fun x => by kernel_rfl
def yyE : QF := ⟨302, jn, okN (n := 1) Tryz.func302 ⟨ytB, trivial⟩ yyD⟩
def zV (x : List y9) : Option (List y9) :=
 if (List.length ([] : List y9) + List.length x) * 40 < 140737488355328 then some (([] : List y9) ++ x) else none
theorem yyF : EV [] lpN 303 Tryz.f303 yqL [(.sl 64 yi)] [(.sl 64 yi)] zV := fun x => by kernel_rfl
def yyG : QF := ⟨303, zV, okN (n := 0) Tryz.func303 trivial yyF⟩
abbrev WV : Type := ygo
def Zd (k0 : List y9 → Option R) (again : WV → Option R) (t3 : WV) : Option R :=
 bif (decide (t3.2.2.1 < t3.2.1)) then if (0 : Int) ≤ t3.2.2.1 then if t3.2.2.1 < (List.length t3.1 : Int) then Option.bind (jn (t3.2.2.2, (y0 t3.1 t3.2.2.1).1, (y0 t3.1 t3.2.2.1).2.1, (y0 t3.1 t3.2.2.1).2.2.1, (y0 t3.1 t3.2.2.1).2.2.2.1, (y0 t3.1 t3.2.2.1).2.2.2.2)) fun r2 => again (t3.1, t3.2.1, (Go.IntKind.wrap .i64 (t3.2.2.1 + (1 : Int))), r2) else none else none else k0 t3.2.2.2
def Vv k0 := zx (@Zd R k0) zO
def YY (x : Qz3) : Option (List y9) :=
 Option.bind (zV x.1) fun r1 => Vv (fun x3 => some x3) (x.2, (List.length x.2 : Int), (0 : Int), r1)
def ylu : List QF := [yyE, yyG]
def y7D (t : ygo) : St := ⟨dd 5 (.own 10000000 :: dd 4 (qf t.1 :: vI t.2.1 :: vI t.2.2.1 :: dd 8 [])), [(10000000, .root true 64 yi t.2.2.2)]⟩
def yiS : Gk WV := fun κ => Zd (fun t => κ (some 0) ⟨dd 5 (.own 10000000 :: dd 15 []), [(10000000, .root true 64 yi t)]⟩)
def ylv : Lp := lpC 3 (unG ygp y7D) @yiS lpN
theorem ytC : LF ylu ylv 249 3 Tryz.f249 0 y7D @yiS fun t => t := fun R κ again t => by kernel_rfl
theorem ytD : LK ylu ylv 249 Tryz.f249 0 := lkN (u := (unG ygp y7D)) (yp fun t => by kernel_rfl) ytC
theorem yyH : EV ylu ylv 249 Tryz.f249 yqM qz3 [(.sl 64 yi)] YY := fun x => by kernel_rfl
def yEm : QF := ⟨249, YY, okN (n := 1) Tryz.func249 ⟨ytD, trivial⟩ yyH⟩
abbrev qU : Type := ygo
def WW (k0 : List y9 → Option R) (again : qU → Option R) (t3 : qU) : Option R :=
 bif (decide (t3.2.2.1 < t3.2.1)) then if (0 : Int) ≤ t3.2.2.1 then if t3.2.2.1 < (List.length t3.1 : Int) then bif ((y0 t3.1 t3.2.2.1).2.2.1 != (0 : Int)) then if (List.length t3.2.2.2 + List.length ([((y0 t3.1 t3.2.2.1).1, (y0 t3.1 t3.2.2.1).2.1, (y0 t3.1 t3.2.2.1).2.2.1, (y0 t3.1 t3.2.2.1).2.2.2.1, (y0 t3.1 t3.2.2.1).2.2.2.2)] : List y9)) * 40 < 140737488355328 then again (t3.1, t3.2.1, (Go.IntKind.wrap .i64 (t3.2.2.1 + (1 : Int))), (t3.2.2.2 ++ ([((y0 t3.1 t3.2.2.1).1, (y0 t3.1 t3.2.2.1).2.1, (y0 t3.1 t3.2.2.1).2.2.1, (y0 t3.1 t3.2.2.1).2.2.2.1, (y0 t3.1 t3.2.2.1).2.2.2.2)] : List y9))) else none else again (t3.1, t3.2.1, (Go.IntKind.wrap .i64 (t3.2.2.1 + (1 : Int))), t3.2.2.2) else none else none else k0 t3.2.2.2
def y20 k0 := zx (@WW R k0) zO
def Jp (x : List y9) : Option (List y9) :=
 y20 (fun x1 => some x1) (x, (List.length x : Int), (0 : Int), ([] : List y9))
def ylw : List QF := []
def y7E (t : ygo) : St := ⟨dd 3 (.own 10000000 :: dd 3 (qf t.1 :: vI t.2.1 :: vI t.2.2.1 :: dd 12 [])), [(10000000, .root true 64 yi t.2.2.2)]⟩
def yiT : Gk qU := fun κ => WW (fun t => κ (some 0) ⟨dd 3 (.own 10000000 :: dd 18 []), [(10000000, .root true 64 yi t)]⟩)
def ylx : Lp := lpC 3 (unG ygp y7E) @yiT lpN
theorem ytE : LF ylw ylx 250 3 Tryz.f250 0 y7E @yiT fun t => t := fun R κ again t => by kernel_rfl
theorem ytF : LK ylw ylx 250 Tryz.f250 0 := lkN (u := (unG ygp y7E)) (yp fun t => by kernel_rfl) ytE
theorem yyI : EV ylw ylx 250 Tryz.f250 yqN [(.sl 64 yi)] [(.sl 64 yi)] Jp := fun x => by kernel_rfl
def yCm : QF := ⟨250, Jp, okN (n := 1) Tryz.func250 ⟨ytF, trivial⟩ yyI⟩
abbrev kU : Type := ynW
def ZS (k0 : List y9 → Option R) (again : kU → Option R) (t3 : kU) : Option R :=
 bif (decide (t3.2.2.1 < t3.2.1)) then if (0 : Int) ≤ t3.2.2.1 then if t3.2.2.1 < (List.length t3.1 : Int) then Option.bind (YY (t3.2.2.2, (yo t3.1 t3.2.2.1))) fun r1 => again (t3.1, t3.2.1, (Go.IntKind.wrap .i64 (t3.2.2.1 + (1 : Int))), r1) else none else none else k0 t3.2.2.2
def qt k0 := zx (@ZS R k0) zO
def yN (x : List ya) : Option (List y9) :=
 qt (fun x2 => Option.bind (Jp x2) fun r3 => some r3) (x, (List.length x : Int), (0 : Int), ([] : List y9))
def yly : List QF := [yEm, yCm]
def y7F (t : ynW) : St := ⟨dd 3 (.own 10000000 :: dd 4 (Yd t.1 :: vI t.2.1 :: vI t.2.2.1 :: dd 9 [])), [(10000000, .root true 64 yi t.2.2.2)]⟩
def yiU : Gk kU := fun κ => ZS (fun t => κ (some 0) ⟨dd 3 (.own 10000000 :: dd 16 []), [(10000000, .root true 64 yi t)]⟩)
def ylz : Lp := lpC 3 (unG ynX y7F) @yiU lpN
theorem ytG : LF yly ylz 127 3 Tryz.f127 0 y7F @yiU fun t => t := fun R κ again t => by kernel_rfl
theorem ytH : LK yly ylz 127 Tryz.f127 0 := lkN (u := (unG ynX y7F)) (yp fun t => by kernel_rfl) ytG
theorem yyJ : EV yly ylz 127 Tryz.f127 yqO [(.sl 58 yn)] [(.sl 64 yi)] yN := fun x => by kernel_rfl
def ytI : QF := ⟨127, yN, okN (n := 1) Tryz.func127 ⟨ytH, trivial⟩ yyJ⟩
abbrev kV : Type := ynY
def ZT (k0 : List y9 → Option R) (again : kV → Option R) (t3 : kV) : Option R :=
 bif (decide (t3.2.2.1 < t3.2.1)) then if (0 : Int) ≤ t3.2.2.1 then if t3.2.2.1 < (List.length t3.1 : Int) then Option.bind (yN (yh t3.1 t3.2.2.1)) fun r1 => if (List.length t3.2.2.2 + List.length r1) * 40 < 140737488355328 then again (t3.1, t3.2.1, (Go.IntKind.wrap .i64 (t3.2.2.1 + (1 : Int))), (t3.2.2.2 ++ r1)) else none else none else none else k0 t3.2.2.2
def qu k0 := zx (@ZT R k0) zO
def yS (x : y4D) : Option (List y9) :=
 qu (fun x2 => some x2) (x.2, (List.length x.2 : Int), (0 : Int), ([] : List y9))
def yyK : List QF := [ytI]
def yb7 (t : ynY) : St := ⟨dd 3 (.own 10000000 :: dd 4 (yt t.1 :: vI t.2.1 :: vI t.2.2.1 :: dd 9 [])), [(10000000, .root true 64 yi t.2.2.2)]⟩
def ytJ : Gk kV := fun κ => ZT (fun t => κ (some 0) ⟨dd 3 (.own 10000000 :: dd 16 []), [(10000000, .root true 64 yi t)]⟩)
def yyL : Lp := lpC 3 (unG ynZ yb7) @ytJ lpN
theorem yyM : LF yyK yyL 29 3 Tryz.f29 0 yb7 @ytJ fun t => t := fun R κ again t => by kernel_rfl
theorem yyN : LK yyK yyL 29 Tryz.f29 0 := lkN (u := (unG ynZ yb7)) (yp fun t => by kernel_rfl) yyM
theorem yEn : EV yyK yyL 29 Tryz.f29 yBz W8 [(.sl 64 yi)] yS := fun x => by kernel_rfl
def q29 : QF := ⟨29, yS, okN (n := 1) Tryz.func29 ⟨yyN, trivial⟩ yEn⟩
def yM (x : yvD) : Option Bool :=
 Option.bind (bif (decide (x.1 ≥ x.2.1)) then some (decide (x.1 ≤ x.2.2)) else some false) fun u1 => some u1
theorem yEo : EV [] lpN 92 Tryz.f92 yBA yvE [.bool] yM := fun x => by kernel_rfl
def q92 : QF := ⟨92, yM, okN (n := 0) Tryz.func92 trivial yEo⟩
def W0 (x : yfz) : Option Bool :=
 Option.bind (yM (x.1, (0 : Int), (15 : Int))) fun r1 => Option.bind (bif (!r1) then some true else Option.bind (yM (x.2.1, (1 : Int), (60 : Int))) fun r3 => some (!r3)) fun u2 => Option.bind (bif u2 then some true else Option.bind (yM (x.2.2.1, (0 : Int), (2 : Int))) fun r5 => some (!r5)) fun u4 => bif u4 then some false else bif (x.2.2.1 != (1 : Int)) then Option.bind (bif (x.2.2.2.1 == (0 : Int)) then some (x.2.2.2.2 == (0 : Int)) else some false) fun u6 => some u6 else Option.bind (yM (x.2.2.2.1, (0 : Int), (23 : Int))) fun r7 => Option.bind (bif r7 then Option.bind (yM (x.2.2.2.2, (0 : Int), (999 : Int))) fun r9 => some r9 else some false) fun u8 => some u8
theorem yyO : EV [q92] lpN 218 Tryz.f218 yqP KW [.bool] W0 := fun x => by kernel_rfl
def yCn : QF := ⟨218, W0, okN (n := 0) Tryz.func218 trivial yyO⟩
abbrev VJ : Type := yo0
def wo (k0 : yAx → Option R) (k1 : List y9 → Option R) (again : VJ → Option R) (t2 : VJ) : Option R :=
 bif (decide (t2.2.2.2 < t2.2.2.1)) then if (0 : Int) ≤ t2.2.2.2 then if t2.2.2.2 < (List.length t2.2.1 : Int) then Option.bind (W0 ((y0 t2.2.1 t2.2.2.2).1, (y0 t2.2.1 t2.2.2.2).2.1, (y0 t2.2.1 t2.2.2.2).2.2.1, (y0 t2.2.1 t2.2.2.2).2.2.2.1, (y0 t2.2.1 t2.2.2.2).2.2.2.2)) fun r1 => Option.bind (bif (!r1) then some true else Option.bind (bif (decide (t2.2.2.2 > (0 : Int))) then if (0 : Int) ≤ (Go.IntKind.wrap .i64 (t2.2.2.2 - (1 : Int))) then if (Go.IntKind.wrap .i64 (t2.2.2.2 - (1 : Int))) < (List.length t2.1 : Int) then Option.bind (jP ((y0 t2.1 (Go.IntKind.wrap .i64 (t2.2.2.2 - (1 : Int)))).1, (y0 t2.1 (Go.IntKind.wrap .i64 (t2.2.2.2 - (1 : Int)))).2.1, (y0 t2.1 (Go.IntKind.wrap .i64 (t2.2.2.2 - (1 : Int)))).2.2.1, (y0 t2.1 (Go.IntKind.wrap .i64 (t2.2.2.2 - (1 : Int)))).2.2.2.1, (y0 t2.1 (Go.IntKind.wrap .i64 (t2.2.2.2 - (1 : Int)))).2.2.2.2, (y0 t2.2.1 t2.2.2.2).1, (y0 t2.2.1 t2.2.2.2).2.1, (y0 t2.2.1 t2.2.2.2).2.2.1, (y0 t2.2.1 t2.2.2.2).2.2.2.1, (y0 t2.2.1 t2.2.2.2).2.2.2.2)) fun r4 => some (!r4) else none else none else some false) fun u3 => some u3) fun u2 => bif u2 then k0 (t2.1, false) else again (t2.1, t2.2.1, t2.2.2.1, (Go.IntKind.wrap .i64 (t2.2.2.2 + (1 : Int)))) else none else none else k1 t2.1
def y19 k0 k1 := zx (@wo R k0 k1) zO
def KD (x : List y9) : Option Bool :=
 y19 (fun x5 => some x5.2) (fun x6 => some (decide ((List.length x6 : Int) ≤ (60 : Int)))) (x, x, (List.length x : Int), (0 : Int))
def ylA : List QF := [yCn, yCl]
def y7G (t : yo0) : St := ⟨qf t.1 :: dd 4 (qf t.2.1 :: vI t.2.2.1 :: vI t.2.2.2 :: dd 25 []), []⟩
def yiV : Gk VJ := fun κ => wo (fun t => κ none ⟨qf t.1 :: .dead :: vB t.2 :: dd 30 [], []⟩) (fun t => κ (some 0) ⟨qf t :: dd 32 [], []⟩)
def ylB : Lp := lpC 2 (unG yo1 y7G) @yiV lpN
theorem ytK : LF ylA ylB 323 2 Tryz.f323 0 y7G @yiV fun t => t := fun R κ again t => by kernel_rfl
theorem ytL : LK ylA ylB 323 Tryz.f323 0 := lkN (u := (unG yo1 y7G)) (yp fun t => by kernel_rfl) ytK
theorem yyP : EV ylA ylB 323 Tryz.f323 yqQ [(.sl 64 yi)] [.bool] KD := fun x => by kernel_rfl
def yEp : QF := ⟨323, KD, okN (n := 1) Tryz.func323 ⟨ytL, trivial⟩ yyP⟩
abbrev vT : Type := yo2
def Jq (k0 : yw3 → Option R) (k1 : yhZ → Option R) (again : vT → Option R) (t3 : vT) : Option R :=
 bif (decide (t3.2.2.2.1 < t3.2.2.1)) then if (0 : Int) ≤ t3.2.2.2.1 then if t3.2.2.2.1 < (List.length t3.2.1 : Int) then Option.bind (KD (yo t3.2.1 t3.2.2.2.1)) fun r1 => Option.bind (bif (!r1) then some true else some ((List.length (yo t3.2.1 t3.2.2.2.1) : Int) == (0 : Int))) fun u2 => bif u2 then k0 (false, t3.1, t3.2.2.2.2) else again ((Go.IntKind.wrap .i64 (t3.1 + (List.length (yo t3.2.1 t3.2.2.2.1) : Int))), t3.2.1, t3.2.2.1, (Go.IntKind.wrap .i64 (t3.2.2.2.1 + (1 : Int))), t3.2.2.2.2) else none else none else k1 (t3.1, t3.2.2.2.2)
def y08 k0 k1 := zx (@Jq R k0 k1) zO
def zB (x : List ya) : Option Bool :=
 y08 (fun x3 => some x3.1) (fun x4 => Option.bind (bif (decide ((List.length x4.2 : Int) ≤ (3 : Int))) then some (decide (x4.1 ≤ (8 : Int))) else some false) fun u5 => some u5) ((0 : Int), x, (List.length x : Int), (0 : Int), x)
def ylC : List QF := [yEp]
def y7H (t : yo2) : St := ⟨.dead :: .box 1 0 :: .dead :: vI t.1 :: dd 3 (Yd t.2.1 :: vI t.2.2.1 :: vI t.2.2.2.1 :: dd 24 []), [(1, .box [Yd t.2.2.2.2])]⟩
def yiW : Gk vT := fun κ => Jq (fun t => κ none ⟨.dead :: .box 1 0 :: vB t.1 :: vI t.2.1 :: dd 30 [], [(1, .box [Yd t.2.2])]⟩) (fun t => κ (some 0) ⟨.dead :: .box 1 0 :: .dead :: vI t.1 :: dd 30 [], [(1, .box [Yd t.2])]⟩)
def ylD : Lp := lpC 3 (unG yo3 y7H) @yiW lpN
theorem ytM : LF ylC ylD 251 3 Tryz.f251 0 y7H @yiW fun t => t := fun R κ again t => by kernel_rfl
theorem ytN : LK ylC ylD 251 Tryz.f251 0 := lkN (u := (unG yo3 y7H)) (yp fun t => by kernel_rfl) ytM
theorem yyQ : EV ylC ylD 251 Tryz.f251 yqR [(.sl 58 yn)] [.bool] zB := fun x => by kernel_rfl
def yCo : QF := ⟨251, zB, okN (n := 1) Tryz.func251 ⟨ytN, trivial⟩ yyQ⟩
def Ze (x : yfy) : Option Int :=
 some (Go.IntKind.wrap .i64 ((Go.IntKind.wrap .i64 ((64 : Int) * x.1)) + x.2))
theorem yyR : EV [] lpN 223 Tryz.f223 yqS yjJ [(.int .i64)] Ze := fun x => by kernel_rfl
def yyS : QF := ⟨223, Ze, okN (n := 0) Tryz.func223 trivial yyR⟩
abbrev kW : Type := yo4
def ZU (k0 : yw4 → Option R) (k1 : yjQ → Option R) (again : kW → Option R) (t5 : kW) : Option R :=
 bif (decide (t5.2.2.2.2.2.2.1 < t5.2.2.2.2.2.1)) then if (0 : Int) ≤ t5.2.2.2.2.2.2.1 then if t5.2.2.2.2.2.2.1 < (List.length t5.2.2.2.2.1 : Int) then Option.bind (Ze ((y0 t5.2.2.2.2.1 t5.2.2.2.2.2.2.1).1, (y0 t5.2.2.2.2.1 t5.2.2.2.2.2.2.1).2.1)) fun r1 => if (0 : Int) ≤ t5.1 then if t5.1 < (List.length t5.2.2.2.2.2.2.2.1 : Int) then Option.bind (bif (decide (r1 < (zl t5.2.2.2.2.2.2.2.1 t5.1))) then some true else Option.bind (bif (decide ((Go.IntKind.wrap .i64 (t5.1 + (1 : Int))) < (List.length t5.2.2.2.2.2.2.2.1 : Int))) then if (0 : Int) ≤ (Go.IntKind.wrap .i64 (t5.1 + (1 : Int))) then if (Go.IntKind.wrap .i64 (t5.1 + (1 : Int))) < (List.length t5.2.2.2.2.2.2.2.1 : Int) then some (decide (r1 ≥ (zl t5.2.2.2.2.2.2.2.1 (Go.IntKind.wrap .i64 (t5.1 + (1 : Int)))))) else none else none else some false) fun u3 => some u3) fun u2 => bif u2 then k0 (t5.1, false, t5.2.1, t5.2.2.1, t5.2.2.2.1, t5.2.2.2.2.2.2.2) else again (t5.1, t5.2.1, t5.2.2.1, t5.2.2.2.1, t5.2.2.2.2.1, t5.2.2.2.2.2.1, (Go.IntKind.wrap .i64 (t5.2.2.2.2.2.2.1 + (1 : Int))), t5.2.2.2.2.2.2.2.1, t5.2.2.2.2.2.2.2.2) else none else none else none else none else k1 (t5.1, t5.2.1, t5.2.2.1, t5.2.2.2.1, t5.2.2.2.2.2.2.2)
def kX k0 k1 := zx (@ZU R k0 k1) zO
abbrev kY : Type := yjQ
def ZV (k0 : Bool → Option R) (k1 : Unit → Option R) (again : kY → Option R) (t2 : kY) : Option R :=
 bif (decide (t2.2.2.2.1 < t2.2.2.1)) then if (0 : Int) ≤ t2.2.2.2.1 then if t2.2.2.2.1 < (List.length t2.2.1 : Int) then kX (fun x4 => k0 x4.2.1) (fun x5 => again (x5.1, x5.2.1, x5.2.2.1, (Go.IntKind.wrap .i64 (x5.2.2.2.1 + (1 : Int))), x5.2.2.2.2.1, x5.2.2.2.2.2)) (t2.1, t2.2.1, t2.2.2.1, t2.2.2.2.1, (yo t2.2.1 t2.2.2.2.1), (List.length (yo t2.2.1 t2.2.2.2.1) : Int), (0 : Int), t2.2.2.2.2.1, t2.2.2.2.2.2) else none else none else k1 ()
def qv k0 k1 := zx (@ZV R k0 k1) zO
def Jr (x : yn6) : Option Bool :=
 if (0 : Int) ≤ x.2.2 then if x.2.2 < (List.length x.2.1 : Int) then qv (fun x6 => some x6) (fun x7 => some true) (x.2.2, (yh x.2.1 x.2.2), (List.length (yh x.2.1 x.2.2) : Int), (0 : Int), x.1, x.2.1) else none else none
def yeQ : List QF := [yyS]
def y7I (t : yo4) : St := ⟨.dead :: vI t.1 :: .box 2 0 :: dd 12 (Yd t.2.1 :: vI t.2.2.1 :: vI t.2.2.2.1 :: dd 3 (qf t.2.2.2.2.1 :: vI t.2.2.2.2.2.1 :: vI t.2.2.2.2.2.2.1 :: dd 35 [])), [(2, .box [yU t.2.2.2.2.2.2.2.1, yt t.2.2.2.2.2.2.2.2])]⟩
def yiX : Gk kW := fun κ => ZU (fun t => κ none ⟨.dead :: vI t.1 :: .box 2 0 :: .dead :: vB t.2.1 :: dd 10 (Yd t.2.2.1 :: vI t.2.2.2.1 :: vI t.2.2.2.2.1 :: dd 41 []), [(2, .box [yU t.2.2.2.2.2.1, yt t.2.2.2.2.2.2])]⟩) (fun t => κ (some 2) ⟨.dead :: vI t.1 :: .box 2 0 :: dd 12 (Yd t.2.1 :: vI t.2.2.1 :: vI t.2.2.2.1 :: dd 41 []), [(2, .box [yU t.2.2.2.2.1, yt t.2.2.2.2.2])]⟩)
def y7J (t : yjQ) : St := ⟨.dead :: vI t.1 :: .box 2 0 :: dd 12 (Yd t.2.1 :: vI t.2.2.1 :: vI t.2.2.2.1 :: dd 41 []), [(2, .box [yU t.2.2.2.2.1, yt t.2.2.2.2.2])]⟩
def yiY : Gk kY := fun κ => ZV (fun t => κ none ⟨dd 4 (vB t :: dd 54 []), []⟩) (fun t => κ (some 0) ⟨dd 59 [], []⟩)
def yeR : Lp := lpC 2 (unG yo6 y7J) @yiY (lpC 5 (unG yo5 y7I) @yiX lpN)
theorem ytO : LF yeQ yeR 252 5 Tryz.f252 1 y7I @yiX fun t => t := fun R κ again t => by kernel_rfl
theorem ytP : LK yeQ yeR 252 Tryz.f252 1 := lkN (u := (unG yo5 y7I)) (yp fun t => by kernel_rfl) ytO
theorem ytQ : LF yeQ yeR 252 2 Tryz.f252 0 y7J @yiY fun t => t := fun R κ again t => by kernel_rfl
theorem ytR : LK yeQ yeR 252 Tryz.f252 0 := lkN (u := (unG yo6 y7J)) (yp fun t => by kernel_rfl) ytQ
theorem yyT : EV yeQ yeR 252 Tryz.f252 yqT yn7 [.bool] Jr := fun x => by kernel_rfl
def yEq : QF := ⟨252, Jr, okN (n := 2) Tryz.func252 ⟨ytR, ytP, trivial⟩ yyT⟩
abbrev vU : Type := yo7
def Js (k0 : ygq → Option R) (k1 : Int → Option R) (again : vU → Option R) (t5 : vU) : Option R :=
 bif (decide (t5.2.2.2.1 < t5.2.2.1)) then if (0 : Int) ≤ t5.2.2.2.1 then if t5.2.2.2.1 < (List.length t5.2.1 : Int) then Option.bind (bif (decide (t5.2.2.2.1 > (0 : Int))) then if (0 : Int) ≤ (Go.IntKind.wrap .i64 (t5.2.2.2.1 - (1 : Int))) then if (Go.IntKind.wrap .i64 (t5.2.2.2.1 - (1 : Int))) < (List.length t5.2.2.2.2.1 : Int) then if (0 : Int) ≤ t5.2.2.2.1 then if t5.2.2.2.1 < (List.length t5.2.2.2.2.1 : Int) then some (decide ((zl t5.2.2.2.2.1 (Go.IntKind.wrap .i64 (t5.2.2.2.1 - (1 : Int)))) ≥ (zl t5.2.2.2.2.1 t5.2.2.2.1))) else none else none else none else none else some false) fun u4 => Option.bind (bif u4 then some true else Option.bind (zB (yh t5.2.1 t5.2.2.2.1)) fun r6 => some (!r6)) fun u5 => Option.bind (bif u5 then some true else Option.bind (Jr (t5.2.2.2.2.1, t5.2.2.2.2.2, t5.2.2.2.1)) fun r8 => some (!r8)) fun u7 => bif u7 then k0 (false, t5.1) else Option.bind (yN (yh t5.2.1 t5.2.2.2.1)) fun r9 => Option.bind (bif (decide (t5.2.2.2.1 > (0 : Int))) then some ((List.length r9 : Int) == (0 : Int)) else some false) fun u10 => bif u10 then k0 (false, t5.1) else again ((Go.IntKind.wrap .i64 (t5.1 + (List.length r9 : Int))), t5.2.1, t5.2.2.1, (Go.IntKind.wrap .i64 (t5.2.2.2.1 + (1 : Int))), t5.2.2.2.2.1, t5.2.2.2.2.2) else none else none else k1 t5.1
def y09 k0 k1 := zx (@Js R k0 k1) zO
def Yb (x : y4D) : Option Bool :=
 Option.bind (yM ((List.length x.2 : Int), (1 : Int), (20 : Int))) fun r1 => Option.bind (bif (!r1) then some true else some ((List.length x.1 : Int) != (List.length x.2 : Int))) fun u2 => Option.bind (bif u2 then some true else if (0 : Int) ≤ (0 : Int) then if (0 : Int) < (List.length x.1 : Int) then some ((zl x.1 (0 : Int)) != (0 : Int)) else none else none) fun u3 => bif u3 then some false else y09 (fun x11 => some x11.1) (fun x12 => some (decide (x12 ≤ (60 : Int)))) ((0 : Int), x.2, (List.length x.2 : Int), (0 : Int), x.1, x.2)
def ylE : List QF := [q92, ytI, yCo, yEq]
def y7K (t : yo7) : St := ⟨.dead :: .box 1 0 :: .dead :: vI t.1 :: dd 25 (yt t.2.1 :: vI t.2.2.1 :: vI t.2.2.2.1 :: dd 46 []), [(1, .box [yU t.2.2.2.2.1, yt t.2.2.2.2.2])]⟩
def yiZ : Gk vU := fun κ => Js (fun t => κ none ⟨dd 2 (vB t.1 :: vI t.2 :: dd 74 []), []⟩) (fun t => κ (some 0) ⟨dd 3 (vI t :: dd 74 []), []⟩)
def ylF : Lp := lpC 5 (unG yo8 y7K) @yiZ lpN
theorem ytS : LF ylE ylF 128 5 Tryz.f128 0 y7K @yiZ fun t => t := fun R κ again t => by kernel_rfl
theorem ytT : LK ylE ylF 128 Tryz.f128 0 := lkN (u := (unG yo8 y7K)) (yp fun t => by kernel_rfl) ytS
theorem yyU : EV ylE ylF 128 Tryz.f128 yqU W8 [.bool] Yb := fun x => by kernel_rfl
def yCp : QF := ⟨128, Yb, okN (n := 1) Tryz.func128 ⟨ytT, trivial⟩ yyU⟩
def Kl (x : yvD) : Option ygq :=
 some ((x.1 == x.2.2), x.2.2)
theorem yyV : EV [] lpN 319 Tryz.f319 yqV yvE yjR Kl := fun x => by kernel_rfl
def yEr : QF := ⟨319, Kl, okN (n := 0) Tryz.func319 trivial yyV⟩
abbrev zF : Type := yo9
def yT (k0 : yfy → Option R) (k1 : Int → Option R) (again : zF → Option R) (t2 : zF) : Option R :=
 bif (decide (t2.2.2.1 < t2.2.1)) then if (0 : Int) ≤ t2.2.2.1 then if t2.2.2.1 < (List.length t2.1 : Int) then Option.bind (Kl ((yC t2.1 t2.2.2.1).1, (yC t2.1 t2.2.2.1).2, t2.2.2.2)) fun r1 => bif r1.1 then k0 (t2.2.2.1, r1.2) else again (t2.1, t2.2.1, (Go.IntKind.wrap .i64 (t2.2.2.1 + (1 : Int))), r1.2) else none else none else k1 t2.2.2.2
def Yp k0 k1 := zx (@yT R k0 k1) zO
def yZ (x : yeg) : Option yfy :=
 Yp (fun x2 => some x2) (fun x3 => some ((-1 : Int), x3)) (x.1, (List.length x.1 : Int), (0 : Int), x.2)
def y7L : List QF := [yEr]
def y1r (t : yo9) : St := ⟨za t.1 :: .clo 319 901 :: dd 5 (vI t.2.1 :: vI t.2.2.1 :: dd 10 []), [(901, .box [vI t.2.2.2])]⟩
def y9i : Gk zF := fun κ => yT (fun t => κ none ⟨.dead :: .clo 319 901 :: dd 2 (vI t.1 :: dd 14 []), [(901, .box [vI t.2])]⟩) (fun t => κ (some 0) ⟨.dead :: .clo 319 901 :: dd 17 [], [(901, .box [vI t])]⟩)
def y7M : Lp := lpC 2 (unG yoa y1r) @y9i lpN
theorem yeS : LF y7L y7M 100000 2 Tryz.f318 0 y1r @y9i fun t => t := fun R κ again t => by kernel_rfl
theorem yeT : LK y7L y7M 100000 Tryz.f318 0 := lkN (u := (unG yoa y1r)) (yp fun t => by kernel_rfl) yeS
theorem ygY : EV y7L y7M 100000 Tryz.f318 yc9 yeh yjJ yZ := fun x => by kernel_rfl
def ylG : QF := ⟨100000, yZ, okN (n := 1) Tryz.func318 ⟨yeT, trivial⟩ ygY⟩
def YB (x : yeg) : Option Int :=
 Option.bind (yZ x) fun r1 => some r1.1
theorem yyW : EV [ylG] lpN 245 Tryz.f245 yqW yeh [(.int .i64)] YB := fun x => by kernel_rfl
def ytU : QF := ⟨245, YB, okN (n := 0) Tryz.func245 trivial yyW⟩
end
end Go.Proofs.YthgdjjdigalckaaGreat.XC
