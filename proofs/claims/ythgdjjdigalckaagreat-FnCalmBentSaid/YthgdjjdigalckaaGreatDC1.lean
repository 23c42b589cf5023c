/- What functions compute, and that they do; part 1 of C; by a program (dec.py). No condition. -/
import Derived.Test.YthgdjjdigalckaaGreatDC0
set_option linter.all false
namespace Go.Proofs.YthgdjjdigalckaaGreat.XC
open Go.Proofs.YthgdjjdigalckaaGreat.R
set_option maxRecDepth 100000
noncomputable section
variable {R : Type}
abbrev vV : Type := yob
def Jt (k0 : yn8 → Option R) (k1 : List yd → Option R) (again : vV → Option R) (t2 : vV) : Option R :=
 bif (decide (t2.2.2.2 < t2.2.2.1)) then if (0 : Int) ≤ t2.2.2.2 then if t2.2.2.2 < (List.length t2.2.1 : Int) then Option.bind (yM ((yC t2.2.1 t2.2.2.2).1, (1 : Int), (60 : Int))) fun r1 => Option.bind (bif (!r1) then some true else Option.bind (bif (decide (t2.2.2.2 > (0 : Int))) then if (0 : Int) ≤ (Go.IntKind.wrap .i64 (t2.2.2.2 - (1 : Int))) then if (Go.IntKind.wrap .i64 (t2.2.2.2 - (1 : Int))) < (List.length t2.1 : Int) then some (decide ((yC t2.1 (Go.IntKind.wrap .i64 (t2.2.2.2 - (1 : Int)))).1 ≥ (yC t2.2.1 t2.2.2.2).1)) else none else none else some false) fun u3 => some u3) fun u2 => Option.bind (bif u2 then some true else Option.bind (bif ((yC t2.2.1 t2.2.2.2).2 != (0 : Int)) then if (0 : Int) ≤ (0 : Int) then if (0 : Int) ≤ t2.2.2.2 then if t2.2.2.2 ≤ (List.length t2.1 : Int) then Option.bind (YB ((List.drop (Int.toNat (0 : Int)) (List.take (Int.toNat t2.2.2.2) t2.1)), (yC t2.2.1 t2.2.2.2).2)) fun r6 => some (decide (r6 < (0 : Int))) else none else none else none else some false) fun u5 => some u5) fun u4 => bif u4 then k0 (t2.1, false) else again (t2.1, t2.2.1, t2.2.2.1, (Go.IntKind.wrap .i64 (t2.2.2.2 + (1 : Int)))) else none else none else k1 t2.1
def y0a k0 k1 := zx (@Jt R k0 k1) zO
def JU (x : List yd) : Option Bool :=
 y0a (fun x7 => some x7.2) (fun x8 => some (decide ((List.length x8 : Int) ≤ (16 : Int)))) (x, x, (List.length x : Int), (0 : Int))
def ylH : List QF := [q92, ytU]
def y7N (t : yob) : St := ⟨za t.1 :: dd 4 (za t.2.1 :: vI t.2.2.1 :: vI t.2.2.2 :: dd 41 []), []⟩
def yj0 : Gk vV := fun κ => Jt (fun t => κ none ⟨za t.1 :: .dead :: vB t.2 :: dd 46 [], []⟩) (fun t => κ (some 0) ⟨za t :: dd 48 [], []⟩)
def ylI : Lp := lpC 2 (unG yoc y7N) @yj0 lpN
theorem ytV : LF ylH ylI 129 2 Tryz.f129 0 y7N @yj0 fun t => t := fun R κ again t => by kernel_rfl
theorem ytW : LK ylH ylI 129 Tryz.f129 0 := lkN (u := (unG yoc y7N)) (yp fun t => by kernel_rfl) ytV
theorem yyX : EV ylH ylI 129 Tryz.f129 yqX [(.sl 146 yk)] [.bool] JU := fun x => by kernel_rfl
def yCq : QF := ⟨129, JU, okN (n := 1) Tryz.func129 ⟨ytW, trivial⟩ yyX⟩
def WX (x : Int) : Option Bool :=
 Option.bind (yM (x, (0 : Int), (65535 : Int))) fun r1 => some r1
theorem yyY : EV [q92] lpN 125 Tryz.f125 yqY [(.int .i64)] [.bool] WX := fun x => by kernel_rfl
def yEs : QF := ⟨125, WX, okN (n := 0) Tryz.func125 trivial yyY⟩
abbrev KP : Type := yod
def jB (k0 : yAD → Option R) (k1 : List yb → Option R) (again : KP → Option R) (t2 : KP) : Option R :=
 bif (decide (t2.2.2.2 < t2.2.2.1)) then if (0 : Int) ≤ t2.2.2.2 then if t2.2.2.2 < (List.length t2.2.1 : Int) then Option.bind (yM ((yA t2.2.1 t2.2.2.2).1, (0 : Int), (999 : Int))) fun r1 => Option.bind (bif (!r1) then some true else Option.bind (WX ((yA t2.2.1 t2.2.2.2).2.2)) fun r3 => some (!r3)) fun u2 => Option.bind (bif u2 then some true else Option.bind (bif ((yA t2.2.1 t2.2.2.2).2.2 != (0 : Int)) then some (!((yA t2.2.1 t2.2.2.2).2.1)) else some false) fun u5 => some u5) fun u4 => bif u4 then k0 (t2.1, false) else again (t2.1, t2.2.1, t2.2.2.1, (Go.IntKind.wrap .i64 (t2.2.2.2 + (1 : Int)))) else none else none else k1 t2.1
def Qh k0 k1 := zx (@jB R k0 k1) zO
def jQ (x : List yb) : Option Bool :=
 Qh (fun x6 => some x6.2) (fun x7 => some ((List.length x7 : Int) == (24 : Int))) (x, x, (List.length x : Int), (0 : Int))
def ylJ : List QF := [q92, yEs]
def y7O (t : yod) : St := ⟨yL t.1 :: dd 4 (yL t.2.1 :: vI t.2.2.1 :: vI t.2.2.2 :: dd 27 []), []⟩
def yj1 : Gk KP := fun κ => jB (fun t => κ none ⟨yL t.1 :: .dead :: vB t.2 :: dd 32 [], []⟩) (fun t => κ (some 0) ⟨yL t :: dd 34 [], []⟩)
def ylK : Lp := lpC 2 (unG yoe y7O) @yj1 lpN
theorem ytX : LF ylJ ylK 130 2 Tryz.f130 0 y7O @yj1 fun t => t := fun R κ again t => by kernel_rfl
theorem ytY : LK ylJ ylK 130 Tryz.f130 0 := lkN (u := (unG yoe y7O)) (yp fun t => by kernel_rfl) ytX
theorem yyZ : EV ylJ ylK 130 Tryz.f130 yqZ [(.sl 113 yf)] [.bool] jQ := fun x => by kernel_rfl
def yCr : QF := ⟨130, jQ, okN (n := 1) Tryz.func130 ⟨ytY, trivial⟩ yyZ⟩
abbrev vW : Type := yv4
def vX (k0 : yAE → Option R) (k1 : ByteArray → Option R) (again : vW → Option R) (t2 : vW) : Option R :=
 bif (decide (t2.2 < ((ByteArray.size t2.1 : Nat) : Int))) then if (0 : Int) ≤ t2.2 then if h1 : Int.toNat t2.2 < ByteArray.size t2.1 then Option.bind (yM ((Go.IntKind.wrap .i64 ((UInt8.toNat (ByteArray.get t2.1 (Int.toNat t2.2) h1) : Nat) : Int)), (97 : Int), (122 : Int))) fun r2 => Option.bind (bif (!r2) then if (0 : Int) ≤ t2.2 then if h4 : Int.toNat t2.2 < ByteArray.size t2.1 then Option.bind (yM ((Go.IntKind.wrap .i64 ((UInt8.toNat (ByteArray.get t2.1 (Int.toNat t2.2) h4) : Nat) : Int)), (48 : Int), (57 : Int))) fun r5 => some (!r5) else none else none else some false) fun u3 => bif u3 then k0 (t2.1, false) else again (t2.1, (Go.IntKind.wrap .i64 (t2.2 + (1 : Int)))) else none else none else k1 t2.1
def y0b k0 k1 := zx (@vX R k0 k1) zO
def WY (x : ByteArray) : Option Bool :=
 y0b (fun x6 => some x6.2) (fun x7 => Option.bind (yM (((ByteArray.size x7 : Nat) : Int), (1 : Int), (6 : Int))) fun r8 => some r8) (x, (0 : Int))
def ylL : List QF := [q92]
def y7P (t : yv4) : St := ⟨vS t.1 :: dd 2 (vI t.2 :: dd 23 []), []⟩
def yj2 : Gk vW := fun κ => vX (fun t => κ none ⟨vS t.1 :: .dead :: vB t.2 :: dd 24 [], []⟩) (fun t => κ (some 0) ⟨vS t :: dd 26 [], []⟩)
def ylM : Lp := lpC 2 (unG yv5 y7P) @yj2 lpN
theorem ytZ : LF ylL ylM 117 2 Tryz.f117 0 y7P @yj2 fun t => t := fun R κ again t => by kernel_rfl
theorem yu0 : LK ylL ylM 117 Tryz.f117 0 := lkN (u := (unG yv5 y7P)) (yp fun t => by kernel_rfl) ytZ
theorem yz0 : EV ylL ylM 117 Tryz.f117 yr0 [.str] [.bool] WY := fun x => by kernel_rfl
def yEt : QF := ⟨117, WY, okN (n := 1) Tryz.func117 ⟨yu0, trivial⟩ yz0⟩
abbrev vY : Type := yof
def Ju (k0 : List ye → Option R) (again : vY → Option R) (t5 : vY) : Option R :=
 bif (decide (t5.2.2.2.1 < t5.2.2.1)) then if (0 : Int) ≤ t5.2.2.2.1 then if t5.2.2.2.1 < (List.length t5.2.1 : Int) then bif ((yC t5.2.1 t5.2.2.2.1).2 == t5.1) then if (List.length t5.2.2.2.2 + List.length ([(yC t5.2.1 t5.2.2.2.1).1] : List ye)) * 8 < 140737488355328 then again (t5.1, t5.2.1, t5.2.2.1, (Go.IntKind.wrap .i64 (t5.2.2.2.1 + (1 : Int))), (t5.2.2.2.2 ++ ([(yC t5.2.1 t5.2.2.2.1).1] : List ye))) else none else again (t5.1, t5.2.1, t5.2.2.1, (Go.IntKind.wrap .i64 (t5.2.2.2.1 + (1 : Int))), t5.2.2.2.2) else none else none else k0 t5.2.2.2.2
def y0c k0 := zx (@Ju R k0) zO
def Zf (x : yeg) : Option (List ye) :=
 bif (x.2 == (0 : Int)) then some ([] : List ye) else y0c (fun x1 => some x1) (x.2, x.1, (List.length x.1 : Int), (0 : Int), ([] : List ye))
def ylN : List QF := []
def y7Q (t : yof) : St := ⟨.dead :: vI t.1 :: dd 3 (.own 10000000 :: dd 6 (za t.2.1 :: vI t.2.2.1 :: vI t.2.2.2.1 :: dd 14 [])), [(10000000, .root true 3 yg t.2.2.2.2)]⟩
def yj3 : Gk vY := fun κ => Ju (fun t => κ (some 0) ⟨dd 5 (.own 10000000 :: dd 23 []), [(10000000, .root true 3 yg t)]⟩)
def ylO : Lp := lpC 5 (unG yog y7Q) @yj3 lpN
theorem yu1 : LF ylN ylO 135 5 Tryz.f135 0 y7Q @yj3 fun t => t := fun R κ again t => by kernel_rfl
theorem yu2 : LK ylN ylO 135 Tryz.f135 0 := lkN (u := (unG yog y7Q)) (yp fun t => by kernel_rfl) yu1
theorem yz1 : EV ylN ylO 135 Tryz.f135 yr1 yeh [(.sl 3 yg)] Zf := fun x => by kernel_rfl
def yvp : QF := ⟨135, Zf, okN (n := 1) Tryz.func135 ⟨yu2, trivial⟩ yz1⟩
def WZ (x : yw5) : Option yoh :=
 some ((x.2.1 == x.2.2.2.2.2.1), x.2.2.2.2.1, x.2.2.2.2.2.1, x.2.2.2.2.2.2.1, x.2.2.2.2.2.2.2)
theorem yz2 : EV [] lpN 254 Tryz.f254 yr2 yw6 yoi WZ := fun x => by kernel_rfl
def yEu : QF := ⟨254, WZ, okN (n := 0) Tryz.func254 trivial yz2⟩
abbrev zC : Type := yoj
def yQ (k0 : yol → Option R) (k1 : yw8 → Option R) (again : zC → Option R) (t2 : zC) : Option R :=
 bif (decide (t2.2.2.1 < t2.2.1)) then if (0 : Int) ≤ t2.2.2.1 then if t2.2.2.1 < (List.length t2.1 : Int) then Option.bind (WZ ((yq t2.1 t2.2.2.1).1, (yq t2.1 t2.2.2.1).2.1, (yq t2.1 t2.2.2.1).2.2.1, (yq t2.1 t2.2.2.1).2.2.2, t2.2.2.2.1, t2.2.2.2.2.1, t2.2.2.2.2.2.1, t2.2.2.2.2.2.2)) fun r1 => bif r1.1 then k0 (t2.2.2.1, r1.2) else again (t2.1, t2.2.1, (Go.IntKind.wrap .i64 (t2.2.2.1 + (1 : Int))), r1.2.1, r1.2.2.1, r1.2.2.2.1, r1.2.2.2.2) else none else none else k1 t2.2.2.2
def Yh k0 k1 := zx (@yQ R k0 k1) zO
def yV (x : yvL) : Option yol :=
 Yh (fun x2 => some x2) (fun x3 => some ((-1 : Int), x3.1, x3.2.1, x3.2.2.1, x3.2.2.2)) (x.1, (List.length x.1 : Int), (0 : Int), x.2.1, x.2.2.1, x.2.2.2.1, x.2.2.2.2)
def y7R : List QF := [yEu]
def y1s (t : yoj) : St := ⟨zP t.1 :: .clo 254 901 :: dd 5 (vI t.2.1 :: vI t.2.2.1 :: dd 10 []), [(901, .box [vS t.2.2.2.1, vI t.2.2.2.2.1, vI t.2.2.2.2.2.1, vB t.2.2.2.2.2.2])]⟩
def y9j : Gk zC := fun κ => yQ (fun t => κ none ⟨.dead :: .clo 254 901 :: dd 2 (vI t.1 :: dd 14 []), [(901, .box [vS t.2.1, vI t.2.2.1, vI t.2.2.2.1, vB t.2.2.2.2])]⟩) (fun t => κ (some 0) ⟨.dead :: .clo 254 901 :: dd 17 [], [(901, .box [vS t.1, vI t.2.1, vI t.2.2.1, vB t.2.2.2])]⟩)
def y7S : Lp := lpC 2 (unG yok y1s) @y9j lpN
theorem yeU : LF y7R y7S 100002 2 Tryz.f242 0 y1s @y9j fun t => t := fun R κ again t => by kernel_rfl
theorem yeV : LK y7R y7S 100002 Tryz.f242 0 := lkN (u := (unG yok y1s)) (yp fun t => by kernel_rfl) yeU
theorem ygZ : EV y7R y7S 100002 Tryz.f242 yca yvM yw7 yV := fun x => by kernel_rfl
def ylP : QF := ⟨100002, yV, okN (n := 1) Tryz.func242 ⟨yeV, trivial⟩ ygZ⟩
def yG (x : yvL) : Option yoh :=
 Option.bind (yV x) fun r1 => some ((decide (r1.1 ≥ (0 : Int))), r1.2.1, r1.2.2.1, r1.2.2.2.1, r1.2.2.2.2)
theorem yh0 : EV [ylP] lpN 100001 Tryz.f253 ycb yvM yoi yG := fun x => by kernel_rfl
def ylQ : QF := ⟨100001, yG, okN (n := 0) Tryz.func253 trivial yh0⟩
abbrev vZ : Type := yom
def Jv (k0 : ygj → Option R) (k1 : Qv → Option R) (again : vZ → Option R) (t2 : vZ) : Option R :=
 bif (decide (t2.2.2.1 < t2.2.1)) then if (0 : Int) ≤ t2.2.2.1 then if t2.2.2.1 < (List.length t2.1 : Int) then Option.bind (WY ((yq t2.1 t2.2.2.1).1)) fun r1 => Option.bind (bif (!r1) then some true else Option.bind (bif (decide (t2.2.2.1 > (0 : Int))) then if (0 : Int) ≤ (Go.IntKind.wrap .i64 (t2.2.2.1 - (1 : Int))) then if (Go.IntKind.wrap .i64 (t2.2.2.1 - (1 : Int))) < (List.length t2.2.2.2.2.2.2.2.1 : Int) then some (!Go.Op.bytesLess (ByteArray.toList ((yq t2.2.2.2.2.2.2.2.1 (Go.IntKind.wrap .i64 (t2.2.2.1 - (1 : Int)))).1)) (ByteArray.toList ((yq t2.1 t2.2.2.1).1))) else none else none else some false) fun u3 => some u3) fun u2 => Option.bind (bif u2 then some true else Option.bind (yM ((yq t2.1 t2.2.2.1).2.2.1, (1 : Int), (12 : Int))) fun r5 => some (!r5)) fun u4 => bif u4 then k0 (false, t2.2.2.2) else Option.bind (YB (t2.2.2.2.2.2.1, (yq t2.1 t2.2.2.1).2.1)) fun r6 => Option.bind (bif (decide (r6 < (0 : Int))) then some true else Option.bind (Zf (t2.2.2.2.2.2.1, (yq t2.1 t2.2.2.1).2.1)) fun r8 => some (decide ((List.length r8 : Int) > (0 : Int)))) fun u7 => bif u7 then k0 (false, t2.2.2.2) else if (0 : Int) ≤ (0 : Int) then if (0 : Int) ≤ t2.2.2.1 then if t2.2.2.1 ≤ (List.length t2.2.2.2.2.2.2.2.1 : Int) then Option.bind (yG ((List.drop (Int.toNat (0 : Int)) (List.take (Int.toNat t2.2.2.1) t2.2.2.2.2.2.2.2.1)), (yq t2.1 t2.2.2.1).1, (yq t2.1 t2.2.2.1).2.1, (yq t2.1 t2.2.2.1).2.2.1, (yq t2.1 t2.2.2.1).2.2.2)) fun r9 => bif r9.1 then k0 (false, t2.2.2.2) else again (t2.1, t2.2.1, (Go.IntKind.wrap .i64 (t2.2.2.1 + (1 : Int))), t2.2.2.2.1, t2.2.2.2.2.1, t2.2.2.2.2.2.1, t2.2.2.2.2.2.2.1, t2.2.2.2.2.2.2.2.1, t2.2.2.2.2.2.2.2.2) else none else none else none else none else none else k1 t2.2.2.2
def y0d k0 k1 := zx (@Jv R k0 k1) zO
def k6 (x : Qv) : Option Bool :=
 y0d (fun x10 => some x10.1) (fun x11 => some (decide ((List.length x11.2.2.2.2.1 : Int) ≤ (6 : Int)))) (x.2.2.2.2.1, (List.length x.2.2.2.2.1 : Int), (0 : Int), x.1, x.2.1, x.2.2.1, x.2.2.2.1, x.2.2.2.2.1, x.2.2.2.2.2)
def ylR : List QF := [q92, yEt, yvp, ytU, ylQ]
def y7T (t : yom) : St := ⟨.dead :: .box 1 0 :: dd 4 (zP t.1 :: vI t.2.1 :: vI t.2.2.1 :: dd 56 []), [(1, .box [yU t.2.2.2.1, yt t.2.2.2.2.1, za t.2.2.2.2.2.1, yL t.2.2.2.2.2.2.1, zP t.2.2.2.2.2.2.2.1, vI t.2.2.2.2.2.2.2.2])]⟩
def yj4 : Gk vZ := fun κ => Jv (fun t => κ none ⟨.dead :: .box 1 0 :: vB t.1 :: dd 62 [], [(1, .box [yU t.2.1, yt t.2.2.1, za t.2.2.2.1, yL t.2.2.2.2.1, zP t.2.2.2.2.2.1, vI t.2.2.2.2.2.2])]⟩) (fun t => κ (some 0) ⟨.dead :: .box 1 0 :: dd 63 [], [(1, .box [yU t.1, yt t.2.1, za t.2.2.1, yL t.2.2.2.1, zP t.2.2.2.2.1, vI t.2.2.2.2.2])]⟩)
def ylS : Lp := lpC 2 (unG yon y7T) @yj4 lpN
theorem yu3 : LF ylR ylS 131 2 Tryz.f131 0 y7T @yj4 fun t => t := fun R κ again t => by kernel_rfl
theorem yu4 : LK ylR ylS 131 Tryz.f131 0 := lkN (u := (unG yon y7T)) (yp fun t => by kernel_rfl) yu3
theorem yz3 : EV ylR ylS 131 Tryz.f131 yr3 zY [.bool] k6 := fun x => by kernel_rfl
def yEv : QF := ⟨131, k6, okN (n := 1) Tryz.func131 ⟨yu4, trivial⟩ yz3⟩
abbrev k7 : Type := yoo
def Zg (k0 : Int → Option R) (again : k7 → Option R) (t3 : k7) : Option R :=
 bif (decide (t3.2.2.2 < t3.2.2.1)) then if (0 : Int) ≤ t3.2.2.2 then if t3.2.2.2 < (List.length t3.2.1 : Int) then bif (yA t3.2.1 t3.2.2.2).2.1 then again ((Go.IntKind.wrap .i64 (t3.1 + (1 : Int))), t3.2.1, t3.2.2.1, (Go.IntKind.wrap .i64 (t3.2.2.2 + (1 : Int)))) else again (t3.1, t3.2.1, t3.2.2.1, (Go.IntKind.wrap .i64 (t3.2.2.2 + (1 : Int)))) else none else none else k0 t3.1
def Vw k0 := zx (@Zg R k0) zO
def YZ (x : List yb) : Option Int :=
 Vw (fun x1 => some x1) ((0 : Int), x, (List.length x : Int), (0 : Int))
def yz4 : List QF := []
def yb8 (t : yoo) : St := ⟨dd 3 (vI t.1 :: dd 2 (yL t.2.1 :: vI t.2.2.1 :: vI t.2.2.2 :: dd 9 [])), []⟩
def yu5 : Gk k7 := fun κ => Zg (fun t => κ (some 0) ⟨dd 3 (vI t :: dd 14 []), []⟩)
def yz5 : Lp := lpC 3 (unG yop yb8) @yu5 lpN
theorem yz6 : LF yz4 yz5 28 3 Tryz.f28 0 yb8 @yu5 fun t => t := fun R κ again t => by kernel_rfl
theorem yz7 : LK yz4 yz5 28 Tryz.f28 0 := lkN (u := (unG yop yb8)) (yp fun t => by kernel_rfl) yz6
theorem yEw : EV yz4 yz5 28 Tryz.f28 yBB [(.sl 113 yf)] [(.int .i64)] YZ := fun x => by kernel_rfl
def q28 : QF := ⟨28, YZ, okN (n := 1) Tryz.func28 ⟨yz7, trivial⟩ yEw⟩
def k8 (x : yv6) : Option yAJ :=
 Option.bind (yM (x.2.1, (0 : Int), (Go.IntKind.wrap .i64 ((List.length x.1 : Int) - (1 : Int))))) fun r1 => Option.bind (bif (!r1) then some true else if (0 : Int) ≤ x.2.1 then if x.2.1 < (List.length x.1 : Int) then some (!((yA x.1 x.2.1).2.1)) else none else none) fun u2 => Option.bind (bif u2 then some true else if (0 : Int) ≤ x.2.1 then if x.2.1 < (List.length x.1 : Int) then some ((yA x.1 x.2.1).1 != x.2.2) else none else none) fun u3 => bif u3 then some ((0 : Int), false) else if (0 : Int) ≤ x.2.1 then if x.2.1 < (List.length x.1 : Int) then some ((yA x.1 x.2.1).2.2, true) else none else none
theorem yz8 : EV [q92] lpN 247 Tryz.f247 yr4 yv7 yAK k8 := fun x => by kernel_rfl
def yEx : QF := ⟨247, k8, okN (n := 0) Tryz.func247 trivial yz8⟩
abbrev KQ : Type := yoq
def jC (k0 : yvJ → Option R) (k1 : yei → Option R) (again : KQ → Option R) (t4 : KQ) : Option R :=
 bif (decide (t4.2.2.1 < t4.2.1)) then if (0 : Int) ≤ t4.2.2.1 then if t4.2.2.1 < (List.length t4.2.2.2.2.2.2.2.2.2.2 : Int) then Option.bind (YB (t4.2.2.2.2.2.1, (y0 t4.2.2.2.2.2.2.2.2.2.2 t4.2.2.1).2.1)) fun r2 => bif (decide (r2 < (0 : Int))) then k0 (false, t4.1, t4.2.2.2.1, t4.2.2.2.2.1, t4.2.2.2.2.2.1, t4.2.2.2.2.2.2.1, t4.2.2.2.2.2.2.2.1, t4.2.2.2.2.2.2.2.2.1) else bif ((y0 t4.2.2.2.2.2.2.2.2.2.2 t4.2.2.1).2.2.1 != (1 : Int)) then again (t4.1, t4.2.1, (Go.IntKind.wrap .i64 (t4.2.2.1 + (1 : Int))), t4.2.2.2.1, t4.2.2.2.2.1, t4.2.2.2.2.2.1, t4.2.2.2.2.2.2.1, t4.2.2.2.2.2.2.2.1, t4.2.2.2.2.2.2.2.2.1, t4.2.2.2.2.2.2.2.2.2.1, t4.2.2.2.2.2.2.2.2.2.2) else Option.bind (k8 (t4.2.2.2.2.2.2.1, (y0 t4.2.2.2.2.2.2.2.2.2.2 t4.2.2.1).2.2.2.1, (y0 t4.2.2.2.2.2.2.2.2.2.2 t4.2.2.1).2.2.2.2)) fun r3 => Option.bind (bif (!r3.2) then some true else if (0 : Int) ≤ (y0 t4.2.2.2.2.2.2.2.2.2.2 t4.2.2.1).2.2.2.1 then if (y0 t4.2.2.2.2.2.2.2.2.2.2 t4.2.2.1).2.2.2.1 < (List.length t4.2.2.2.2.2.2.2.2.2.1 : Int) then some (yef t4.2.2.2.2.2.2.2.2.2.1 ((y0 t4.2.2.2.2.2.2.2.2.2.2 t4.2.2.1).2.2.2.1)) else none else none) fun u4 => bif u4 then k0 (false, t4.1, t4.2.2.2.1, t4.2.2.2.2.1, t4.2.2.2.2.2.1, t4.2.2.2.2.2.2.1, t4.2.2.2.2.2.2.2.1, t4.2.2.2.2.2.2.2.2.1) else if (0 : Int) ≤ (y0 t4.2.2.2.2.2.2.2.2.2.2 t4.2.2.1).2.2.2.1 then if (y0 t4.2.2.2.2.2.2.2.2.2.2 t4.2.2.1).2.2.2.1 < (List.length t4.2.2.2.2.2.2.2.2.2.1 : Int) then again ((Go.IntKind.wrap .i64 (t4.1 + (1 : Int))), t4.2.1, (Go.IntKind.wrap .i64 (t4.2.2.1 + (1 : Int))), t4.2.2.2.1, t4.2.2.2.2.1, t4.2.2.2.2.2.1, t4.2.2.2.2.2.2.1, t4.2.2.2.2.2.2.2.1, t4.2.2.2.2.2.2.2.2.1, (List.set t4.2.2.2.2.2.2.2.2.2.1 (Int.toNat ((y0 t4.2.2.2.2.2.2.2.2.2.2 t4.2.2.1).2.2.2.1)) true), t4.2.2.2.2.2.2.2.2.2.2) else none else none else none else none else k1 (t4.1, t4.2.2.2.1, t4.2.2.2.2.1, t4.2.2.2.2.2.1, t4.2.2.2.2.2.2.1, t4.2.2.2.2.2.2.2.1, t4.2.2.2.2.2.2.2.2.1)
def Qi k0 k1 := zx (@jC R k0 k1) zO
def wq (x : Qv) : Option Bool :=
 if (0 : Int) ≤ (24 : Int) then if (24 : Int) ≤ (24 : Int) then if (24 : Int) * ((1 : Nat) : Int) ≤ 140737488351232 then Option.bind (yS (x.1, x.2.1)) fun r1 => Qi (fun x5 => some x5.1) (fun x6 => Option.bind (YZ x6.2.2.2.2.1) fun r7 => some (r7 == x6.1)) ((0 : Int), (List.length r1 : Int), (0 : Int), x.1, x.2.1, x.2.2.1, x.2.2.2.1, x.2.2.2.2.1, x.2.2.2.2.2, (List.replicate (Int.toNat (24 : Int)) yee), r1) else none else none else none
def ylT : List QF := [q28, q29, ytU, yEx]
def y7U (t : yoq) : St := ⟨.dead :: .box 1 0 :: .dead :: .own 10000000 :: vI t.1 :: dd 7 (.own 10000001 :: vI t.2.1 :: vI t.2.2.1 :: dd 43 []), [(1, .box [yU t.2.2.2.1, yt t.2.2.2.2.1, za t.2.2.2.2.2.1, yL t.2.2.2.2.2.2.1, zP t.2.2.2.2.2.2.2.1, vI t.2.2.2.2.2.2.2.2.1]), (10000000, .root true 4 y4C t.2.2.2.2.2.2.2.2.2.1), (10000001, .root true 64 yi t.2.2.2.2.2.2.2.2.2.2)]⟩
def yj5 : Gk KQ := fun κ => jC (fun t => κ none ⟨.dead :: .box 1 0 :: vB t.1 :: .dead :: vI t.2.1 :: dd 53 [], [(1, .box [yU t.2.2.1, yt t.2.2.2.1, za t.2.2.2.2.1, yL t.2.2.2.2.2.1, zP t.2.2.2.2.2.2.1, vI t.2.2.2.2.2.2.2])]⟩) (fun t => κ (some 0) ⟨.dead :: .box 1 0 :: dd 2 (vI t.1 :: dd 53 []), [(1, .box [yU t.2.1, yt t.2.2.1, za t.2.2.2.1, yL t.2.2.2.2.1, zP t.2.2.2.2.2.1, vI t.2.2.2.2.2.2])]⟩)
def ylU : Lp := lpC 4 (unG yor y7U) @yj5 lpN
theorem yu6 : LF ylT ylU 132 4 Tryz.f132 0 y7U @yj5 fun t => t := fun R κ again t => by kernel_rfl
theorem yu7 : LK ylT ylU 132 Tryz.f132 0 := lkN (u := (unG yor y7U)) (yp fun t => by kernel_rfl) yu6
theorem yz9 : EV ylT ylU 132 Tryz.f132 yr5 zY [.bool] wq := fun x => by kernel_rfl
def yEy : QF := ⟨132, wq, okN (n := 1) Tryz.func132 ⟨yu7, trivial⟩ yz9⟩
abbrev V0 : Type := yos
def Jw (k0 : ygj → Option R) (k1 : Qv → Option R) (again : V0 → Option R) (t4 : V0) : Option R :=
 bif (decide (t4.2.2.1 < t4.2.1)) then if (0 : Int) ≤ t4.2.2.1 then if t4.2.2.1 < (List.length t4.1 : Int) then bif (decide ((yC t4.1 t4.2.2.1).1 ≥ t4.2.2.2.2.2.2.2.2)) then k0 (false, t4.2.2.2) else again (t4.1, t4.2.1, (Go.IntKind.wrap .i64 (t4.2.2.1 + (1 : Int))), t4.2.2.2.1, t4.2.2.2.2.1, t4.2.2.2.2.2.1, t4.2.2.2.2.2.2.1, t4.2.2.2.2.2.2.2.1, t4.2.2.2.2.2.2.2.2) else none else none else k1 t4.2.2.2
def y0e k0 k1 := zx (@Jw R k0 k1) zO
def Yc (x : Qv) : Option Bool :=
 Option.bind (Yb (x.1, x.2.1)) fun r1 => Option.bind (bif (!r1) then some true else Option.bind (JU x.2.2.1) fun r3 => some (!r3)) fun u2 => Option.bind (bif u2 then some true else Option.bind (jQ x.2.2.2.1) fun r5 => some (!r5)) fun u4 => Option.bind (bif u4 then some true else Option.bind (yM (x.2.2.2.2.2, (1 : Int), (61 : Int))) fun r7 => some (!r7)) fun u6 => bif u6 then some false else y0e (fun x8 => some x8.1) (fun x9 => Option.bind (k6 x9) fun r10 => Option.bind (bif r10 then Option.bind (wq x9) fun r12 => some r12 else some false) fun u11 => some u11) (x.2.2.1, (List.length x.2.2.1 : Int), (0 : Int), x.1, x.2.1, x.2.2.1, x.2.2.2.1, x.2.2.2.2.1, x.2.2.2.2.2)
def yza : List QF := [q92, yCp, yCq, yCr, yEv, yEy]
def yb9 (t : yos) : St := ⟨.dead :: .box 1 0 :: dd 26 (za t.1 :: vI t.2.1 :: vI t.2.2.1 :: dd 15 []), [(1, .box [yU t.2.2.2.1, yt t.2.2.2.2.1, za t.2.2.2.2.2.1, yL t.2.2.2.2.2.2.1, zP t.2.2.2.2.2.2.2.1, vI t.2.2.2.2.2.2.2.2])]⟩
def yu8 : Gk V0 := fun κ => Jw (fun t => κ none ⟨.dead :: .box 1 0 :: vB t.1 :: dd 43 [], [(1, .box [yU t.2.1, yt t.2.2.1, za t.2.2.2.1, yL t.2.2.2.2.1, zP t.2.2.2.2.2.1, vI t.2.2.2.2.2.2])]⟩) (fun t => κ (some 0) ⟨.dead :: .box 1 0 :: dd 44 [], [(1, .box [yU t.1, yt t.2.1, za t.2.2.1, yL t.2.2.2.1, zP t.2.2.2.2.1, vI t.2.2.2.2.2])]⟩)
def yzb : Lp := lpC 4 (unG yot yb9) @yu8 lpN
theorem yzc : LF yza yzb 30 4 Tryz.f30 0 yb9 @yu8 fun t => t := fun R κ again t => by kernel_rfl
theorem yzd : LK yza yzb 30 Tryz.f30 0 := lkN (u := (unG yot yb9)) (yp fun t => by kernel_rfl) yzc
theorem yEz : EV yza yzb 30 Tryz.f30 yBC zY [.bool] Yc := fun x => by kernel_rfl
def q30 : QF := ⟨30, Yc, okN (n := 1) Tryz.func30 ⟨yzd, trivial⟩ yEz⟩
abbrev V1 : Type := yov
def Jx (k0 : List y9 → Option R) (again : V1 → Option R) (t3 : V1) : Option R :=
 bif (decide (t3.2.2.1 < t3.2.1)) then if (0 : Int) ≤ t3.2.2.1 then if t3.2.2.1 < (List.length t3.2.2.2.2 : Int) then bif ((y0 t3.2.2.2.2 t3.2.2.1).1 == t3.1) then if (List.length t3.2.2.2.1 + List.length ([((y0 t3.2.2.2.2 t3.2.2.1).1, (y0 t3.2.2.2.2 t3.2.2.1).2.1, (y0 t3.2.2.2.2 t3.2.2.1).2.2.1, (y0 t3.2.2.2.2 t3.2.2.1).2.2.2.1, (y0 t3.2.2.2.2 t3.2.2.1).2.2.2.2)] : List y9)) * 40 < 140737488355328 then again (t3.1, t3.2.1, (Go.IntKind.wrap .i64 (t3.2.2.1 + (1 : Int))), (t3.2.2.2.1 ++ ([((y0 t3.2.2.2.2 t3.2.2.1).1, (y0 t3.2.2.2.2 t3.2.2.1).2.1, (y0 t3.2.2.2.2 t3.2.2.1).2.2.1, (y0 t3.2.2.2.2 t3.2.2.1).2.2.2.1, (y0 t3.2.2.2.2 t3.2.2.1).2.2.2.2)] : List y9)), t3.2.2.2.2) else none else again (t3.1, t3.2.1, (Go.IntKind.wrap .i64 (t3.2.2.1 + (1 : Int))), t3.2.2.2.1, t3.2.2.2.2) else none else none else k0 t3.2.2.2.1
def y0f k0 := zx (@Jx R k0) zO
def k9 (x : yn6) : Option (List y9) :=
 Option.bind (yS (x.1, x.2.1)) fun r1 => y0f (fun x2 => some x2) (x.2.2, (List.length r1 : Int), (0 : Int), ([] : List y9), r1)
def ylV : List QF := [q29]
def y7V (t : yov) : St := ⟨.dead :: vI t.1 :: dd 3 (.own 10000000 :: dd 4 (.own 10000001 :: vI t.2.1 :: vI t.2.2.1 :: dd 13 [])), [(10000000, .root true 64 yi t.2.2.2.1), (10000001, .root true 64 yi t.2.2.2.2)]⟩
def yj6 : Gk V1 := fun κ => Jx (fun t => κ (some 0) ⟨dd 5 (.own 10000000 :: dd 20 []), [(10000000, .root true 64 yi t)]⟩)
def ylW : Lp := lpC 3 (unG yow y7V) @yj6 lpN
theorem yu9 : LF ylV ylW 348 3 Tryz.f348 0 y7V @yj6 fun t => t := fun R κ again t => by kernel_rfl
theorem yua : LK ylV ylW 348 Tryz.f348 0 := lkN (u := (unG yow y7V)) (yp fun t => by kernel_rfl) yu9
theorem yze : EV ylV ylW 348 Tryz.f348 yr6 yn7 [(.sl 64 yi)] k9 := fun x => by kernel_rfl
def yEA : QF := ⟨348, k9, okN (n := 1) Tryz.func348 ⟨yua, trivial⟩ yze⟩
abbrev w4 : Type := yox
def Yq (k0 : Int → Option R) (k1 : Unit → Option R) (again : w4 → Option R) (t2 : w4) : Option R :=
 bif (decide (t2.2.2.2 < t2.2.2.1)) then if (0 : Int) ≤ t2.2.2.2 then if t2.2.2.2 < (List.length t2.1 : Int) then bif (t2.2.1 == (zl t2.1 t2.2.2.2)) then k0 t2.2.2.2 else again (t2.1, t2.2.1, t2.2.2.1, (Go.IntKind.wrap .i64 (t2.2.2.2 + (1 : Int)))) else none else none else k1 ()
def KX k0 k1 := zx (@Yq R k0 k1) zO
def Zh (x : yvP) : Option Int :=
 KX (fun x1 => some x1) (fun x2 => some (-1 : Int)) (x.1, x.2, (List.length x.1 : Int), (0 : Int))
def ylX : List QF := []
def y7W (t : yox) : St := ⟨yU t.1 :: vI t.2.1 :: dd 5 (vI t.2.2.1 :: vI t.2.2.2 :: dd 10 []), []⟩
def yj7 : Gk w4 := fun κ => Yq (fun t => κ none ⟨dd 4 (vI t :: dd 14 []), []⟩) (fun t => κ (some 0) ⟨dd 19 [], []⟩)
def ylY : Lp := lpC 2 (unG yoy y7W) @yj7 lpN
theorem yub : LF ylX ylY 361 2 Tryz.f361 0 y7W @yj7 fun t => t := fun R κ again t => by kernel_rfl
theorem yuc : LK ylX ylY 361 Tryz.f361 0 := lkN (u := (unG yoy y7W)) (yp fun t => by kernel_rfl) yub
theorem yzf : EV ylX ylY 361 Tryz.f361 yr7 yvQ [(.int .i64)] Zh := fun x => by kernel_rfl
def yEB : QF := ⟨361, Zh, okN (n := 1) Tryz.func361 ⟨yuc, trivial⟩ yzf⟩
def Yf (x : yvP) : Option Bool :=
 Option.bind (Zh x) fun r1 => some (decide (r1 ≥ (0 : Int)))
theorem yzg : EV [yEB] lpN 349 Tryz.f349 yr8 yvQ [.bool] Yf := fun x => by kernel_rfl
def yEC : QF := ⟨349, Yf, okN (n := 0) Tryz.func349 trivial yzg⟩
abbrev V2 : Type := yoz
def Jy (k0 : yBd → Option R) (again : V2 → Option R) (t3 : V2) : Option R :=
 bif (decide (t3.2.2.2.1 < t3.2.2.1)) then if (0 : Int) ≤ t3.2.2.2.1 then if t3.2.2.2.1 < (List.length t3.2.2.2.2.2.2.2.2.2.2.2.2.2.2 : Int) then Option.bind (Yf (t3.1, (y0 t3.2.2.2.2.2.2.2.2.2.2.2.2.2.2 t3.2.2.2.1).2.1)) fun r2 => Option.bind (bif r2 then Option.bind (bif (!t3.2.1) then some true else some (decide ((y0 t3.2.2.2.2.2.2.2.2.2.2.2.2.2.2 t3.2.2.2.1).2.1 > t3.2.2.2.2.2.2.2.2.2.2.1))) fun u4 => some u4 else some false) fun u3 => bif u3 then again (t3.1, true, t3.2.2.1, (Go.IntKind.wrap .i64 (t3.2.2.2.1 + (1 : Int))), t3.2.2.2.2.1, t3.2.2.2.2.2.1, t3.2.2.2.2.2.2.1, t3.2.2.2.2.2.2.2.1, t3.2.2.2.2.2.2.2.2.1, (y0 t3.2.2.2.2.2.2.2.2.2.2.2.2.2.2 t3.2.2.2.1).1, (y0 t3.2.2.2.2.2.2.2.2.2.2.2.2.2.2 t3.2.2.2.1).2.1, (y0 t3.2.2.2.2.2.2.2.2.2.2.2.2.2.2 t3.2.2.2.1).2.2.1, (y0 t3.2.2.2.2.2.2.2.2.2.2.2.2.2.2 t3.2.2.2.1).2.2.2.1, (y0 t3.2.2.2.2.2.2.2.2.2.2.2.2.2.2 t3.2.2.2.1).2.2.2.2, t3.2.2.2.2.2.2.2.2.2.2.2.2.2.2) else again (t3.1, t3.2.1, t3.2.2.1, (Go.IntKind.wrap .i64 (t3.2.2.2.1 + (1 : Int))), t3.2.2.2.2.1, t3.2.2.2.2.2.1, t3.2.2.2.2.2.2.1, t3.2.2.2.2.2.2.2.1, t3.2.2.2.2.2.2.2.2.1, t3.2.2.2.2.2.2.2.2.2.1, t3.2.2.2.2.2.2.2.2.2.2.1, t3.2.2.2.2.2.2.2.2.2.2.2.1, t3.2.2.2.2.2.2.2.2.2.2.2.2.1, t3.2.2.2.2.2.2.2.2.2.2.2.2.2.1, t3.2.2.2.2.2.2.2.2.2.2.2.2.2.2) else none else none else k0 (t3.2.1, t3.2.2.2.2.1, t3.2.2.2.2.2.1, t3.2.2.2.2.2.2.1, t3.2.2.2.2.2.2.2.1, t3.2.2.2.2.2.2.2.2.1, t3.2.2.2.2.2.2.2.2.2.1, t3.2.2.2.2.2.2.2.2.2.2.1, t3.2.2.2.2.2.2.2.2.2.2.2.1, t3.2.2.2.2.2.2.2.2.2.2.2.2.1, t3.2.2.2.2.2.2.2.2.2.2.2.2.2.1)
def y0g k0 := zx (@Jy R k0) zO
def jo (x : yBe) : Option ydt :=
 Option.bind (k9 (x.1, x.2.1, x.2.2.1)) fun r1 => y0g (fun x5 => some (x5.2.2.2.2.2.2.1, x5.2.2.2.2.2.2.2.1, x5.2.2.2.2.2.2.2.2.1, x5.2.2.2.2.2.2.2.2.2.1, x5.2.2.2.2.2.2.2.2.2.2, x5.1)) (x.2.2.2, false, (List.length r1 : Int), (0 : Int), (0 : Int), (0 : Int), (0 : Int), (0 : Int), (0 : Int), (0 : Int), (0 : Int), (0 : Int), (0 : Int), (0 : Int), r1)
def ylZ : List QF := [yEA, yEC]
def y7X (t : yoz) : St := ⟨dd 2 (yU t.1 :: dd 3 (.box 6 0 :: .dead :: .box 8 0 :: vB t.2.1 :: dd 5 (.own 10000000 :: vI t.2.2.1 :: vI t.2.2.2.1 :: dd 22 []))), [(6, .box [vI t.2.2.2.2.1, vI t.2.2.2.2.2.1, vI t.2.2.2.2.2.2.1, vI t.2.2.2.2.2.2.2.1, vI t.2.2.2.2.2.2.2.2.1]), (8, .box [vI t.2.2.2.2.2.2.2.2.2.1, vI t.2.2.2.2.2.2.2.2.2.2.1, vI t.2.2.2.2.2.2.2.2.2.2.2.1, vI t.2.2.2.2.2.2.2.2.2.2.2.2.1, vI t.2.2.2.2.2.2.2.2.2.2.2.2.2.1]), (10000000, .root true 64 yi t.2.2.2.2.2.2.2.2.2.2.2.2.2.2)]⟩
def yj8 : Gk V2 := fun κ => Jy (fun t => κ (some 0) ⟨dd 6 (.box 6 0 :: .dead :: .box 8 0 :: vB t.1 :: dd 30 []), [(6, .box [vI t.2.1, vI t.2.2.1, vI t.2.2.2.1, vI t.2.2.2.2.1, vI t.2.2.2.2.2.1]), (8, .box [vI t.2.2.2.2.2.2.1, vI t.2.2.2.2.2.2.2.1, vI t.2.2.2.2.2.2.2.2.1, vI t.2.2.2.2.2.2.2.2.2.1, vI t.2.2.2.2.2.2.2.2.2.2])]⟩)
def ym0 : Lp := lpC 3 (unG yoA y7X) @yj8 lpN
theorem yud : LF ylZ ym0 320 3 Tryz.f320 0 y7X @yj8 fun t => t := fun R κ again t => by kernel_rfl
theorem yue : LK ylZ ym0 320 Tryz.f320 0 := lkN (u := (unG yoA y7X)) (yp fun t => by kernel_rfl) yud
theorem yzh : EV ylZ ym0 320 Tryz.f320 yr9 yBf ydu jo := fun x => by kernel_rfl
def yCs : QF := ⟨320, jo, okN (n := 1) Tryz.func320 ⟨yue, trivial⟩ yzh⟩
abbrev ka : Type := yoB
def kb (k0 : List ye → Option R) (again : ka → Option R) (t3 : ka) : Option R :=
 bif (decide (t3.2.2.2.1 < t3.2.2.1)) then Option.bind (YB (t3.1, t3.2.1)) fun r1 => bif (decide (r1 < (0 : Int))) then k0 t3.2.2.2.2 else if (List.length t3.2.2.2.2 + List.length ([t3.2.1] : List ye)) * 8 < 140737488355328 then if (0 : Int) ≤ r1 then if r1 < (List.length t3.1 : Int) then again (t3.1, (yC t3.1 r1).2, t3.2.2.1, (Go.IntKind.wrap .i64 (t3.2.2.2.1 + (1 : Int))), (t3.2.2.2.2 ++ ([t3.2.1] : List ye))) else none else none else none else k0 t3.2.2.2.2
def y0h k0 := zx (@kb R k0) zO
def JV (x : yeg) : Option (List ye) :=
 y0h (fun x2 => some x2) (x.1, x.2, (Go.IntKind.wrap .i64 ((List.length x.1 : Int) + (1 : Int))), (0 : Int), ([] : List ye))
def ym1 : List QF := [ytU]
def y7Y (t : yoB) : St := ⟨za t.1 :: vI t.2.1 :: dd 3 (.own 10000000 :: dd 4 (vI t.2.2.1 :: vI t.2.2.2.1 :: dd 17 [])), [(10000000, .root true 3 yg t.2.2.2.2)]⟩
def yj9 : Gk ka := fun κ => kb (fun t => κ (some 0) ⟨dd 5 (.own 10000000 :: dd 23 []), [(10000000, .root true 3 yg t)]⟩)
def ym2 : Lp := lpC 3 (unG yoC y7Y) @yj9 lpN
theorem yuf : LF ym1 ym2 321 3 Tryz.f321 0 y7Y @yj9 fun t => t := fun R κ again t => by kernel_rfl
theorem yug : LK ym1 ym2 321 Tryz.f321 0 := lkN (u := (unG yoC y7Y)) (yp fun t => by kernel_rfl) yuf
theorem yzi : EV ym1 ym2 321 Tryz.f321 yra yeh [(.sl 3 yg)] JV := fun x => by kernel_rfl
def yCt : QF := ⟨321, JV, okN (n := 1) Tryz.func321 ⟨yug, trivial⟩ yzi⟩
def V3 (x : yvh) : Option ydt :=
 Option.bind (JV (x.2.2.1, x.2.2.2.2)) fun r1 => Option.bind (jo (x.1, x.2.1, x.2.2.2.1, r1)) fun r2 => some r2
theorem yzj : EV [yCs, yCt] lpN 246 Tryz.f246 yrb yvi ydu V3 := fun x => by kernel_rfl
def yED : QF := ⟨246, V3, okN (n := 0) Tryz.func246 trivial yzj⟩
def V4 (x : ynk) : Option Bool :=
 Option.bind (V3 (x.1, x.2.1, x.2.2.1, x.2.2.2.1, x.2.2.2.2.2.2.2.2)) fun r1 => Option.bind (bif r1.2.2.2.2.2 then some (r1.2.1 == x.2.2.2.2.1) else some false) fun u2 => some u2
theorem yzk : EV [yED] lpN 148 Tryz.f148 yrc ynl [.bool] V4 := fun x => by kernel_rfl
def yEE : QF := ⟨148, V4, okN (n := 0) Tryz.func148 trivial yzk⟩
abbrev kc : Type := yoD
def Zi (k0 : Bool → Option R) (k1 : Unit → Option R) (again : kc → Option R) (t2 : kc) : Option R :=
 bif (decide (t2.2.2.1 < t2.2.1)) then if (0 : Int) ≤ t2.2.2.1 then if t2.2.2.1 < (List.length t2.1 : Int) then Option.bind (bif (decide ((yq t2.1 t2.2.2.1).2.2.1 > t2.2.2.2.2.2.2.2.2.2.1)) then Option.bind (V4 (t2.2.2.2.1, t2.2.2.2.2.1, t2.2.2.2.2.2.1, t2.2.2.2.2.2.2.2.2.2.1, t2.2.2.2.2.2.2.2.2.2.2.1, t2.2.2.2.2.2.2.2.2.2.2.2.1, t2.2.2.2.2.2.2.2.2.2.2.2.2.1, t2.2.2.2.2.2.2.2.2.2.2.2.2.2, (yq t2.1 t2.2.2.1).2.1)) fun r2 => some r2 else some false) fun u1 => bif u1 then k0 true else again (t2.1, t2.2.1, (Go.IntKind.wrap .i64 (t2.2.2.1 + (1 : Int))), t2.2.2.2.1, t2.2.2.2.2.1, t2.2.2.2.2.2.1, t2.2.2.2.2.2.2.1, t2.2.2.2.2.2.2.2.1, t2.2.2.2.2.2.2.2.2.1, t2.2.2.2.2.2.2.2.2.2.1, t2.2.2.2.2.2.2.2.2.2.2.1, t2.2.2.2.2.2.2.2.2.2.2.2.1, t2.2.2.2.2.2.2.2.2.2.2.2.2.1, t2.2.2.2.2.2.2.2.2.2.2.2.2.2) else none else none else k1 ()
def Vx k0 k1 := zx (@Zi R k0 k1) zO
def Yj (x : yjL) : Option Bool :=
 Vx (fun x3 => some x3) (fun x4 => some false) (x.2.2.2.2.1, (List.length x.2.2.2.2.1 : Int), (0 : Int), x.1, x.2.1, x.2.2.1, x.2.2.2.1, x.2.2.2.2.1, x.2.2.2.2.2.1, x.2.2.2.2.2.2.1, x.2.2.2.2.2.2.2.1, x.2.2.2.2.2.2.2.2.1, x.2.2.2.2.2.2.2.2.2.1, x.2.2.2.2.2.2.2.2.2.2)
def yzl : List QF := [yEE]
def yba (t : yoD) : St := ⟨dd 2 (.box 2 0 :: .box 3 0 :: dd 4 (zP t.1 :: vI t.2.1 :: vI t.2.2.1 :: dd 19 [])), [(2, .box [yU t.2.2.2.1, yt t.2.2.2.2.1, za t.2.2.2.2.2.1, yL t.2.2.2.2.2.2.1, zP t.2.2.2.2.2.2.2.1, vI t.2.2.2.2.2.2.2.2.1]), (3, .box [vI t.2.2.2.2.2.2.2.2.2.1, vI t.2.2.2.2.2.2.2.2.2.2.1, vI t.2.2.2.2.2.2.2.2.2.2.2.1, vI t.2.2.2.2.2.2.2.2.2.2.2.2.1, vI t.2.2.2.2.2.2.2.2.2.2.2.2.2])]⟩
def yuh : Gk kc := fun κ => Zi (fun t => κ none ⟨dd 4 (vB t :: dd 25 []), []⟩) (fun t => κ (some 0) ⟨dd 30 [], []⟩)
def yzm : Lp := lpC 2 (unG yoE yba) @yuh lpN
theorem yzn : LF yzl yzm 40 2 Tryz.f40 0 yba @yuh fun t => t := fun R κ again t => by kernel_rfl
theorem yzo : LK yzl yzm 40 Tryz.f40 0 := lkN (u := (unG yoE yba)) (yp fun t => by kernel_rfl) yzn
theorem yEF : EV yzl yzm 40 Tryz.f40 yBD yjM [.bool] Yj := fun x => by kernel_rfl
def q40 : QF := ⟨40, Yj, okN (n := 1) Tryz.func40 ⟨yzo, trivial⟩ yEF⟩
def ve (x : yw9) : Option ygq :=
 some ((x.2.1 == x.2.2.2.2), x.2.2.2.2)
theorem yzp : EV [] lpN 256 Tryz.f256 yrd ywa yjR ve := fun x => by kernel_rfl
def yEG : QF := ⟨256, ve, okN (n := 0) Tryz.func256 trivial yzp⟩
abbrev zJ : Type := yoF
def yW (k0 : yfy → Option R) (k1 : Int → Option R) (again : zJ → Option R) (t2 : zJ) : Option R :=
 bif (decide (t2.2.2.1 < t2.2.1)) then if (0 : Int) ≤ t2.2.2.1 then if t2.2.2.1 < (List.length t2.1 : Int) then Option.bind (ve ((yq t2.1 t2.2.2.1).1, (yq t2.1 t2.2.2.1).2.1, (yq t2.1 t2.2.2.1).2.2.1, (yq t2.1 t2.2.2.1).2.2.2, t2.2.2.2)) fun r1 => bif r1.1 then k0 (t2.2.2.1, r1.2) else again (t2.1, t2.2.1, (Go.IntKind.wrap .i64 (t2.2.2.1 + (1 : Int))), r1.2) else none else none else k1 t2.2.2.2
def YC k0 k1 := zx (@yW R k0 k1) zO
def z7 (x : yoH) : Option yfy :=
 YC (fun x2 => some x2) (fun x3 => some ((-1 : Int), x3)) (x.1, (List.length x.1 : Int), (0 : Int), x.2)
def y7Z : List QF := [yEG]
def y1t (t : yoF) : St := ⟨zP t.1 :: .clo 256 901 :: dd 5 (vI t.2.1 :: vI t.2.2.1 :: dd 10 []), [(901, .box [vI t.2.2.2])]⟩
def y9k : Gk zJ := fun κ => yW (fun t => κ none ⟨.dead :: .clo 256 901 :: dd 2 (vI t.1 :: dd 14 []), [(901, .box [vI t.2])]⟩) (fun t => κ (some 0) ⟨.dead :: .clo 256 901 :: dd 17 [], [(901, .box [vI t])]⟩)
def y80 : Lp := lpC 2 (unG yoG y1t) @y9k lpN
theorem yeW : LF y7Z y80 100004 2 Tryz.f242 0 y1t @y9k fun t => t := fun R κ again t => by kernel_rfl
theorem yeX : LK y7Z y80 100004 Tryz.f242 0 := lkN (u := (unG yoG y1t)) (yp fun t => by kernel_rfl) yeW
theorem yh1 : EV y7Z y80 100004 Tryz.f242 ycc yoI yjJ z7 := fun x => by kernel_rfl
def ym3 : QF := ⟨100004, z7, okN (n := 1) Tryz.func242 ⟨yeX, trivial⟩ yh1⟩
def zi (x : yoH) : Option ygq :=
 Option.bind (z7 x) fun r1 => some ((decide (r1.1 ≥ (0 : Int))), r1.2)
theorem yh2 : EV [ym3] lpN 100003 Tryz.f253 ycd yoI yjR zi := fun x => by kernel_rfl
def ym4 : QF := ⟨100003, zi, okN (n := 0) Tryz.func253 trivial yh2⟩
def kZ (x : yao) : Option Bool :=
 Option.bind (zi (x.2.2.2.2.1, x.2.2.2.2.2.2)) fun r1 => some (!r1.1)
theorem yzq : EV [ym4] lpN 134 Tryz.f134 yre yap [.bool] kZ := fun x => by kernel_rfl
def yCu : QF := ⟨134, kZ, okN (n := 0) Tryz.func134 trivial yzq⟩
abbrev wI : Type := yoJ
def wJ (k0 : Int → Option R) (k1 : Unit → Option R) (again : wI → Option R) (t2 : wI) : Option R :=
 bif (decide (t2.2.2.1 ≥ (0 : Int))) then if (0 : Int) ≤ t2.2.2.1 then if t2.2.2.1 < (List.length t2.2.2.2.1 : Int) then Option.bind (Ze (t2.1, t2.2.1)) fun r1 => bif (decide ((zl t2.2.2.2.1 t2.2.2.1) ≤ r1)) then k0 t2.2.2.1 else again (t2.1, t2.2.1, (Go.IntKind.wrap .i64 (t2.2.2.1 - (1 : Int))), t2.2.2.2.1, t2.2.2.2.2) else none else none else k1 ()
def Qj k0 k1 := zx (@wJ R k0 k1) zO
def jR (x : yvb) : Option Int :=
 Qj (fun x2 => some x2) (fun x3 => some (-1 : Int)) (x.2.2.1, x.2.2.2, (Go.IntKind.wrap .i64 ((List.length x.1 : Int) - (1 : Int))), x.1, x.2.1)
def ym5 : List QF := [yyS]
def y81 (t : yoJ) : St := ⟨.dead :: vI t.1 :: vI t.2.1 :: .box 3 0 :: dd 3 (vI t.2.2.1 :: dd 18 []), [(3, .box [yU t.2.2.2.1, yt t.2.2.2.2])]⟩
def yja : Gk wI := fun κ => wJ (fun t => κ none ⟨dd 6 (vI t :: dd 19 []), []⟩) (fun t => κ (some 0) ⟨dd 26 [], []⟩)
def ym6 : Lp := lpC 2 (unG yoK y81) @yja lpN
theorem yui : LF ym5 ym6 219 2 Tryz.f219 0 y81 @yja fun t => t := fun R κ again t => by kernel_rfl
theorem yuj : LK ym5 ym6 219 Tryz.f219 0 := lkN (u := (unG yoK y81)) (yp fun t => by kernel_rfl) yui
theorem yzr : EV ym5 ym6 219 Tryz.f219 yrf yvc [(.int .i64)] jR := fun x => by kernel_rfl
def yCv : QF := ⟨219, jR, okN (n := 1) Tryz.func219 ⟨yuj, trivial⟩ yzr⟩
abbrev VK : Type := yoL
def ws (k0 : yvd → Option R) (k1 : yfz → Option R) (again : VK → Option R) (t2 : VK) : Option R :=
 bif (decide (t2.2.2.2.2.1 < t2.2.2.2.1)) then if (0 : Int) ≤ t2.2.2.2.2.1 then if t2.2.2.2.2.1 < (List.length t2.2.2.1 : Int) then Option.bind (bif ((y0 t2.2.2.1 t2.2.2.2.2.1).1 == t2.1) then some ((y0 t2.2.2.1 t2.2.2.2.2.1).2.1 == t2.2.1) else some false) fun u1 => bif u1 then k0 (true, (y0 t2.2.2.1 t2.2.2.2.2.1).1, (y0 t2.2.2.1 t2.2.2.2.2.1).2.1, (y0 t2.2.2.1 t2.2.2.2.2.1).2.2.1, (y0 t2.2.2.1 t2.2.2.2.2.1).2.2.2.1, (y0 t2.2.2.1 t2.2.2.2.2.1).2.2.2.2) else again (t2.1, t2.2.1, t2.2.2.1, t2.2.2.2.1, (Go.IntKind.wrap .i64 (t2.2.2.2.2.1 + (1 : Int))), t2.2.2.2.2.2.1, t2.2.2.2.2.2.2.1, t2.2.2.2.2.2.2.2.1, t2.2.2.2.2.2.2.2.2.1, t2.2.2.2.2.2.2.2.2.2) else none else none else k1 t2.2.2.2.2.2
def y1a k0 k1 := zx (@ws R k0 k1) zO
def W2 (x : yAX) : Option ydt :=
 y1a (fun x2 => some (x2.2.1, x2.2.2.1, x2.2.2.2.1, x2.2.2.2.2.1, x2.2.2.2.2.2, x2.1)) (fun x3 => some ((0 : Int), (0 : Int), (0 : Int), (0 : Int), (0 : Int), false)) (x.2.1, x.2.2, x.1, (List.length x.1 : Int), (0 : Int), (0 : Int), (0 : Int), (0 : Int), (0 : Int), (0 : Int))
def ym7 : List QF := []
def y82 (t : yoL) : St := ⟨.dead :: vI t.1 :: vI t.2.1 :: dd 3 (.box 6 0 :: dd 3 (qf t.2.2.1 :: vI t.2.2.2.1 :: vI t.2.2.2.2.1 :: dd 16 [])), [(6, .box [vI t.2.2.2.2.2.1, vI t.2.2.2.2.2.2.1, vI t.2.2.2.2.2.2.2.1, vI t.2.2.2.2.2.2.2.2.1, vI t.2.2.2.2.2.2.2.2.2])]⟩
def yjb : Gk VK := fun κ => ws (fun t => κ none ⟨dd 6 (.box 6 0 :: vB t.1 :: dd 21 []), [(6, .box [vI t.2.1, vI t.2.2.1, vI t.2.2.2.1, vI t.2.2.2.2.1, vI t.2.2.2.2.2])]⟩) (fun t => κ (some 0) ⟨dd 6 (.box 6 0 :: dd 22 []), [(6, .box [vI t.1, vI t.2.1, vI t.2.2.1, vI t.2.2.2.1, vI t.2.2.2.2])]⟩)
def ym8 : Lp := lpC 2 (unG yoM y82) @yjb lpN
theorem yuk : LF ym7 ym8 301 2 Tryz.f301 0 y82 @yjb fun t => t := fun R κ again t => by kernel_rfl
theorem yul : LK ym7 ym8 301 Tryz.f301 0 := lkN (u := (unG yoM y82)) (yp fun t => by kernel_rfl) yuk
theorem yzs : EV ym7 ym8 301 Tryz.f301 yrg yAY ydu W2 := fun x => by kernel_rfl
def yCw : QF := ⟨301, W2, okN (n := 1) Tryz.func301 ⟨yul, trivial⟩ yzs⟩
abbrev ke : Type := yve
def kf (k0 : yfz → Option R) (k1 : yvd → Option R) (again : ke → Option R) (t2 : ke) : Option R :=
 bif (decide (t2.2.2.1 ≥ (0 : Int))) then if (0 : Int) ≤ t2.2.2.1 then if t2.2.2.1 < (List.length t2.2.2.2.1 : Int) then Option.bind (W2 ((yo t2.2.2.2.1 t2.2.2.1), t2.1, t2.2.1)) fun r1 => bif (!r1.2.2.2.2.2) then again (t2.1, t2.2.1, (Go.IntKind.wrap .i64 (t2.2.2.1 - (1 : Int))), t2.2.2.2.1, t2.2.2.2.2.1, t2.2.2.2.2.2.1, t2.2.2.2.2.2.2.1, t2.2.2.2.2.2.2.2.1, t2.2.2.2.2.2.2.2.2) else bif (r1.2.2.1 == (0 : Int)) then k0 t2.2.2.2.2 else k1 (true, r1.1, r1.2.1, r1.2.2.1, r1.2.2.2.1, r1.2.2.2.2.1) else none else none else k0 t2.2.2.2.2
def y0i k0 k1 := zx (@kf R k0 k1) zO
def kg (x : yjK) : Option ydt :=
 y0i (fun x2 => some ((0 : Int), (0 : Int), (0 : Int), (0 : Int), (0 : Int), false)) (fun x3 => some (x3.2.1, x3.2.2.1, x3.2.2.2.1, x3.2.2.2.2.1, x3.2.2.2.2.2, x3.1)) (x.2.1, x.2.2, (Go.IntKind.wrap .i64 ((List.length x.1 : Int) - (1 : Int))), x.1, (0 : Int), (0 : Int), (0 : Int), (0 : Int), (0 : Int))
def ym9 : List QF := [yCw]
def y83 (t : yve) : St := ⟨.dead :: vI t.1 :: vI t.2.1 :: .box 3 0 :: dd 2 (.box 6 0 :: .dead :: vI t.2.2.1 :: dd 28 []), [(3, .box [Yd t.2.2.2.1]), (6, .box [vI t.2.2.2.2.1, vI t.2.2.2.2.2.1, vI t.2.2.2.2.2.2.1, vI t.2.2.2.2.2.2.2.1, vI t.2.2.2.2.2.2.2.2])]⟩
def yjc : Gk ke := fun κ => kf (fun t => κ (some 0) ⟨dd 6 (.box 6 0 :: dd 30 []), [(6, .box [vI t.1, vI t.2.1, vI t.2.2.1, vI t.2.2.2.1, vI t.2.2.2.2])]⟩) (fun t => κ none ⟨dd 6 (.box 6 0 :: vB t.1 :: dd 29 []), [(6, .box [vI t.2.1, vI t.2.2.1, vI t.2.2.2.1, vI t.2.2.2.2.1, vI t.2.2.2.2.2])]⟩)
def yma : Lp := lpC 2 (unG yvf y83) @yjc lpN
theorem yum : LF ym9 yma 322 2 Tryz.f322 0 y83 @yjc fun t => t := fun R κ again t => by kernel_rfl
theorem yun : LK ym9 yma 322 Tryz.f322 0 := lkN (u := (unG yvf y83)) (yp fun t => by kernel_rfl) yum
theorem yzt : EV ym9 yma 322 Tryz.f322 yrh yvg ydu kg := fun x => by kernel_rfl
def yEH : QF := ⟨322, kg, okN (n := 1) Tryz.func322 ⟨yun, trivial⟩ yzt⟩
def JW (x : yvb) : Option ydt :=
 Option.bind (jR x) fun r1 => Option.bind (yM (r1, (0 : Int), (Go.IntKind.wrap .i64 ((List.length x.2.1 : Int) - (1 : Int))))) fun r2 => bif (!r2) then some ((0 : Int), (0 : Int), (0 : Int), (0 : Int), (0 : Int), false) else if (0 : Int) ≤ r1 then if r1 < (List.length x.2.1 : Int) then Option.bind (kg ((yh x.2.1 r1), x.2.2.1, x.2.2.2)) fun r3 => some r3 else none else none
theorem yzu : EV [q92, yCv, yEH] lpN 248 Tryz.f248 yri yvc ydu JW := fun x => by kernel_rfl
def yCx : QF := ⟨248, JW, okN (n := 0) Tryz.func248 trivial yzu⟩
def jD (x : yvh) : Option ydt :=
 Option.bind (JV (x.2.2.1, x.2.2.2.2)) fun r1 => if (0 : Int) ≤ (if (List.length r1 : Int) < (1 : Int) then (List.length r1 : Int) else (1 : Int)) then if (if (List.length r1 : Int) < (1 : Int) then (List.length r1 : Int) else (1 : Int)) ≤ (List.length r1 : Int) then if (List.length r1 : Int) ≤ (List.length r1 : Int) then Option.bind (jo (x.1, x.2.1, x.2.2.2.1, (List.drop (Int.toNat (if (List.length r1 : Int) < (1 : Int) then (List.length r1 : Int) else (1 : Int))) (List.take (Int.toNat (List.length r1 : Int)) r1)))) fun r2 => some r2 else none else none else none
theorem yzv : EV [yCs, yCt] lpN 255 Tryz.f255 yrj yvi ydu jD := fun x => by kernel_rfl
def yEI : QF := ⟨255, jD, okN (n := 0) Tryz.func255 trivial yzv⟩
def wu (x : yno) : Option Bool :=
 bif (x.2.2.2.2.2.2.1 == (1 : Int)) then Option.bind (Yj (x.1, x.2.1, x.2.2.1, x.2.2.2.1, x.2.2.2.2.1, x.2.2.2.2.2.1, x.2.2.2.2.2.2.2)) fun r1 => some (!r1) else bif (x.2.2.2.2.2.2.1 == (2 : Int)) then Option.bind (jD (x.1, x.2.1, x.2.2.1, x.2.2.2.2.2.2.2.1, x.2.2.2.2.2.2.2.2.1)) fun r2 => Option.bind (bif (x.2.2.2.2.2.2.2.2.2.1 == (2 : Int)) then some (!r2.2.2.2.2.2) else some false) fun u3 => some u3 else Option.bind (Zf (x.2.2.1, x.2.2.2.2.2.2.2.2.1)) fun r4 => Option.bind (kZ (x.1, x.2.1, x.2.2.1, x.2.2.2.1, x.2.2.2.2.1, x.2.2.2.2.2.1, x.2.2.2.2.2.2.2.2.1)) fun r5 => Option.bind (bif (!r5) then some true else some ((List.length r4 : Int) != (1 : Int))) fun u6 => bif u6 then some false else if (0 : Int) ≤ (0 : Int) then if (0 : Int) < (List.length r4 : Int) then Option.bind (JW (x.1, x.2.1, x.2.2.2.2.2.2.2.1, (zl r4 (0 : Int)))) fun r7 => some (!r7.2.2.2.2.2) else none else none
theorem yzw : EV [q40, yCu, yvp, yCx, yEI] lpN 133 Tryz.f133 yrk ynp [.bool] wu := fun x => by kernel_rfl
def yEJ : QF := ⟨133, wu, okN (n := 0) Tryz.func133 trivial yzw⟩
abbrev KR : Type := yoN
def jE (k0 : Bool → Option R) (k1 : Unit → Option R) (again : KR → Option R) (t2 : KR) : Option R :=
 bif (decide (t2.2.2.2 < t2.2.2.1)) then if (0 : Int) ≤ t2.2.2.2 then if t2.2.2.2 < (List.length t2.2.1 : Int) then bif ((y0 t2.2.1 t2.2.2.2).2.1 == t2.1) then k0 true else again (t2.1, t2.2.1, t2.2.2.1, (Go.IntKind.wrap .i64 (t2.2.2.2 + (1 : Int)))) else none else none else k1 ()
def Qk k0 k1 := zx (@jE R k0 k1) zO
def wv (x : yn4) : Option Bool :=
 Qk (fun x1 => some x1) (fun x2 => some false) (x.2, x.1, (List.length x.1 : Int), (0 : Int))
def ymb : List QF := []
def y84 (t : yoN) : St := ⟨.dead :: vI t.1 :: dd 5 (qf t.2.1 :: vI t.2.2.1 :: vI t.2.2.2 :: dd 8 []), []⟩
def yjd : Gk KR := fun κ => jE (fun t => κ none ⟨dd 4 (vB t :: dd 13 []), []⟩) (fun t => κ (some 0) ⟨dd 18 [], []⟩)
def ymc : Lp := lpC 2 (unG yoO y84) @yjd lpN
theorem yuo : LF ymb ymc 136 2 Tryz.f136 0 y84 @yjd fun t => t := fun R κ again t => by kernel_rfl
theorem yup : LK ymb ymc 136 Tryz.f136 0 := lkN (u := (unG yoO y84)) (yp fun t => by kernel_rfl) yuo
theorem yzx : EV ymb ymc 136 Tryz.f136 yrl yn5 [.bool] wv := fun x => by kernel_rfl
def yEK : QF := ⟨136, wv, okN (n := 1) Tryz.func136 ⟨yup, trivial⟩ yzx⟩
abbrev K0 : Type := yoP
def ZW (k0 : ywb → Option R) (k1 : yjS → Option R) (again : K0 → Option R) (t8 : K0) : Option R :=
 bif (decide (t8.2.2.2.2.1 < t8.2.2.2.1)) then if (0 : Int) ≤ t8.2.2.2.2.1 then if t8.2.2.2.2.1 < (List.length t8.2.2.2.2.2.2.2.2.2.2.2.1 : Int) then Option.bind (wu (t8.2.2.2.2.2.1, t8.2.2.2.2.2.2.1, t8.2.2.2.2.2.2.2.1, t8.2.2.2.2.2.2.2.2.1, t8.2.2.2.2.2.2.2.2.2.1, t8.2.2.2.2.2.2.2.2.2.2.1, t8.1, (y0 t8.2.2.2.2.2.2.2.2.2.2.2.1 t8.2.2.2.2.1).1, (y0 t8.2.2.2.2.2.2.2.2.2.2.2.1 t8.2.2.2.2.1).2.1, (y0 t8.2.2.2.2.2.2.2.2.2.2.2.1 t8.2.2.2.2.1).2.2.1, (y0 t8.2.2.2.2.2.2.2.2.2.2.2.1 t8.2.2.2.2.1).2.2.2.1, (y0 t8.2.2.2.2.2.2.2.2.2.2.2.1 t8.2.2.2.2.1).2.2.2.2)) fun r3 => bif r3 then k0 (t8.1, t8.2.2.2.2.1, t8.2.1, t8.2.2.1, t8.2.2.2.2.2) else again (t8.1, t8.2.1, t8.2.2.1, t8.2.2.2.1, (Go.IntKind.wrap .i64 (t8.2.2.2.2.1 + (1 : Int))), t8.2.2.2.2.2.1, t8.2.2.2.2.2.2.1, t8.2.2.2.2.2.2.2.1, t8.2.2.2.2.2.2.2.2.1, t8.2.2.2.2.2.2.2.2.2.1, t8.2.2.2.2.2.2.2.2.2.2.1, t8.2.2.2.2.2.2.2.2.2.2.2.1, t8.2.2.2.2.2.2.2.2.2.2.2.2) else none else none else k1 (t8.2.1, t8.2.2.1, t8.2.2.2.2.2)
def qw k0 k1 := zx (@ZW R k0 k1) zO
abbrev K1 : Type := yjS
def ZX (k0 : yfB → Option R) (k1 : ywc → Option R) (again : K1 → Option R) (t5 : K1) : Option R :=
 bif (decide (t5.2.1 < t5.1)) then if (0 : Int) ≤ t5.2.1 then if t5.2.1 < (List.length t5.2.2.2.2.2.2.2.2.2 : Int) then qw (fun x4 => k0 (x4.1, x4.2.1, x4.2.2.2.2.1, x4.2.2.2.2.2.1, x4.2.2.2.2.2.2.1, x4.2.2.2.2.2.2.2.1, x4.2.2.2.2.2.2.2.2.1, x4.2.2.2.2.2.2.2.2.2.1, x4.2.2.2.2.2.2.2.2.2.2.1)) (fun x5 => again (x5.1, (Go.IntKind.wrap .i64 (x5.2.1 + (1 : Int))), x5.2.2.1, x5.2.2.2.1, x5.2.2.2.2.1, x5.2.2.2.2.2.1, x5.2.2.2.2.2.2.1, x5.2.2.2.2.2.2.2.1, x5.2.2.2.2.2.2.2.2.1, x5.2.2.2.2.2.2.2.2.2)) ((zl t5.2.2.2.2.2.2.2.2.2 t5.2.1), t5.1, t5.2.1, (List.length t5.2.2.2.2.2.2.2.2.1 : Int), (0 : Int), t5.2.2.1, t5.2.2.2.1, t5.2.2.2.2.1, t5.2.2.2.2.2.1, t5.2.2.2.2.2.2.1, t5.2.2.2.2.2.2.2.1, t5.2.2.2.2.2.2.2.2.1, t5.2.2.2.2.2.2.2.2.2) else none else none else k1 (t5.2.2.1, t5.2.2.2.1, t5.2.2.2.2.1, t5.2.2.2.2.2.1, t5.2.2.2.2.2.2.1, t5.2.2.2.2.2.2.2.1, t5.2.2.2.2.2.2.2.2.1)
def qx k0 k1 := zx (@ZX R k0 k1) zO
abbrev kh : Type := yoS
def Zj (k0 : yfy → Option R) (k1 : Unit → Option R) (again : kh → Option R) (t15 : kh) : Option R :=
 bif (decide (t15.2.2.1 < t15.2.1)) then if (0 : Int) ≤ t15.2.2.1 then if t15.2.2.1 < (List.length t15.1 : Int) then Option.bind (kZ (t15.2.2.2.1, t15.2.2.2.2.1, t15.2.2.2.2.2.1, t15.2.2.2.2.2.2.1, t15.2.2.2.2.2.2.2.1, t15.2.2.2.2.2.2.2.2.1, (yC t15.1 t15.2.2.1).1)) fun r8 => Option.bind (bif r8 then Option.bind (Zf (t15.2.2.2.2.2.1, (yC t15.1 t15.2.2.1).1)) fun r10 => some (decide ((List.length r10 : Int) ≤ (1 : Int))) else some false) fun u9 => Option.bind (bif u9 then Option.bind (wv (t15.2.2.2.2.2.2.2.2.2, (yC t15.1 t15.2.2.1).1)) fun r12 => some (!r12) else some false) fun u11 => bif u11 then k0 ((4 : Int), t15.2.2.1) else again (t15.1, t15.2.1, (Go.IntKind.wrap .i64 (t15.2.2.1 + (1 : Int))), t15.2.2.2.1, t15.2.2.2.2.1, t15.2.2.2.2.2.1, t15.2.2.2.2.2.2.1, t15.2.2.2.2.2.2.2.1, t15.2.2.2.2.2.2.2.2.1, t15.2.2.2.2.2.2.2.2.2) else none else none else k1 ()
def Vy k0 k1 := zx (@Zj R k0 k1) zO
def YN (x : Qv) : Option yfy :=
 Option.bind (Yc x) fun r1 => bif (!r1) then some ((0 : Int), (0 : Int)) else Option.bind (yS (x.1, x.2.1)) fun r2 => qx (fun x6 => some (x6.1, x6.2.1)) (fun x7 => Vy (fun x13 => some x13) (fun x14 => some ((0 : Int), (0 : Int))) (x7.2.2.1, (List.length x7.2.2.1 : Int), (0 : Int), x7.1, x7.2.1, x7.2.2.1, x7.2.2.2.1, x7.2.2.2.2.1, x7.2.2.2.2.2.1, x7.2.2.2.2.2.2)) (((List.length ([(1 : Int), (2 : Int), (3 : Int)] : List ye) : Nat) : Int), (0 : Int), x.1, x.2.1, x.2.2.1, x.2.2.2.1, x.2.2.2.2.1, x.2.2.2.2.2, r2, ([(1 : Int), (2 : Int), (3 : Int)] : List ye))
def ymd : List QF := [q29, q30, yEJ, yCu, yvp, yEK]
def ybb (t : yoP) : St := ⟨.dead :: .box 1 0 :: dd 2 (.own 10000000 :: .dead :: vI t.1 :: dd 10 (.own 10000001 :: vI t.2.1 :: vI t.2.2.1 :: dd 3 (.own 10000000 :: vI t.2.2.2.1 :: vI t.2.2.2.2.1 :: dd 42 []))), [(1, .box [yU t.2.2.2.2.2.1, yt t.2.2.2.2.2.2.1, za t.2.2.2.2.2.2.2.1, yL t.2.2.2.2.2.2.2.2.1, zP t.2.2.2.2.2.2.2.2.2.1, vI t.2.2.2.2.2.2.2.2.2.2.1]), (10000000, .root true 64 yi t.2.2.2.2.2.2.2.2.2.2.2.1), (10000001, .root true 3 yg t.2.2.2.2.2.2.2.2.2.2.2.2)]⟩
def yuq : Gk K0 := fun κ => ZW (fun t => κ none ⟨.dead :: .box 1 0 :: vI t.1 :: vI t.2.1 :: .own 10000000 :: dd 12 (.own 10000001 :: vI t.2.2.1 :: vI t.2.2.2.1 :: dd 48 []), [(1, .box [yU t.2.2.2.2.1, yt t.2.2.2.2.2.1, za t.2.2.2.2.2.2.1, yL t.2.2.2.2.2.2.2.1, zP t.2.2.2.2.2.2.2.2.1, vI t.2.2.2.2.2.2.2.2.2.1]), (10000000, .root true 64 yi t.2.2.2.2.2.2.2.2.2.2.1), (10000001, .root true 3 yg t.2.2.2.2.2.2.2.2.2.2.2)]⟩) (fun t => κ (some 2) ⟨.dead :: .box 1 0 :: dd 2 (.own 10000000 :: dd 12 (.own 10000001 :: vI t.1 :: vI t.2.1 :: dd 48 [])), [(1, .box [yU t.2.2.1, yt t.2.2.2.1, za t.2.2.2.2.1, yL t.2.2.2.2.2.1, zP t.2.2.2.2.2.2.1, vI t.2.2.2.2.2.2.2.1]), (10000000, .root true 64 yi t.2.2.2.2.2.2.2.2.1), (10000001, .root true 3 yg t.2.2.2.2.2.2.2.2.2)]⟩)
def ybc (t : yjS) : St := ⟨.dead :: .box 1 0 :: dd 2 (.own 10000000 :: dd 12 (.own 10000001 :: vI t.1 :: vI t.2.1 :: dd 48 [])), [(1, .box [yU t.2.2.1, yt t.2.2.2.1, za t.2.2.2.2.1, yL t.2.2.2.2.2.1, zP t.2.2.2.2.2.2.1, vI t.2.2.2.2.2.2.2.1]), (10000000, .root true 64 yi t.2.2.2.2.2.2.2.2.1), (10000001, .root true 3 yg t.2.2.2.2.2.2.2.2.2)]⟩
def yur : Gk K1 := fun κ => ZX (fun t => κ none ⟨.dead :: .box 1 0 :: vI t.1 :: vI t.2.1 :: .own 10000000 :: dd 63 [], [(1, .box [yU t.2.2.1, yt t.2.2.2.1, za t.2.2.2.2.1, yL t.2.2.2.2.2.1, zP t.2.2.2.2.2.2.1, vI t.2.2.2.2.2.2.2.1]), (10000000, .root true 64 yi t.2.2.2.2.2.2.2.2)]⟩) (fun t => κ (some 0) ⟨.dead :: .box 1 0 :: dd 2 (.own 10000000 :: dd 63 []), [(1, .box [yU t.1, yt t.2.1, za t.2.2.1, yL t.2.2.2.1, zP t.2.2.2.2.1, vI t.2.2.2.2.2.1]), (10000000, .root true 64 yi t.2.2.2.2.2.2)]⟩)
def y85 (t : yoS) : St := ⟨.dead :: .box 1 0 :: dd 2 (.own 10000000 :: dd 34 (za t.1 :: vI t.2.1 :: vI t.2.2.1 :: dd 26 [])), [(1, .box [yU t.2.2.2.1, yt t.2.2.2.2.1, za t.2.2.2.2.2.1, yL t.2.2.2.2.2.2.1, zP t.2.2.2.2.2.2.2.1, vI t.2.2.2.2.2.2.2.2.1]), (10000000, .root true 64 yi t.2.2.2.2.2.2.2.2.2)]⟩
def yje : Gk kh := fun κ => Zj (fun t => κ none ⟨dd 2 (vI t.1 :: vI t.2 :: dd 64 []), []⟩) (fun t => κ (some 4) ⟨dd 68 [], []⟩)
def yme : Lp := lpC 15 (unG yoT y85) @yje (lpC 5 (unG yoR ybc) @yur (lpC 8 (unG yoQ ybb) @yuq lpN))
theorem yzy : LF ymd yme 32 8 Tryz.f32 1 ybb @yuq fun t => t := fun R κ again t => by kernel_rfl
theorem yzz : LK ymd yme 32 Tryz.f32 1 := lkN (u := (unG yoQ ybb)) (yp fun t => by kernel_rfl) yzy
theorem yzA : LF ymd yme 32 5 Tryz.f32 0 ybc @yur fun t => t := fun R κ again t => by kernel_rfl
theorem yzB : LK ymd yme 32 Tryz.f32 0 := lkN (u := (unG yoR ybc)) (yp fun t => by kernel_rfl) yzA
theorem yus : LF ymd yme 32 15 Tryz.f32 2 y85 @yje fun t => t := fun R κ again t => by kernel_rfl
theorem yut : LK ymd yme 32 Tryz.f32 2 := lkN (u := (unG yoT y85)) (yp fun t => by kernel_rfl) yus
theorem yEL : EV ymd yme 32 Tryz.f32 yBE zY yjJ YN := fun x => by kernel_rfl
def q32 : QF := ⟨32, YN, okN (n := 3) Tryz.func32 ⟨yzB, yzz, yut, trivial⟩ yEL⟩
def ZY (x : List ye) : Option (List ye) :=
 if (List.length ([] : List ye) + List.length x) * 8 < 140737488355328 then some (([] : List ye) ++ x) else none
theorem yzC : EV [] lpN 297 Tryz.f297 yrm [(.sl 3 yg)] [(.sl 3 yg)] ZY := fun x => by kernel_rfl
def yCy : QF := ⟨297, ZY, okN (n := 0) Tryz.func297 trivial yzC⟩
abbrev K2 : Type := yjK ⊕ yes
def Y5 (k0 : Unit → Option R) (k1 : List ya → Option R) (again : K2 → Option R) : K2 → Option R
 | .inl t3 => bif (decide (t3.2.2 < t3.2.1)) then if (0 : Int) ≤ t3.2.2 then if t3.2.2 < (List.length t3.1 : Int) then Option.bind (zV (yo t3.1 t3.2.2)) fun r1 => if List.length ([r1] : List ya) * 24 < 140737488355328 then again (Sum.inr (t3.1, t3.2.1, (Go.IntKind.wrap .i64 (t3.2.2 + (1 : Int))), ([r1] : List ya))) else none else none else none else k0 ()
 | .inr t3 => bif (decide (t3.2.2.1 < t3.2.1)) then if (0 : Int) ≤ t3.2.2.1 then if t3.2.2.1 < (List.length t3.1 : Int) then Option.bind (zV (yo t3.1 t3.2.2.1)) fun r2 => if (List.length t3.2.2.2 + List.length ([r2] : List ya)) * 24 < 140737488355328 then again (Sum.inr (t3.1, t3.2.1, (Go.IntKind.wrap .i64 (t3.2.2.1 + (1 : Int))), (t3.2.2.2 ++ ([r2] : List ya)))) else none else none else none else k1 t3.2.2.2
def qy k0 k1 := zx (@Y5 R k0 k1) zO
def zu (x : List ya) : Option (List ya) :=
 qy (fun x3 => some ([] : List ya)) (fun x4 => some x4) (Sum.inl (x, (List.length x : Int), (0 : Int)))
def yeY : List QF := [yyG]
def y3R (t : yjK) : St := ⟨dd 2 (.box 2 0 :: .box 3 0 :: dd 4 (Yd t.1 :: vI t.2.1 :: vI t.2.2 :: dd 12 [])), [(2, .box [.nils]), (3, .box [.nils])]⟩
theorem yh3 : ∀ s t, unG yvg y3R s = some t → y3R t = s := yp fun t => by kernel_rfl
def y3S (t : yes) : St := ⟨dd 2 (.box 2 0 :: .box 3 0 :: dd 4 (Yd t.1 :: vI t.2.1 :: vI t.2.2.1 :: dd 12 [])), [(2, .box [.nils]), (3, .box [.own 10000000]), (10000000, .root true 58 yn t.2.2.2)]⟩
theorem yh4 : ∀ s t, unG yoU y3S s = some t → y3S t = s := yp fun t => by kernel_rfl
def y3T : (yjK ⊕ yes) → St := Sum.elim y3R y3S
def y86 (s : St) : Option (yjK ⊕ yes) := ((unG yvg y3R s).map Sum.inl).or (((unG yoU y3S) s).map Sum.inr)
theorem yh5 : ∀ s t, y86 s = some t → y3T t = s := y3g yh3 yh4
def ycl : Gk K2 := fun κ => Y5 (fun t => κ (some 0) ⟨dd 2 (.box 2 0 :: .box 3 0 :: dd 19 []), [(2, .box [.nils]), (3, .box [.nils])]⟩) (fun t => κ (some 0) ⟨dd 2 (.box 2 0 :: .box 3 0 :: dd 19 []), [(2, .box [.nils]), (3, .box [.own 10000000]), (10000000, .root true 58 yn t)]⟩)
def yeZ : Lp := lpC 3 y86 @ycl lpN
theorem yh6 : LF yeY yeZ 298 3 Tryz.f298 0 y3T @ycl fun v : yjK => .inl v := fun R κ again v => by kernel_rfl
theorem yh7 : LF yeY yeZ 298 3 Tryz.f298 0 y3T @ycl fun v : yes => .inr v := fun R κ again v => by kernel_rfl
theorem yuu : LF yeY yeZ 298 3 Tryz.f298 0 y3T @ycl fun t => t := (LC.sum yh6 yh7)
theorem yuv : LK yeY yeZ 298 Tryz.f298 0 := lkN (u := y86) yh5 yuu
theorem yzD : EV yeY yeZ 298 Tryz.f298 yrn [(.sl 58 yn)] [(.sl 58 yn)] zu := fun x => by kernel_rfl
def yCz : QF := ⟨298, zu, okN (n := 1) Tryz.func298 ⟨yuv, trivial⟩ yzD⟩
abbrev K3 : Type := yet ⊕ yeu
def Y6 (k0 : List ye → Option R) (k1 : y4D → Option R) (again : K3 → Option R) : K3 → Option R
 | .inl t3 => bif (decide (t3.2.2.1 < t3.2.1)) then if (0 : Int) ≤ t3.2.2.1 then if t3.2.2.1 < (List.length t3.1 : Int) then Option.bind (zu (yh t3.1 t3.2.2.1)) fun r2 => if List.length ([r2] : List y8) * 24 < 140737488355328 then again (Sum.inr (t3.1, t3.2.1, (Go.IntKind.wrap .i64 (t3.2.2.1 + (1 : Int))), t3.2.2.2, ([r2] : List y8))) else none else none else none else k0 t3.2.2.2
 | .inr t3 => bif (decide (t3.2.2.1 < t3.2.1)) then if (0 : Int) ≤ t3.2.2.1 then if t3.2.2.1 < (List.length t3.1 : Int) then Option.bind (zu (yh t3.1 t3.2.2.1)) fun r3 => if (List.length t3.2.2.2.2 + List.length ([r3] : List y8)) * 24 < 140737488355328 then again (Sum.inr (t3.1, t3.2.1, (Go.IntKind.wrap .i64 (t3.2.2.1 + (1 : Int))), t3.2.2.2.1, (t3.2.2.2.2 ++ ([r3] : List y8)))) else none else none else none else k1 t3.2.2.2
def qz k0 k1 := zx (@Y6 R k0 k1) zO
def zv (x : y4D) : Option y4D :=
 Option.bind (ZY x.1) fun r1 => qz (fun x4 => some (x4, ([] : List y8))) (fun x5 => some x5) (Sum.inl (x.2, (List.length x.2 : Int), (0 : Int), r1))
def yf0 : List QF := [yCy, yCz]
def y3U (t : yet) : St := ⟨dd 2 (.box 2 0 :: .box 3 0 :: dd 7 (yt t.1 :: vI t.2.1 :: vI t.2.2.1 :: dd 12 [])), [(2, .box [.nils, .nils]), (3, .box [.own 10000000, .nils]), (10000000, .root true 3 yg t.2.2.2)]⟩
theorem yh8 : ∀ s t, unG yoV y3U s = some t → y3U t = s := yp fun t => by kernel_rfl
def y3V (t : yeu) : St := ⟨dd 2 (.box 2 0 :: .box 3 0 :: dd 7 (yt t.1 :: vI t.2.1 :: vI t.2.2.1 :: dd 12 [])), [(2, .box [.nils, .nils]), (3, .box [.own 10000000, .own 10000001]), (10000000, .root true 3 yg t.2.2.2.1), (10000001, .root true 140 yj t.2.2.2.2)]⟩
theorem yh9 : ∀ s t, unG yoW y3V s = some t → y3V t = s := yp fun t => by kernel_rfl
def y3W : (yet ⊕ yeu) → St := Sum.elim y3U y3V
def y87 (s : St) : Option (yet ⊕ yeu) := ((unG yoV y3U s).map Sum.inl).or (((unG yoW y3V) s).map Sum.inr)
theorem yha : ∀ s t, y87 s = some t → y3W t = s := y3g yh8 yh9
def ycm : Gk K3 := fun κ => Y6 (fun t => κ (some 0) ⟨dd 2 (.box 2 0 :: .box 3 0 :: dd 22 []), [(2, .box [.nils, .nils]), (3, .box [.own 10000000, .nils]), (10000000, .root true 3 yg t)]⟩) (fun t => κ (some 0) ⟨dd 2 (.box 2 0 :: .box 3 0 :: dd 22 []), [(2, .box [.nils, .nils]), (3, .box [.own 10000000, .own 10000001]), (10000000, .root true 3 yg t.1), (10000001, .root true 140 yj t.2)]⟩)
def yf1 : Lp := lpC 3 y87 @ycm lpN
theorem yhb : LF yf0 yf1 206 3 Tryz.f206 0 y3W @ycm fun v : yet => .inl v := fun R κ again v => by kernel_rfl
theorem yhc : LF yf0 yf1 206 3 Tryz.f206 0 y3W @ycm fun v : yeu => .inr v := fun R κ again v => by kernel_rfl
theorem yuw : LF yf0 yf1 206 3 Tryz.f206 0 y3W @ycm fun t => t := (LC.sum yhb yhc)
theorem yux : LK yf0 yf1 206 Tryz.f206 0 := lkN (u := y87) yha yuw
theorem yzE : EV yf0 yf1 206 Tryz.f206 yro W8 W8 zv := fun x => by kernel_rfl
def yCA : QF := ⟨206, zv, okN (n := 1) Tryz.func206 ⟨yux, trivial⟩ yzE⟩
def YO (x : List yd) : Option (List yd) :=
 if (List.length ([] : List yd) + List.length x) * 16 < 140737488355328 then some (([] : List yd) ++ x) else none
theorem yzF : EV [] lpN 207 Tryz.f207 yrp [(.sl 146 yk)] [(.sl 146 yk)] YO := fun x => by kernel_rfl
def yCB : QF := ⟨207, YO, okN (n := 0) Tryz.func207 trivial yzF⟩
def Yk (x : List yb) : Option (List yb) :=
 if (List.length ([] : List yb) + List.length x) * 24 < 140737488355328 then some (([] : List yb) ++ x) else none
theorem yzG : EV [] lpN 208 Tryz.f208 yrq [(.sl 113 yf)] [(.sl 113 yf)] Yk := fun x => by kernel_rfl
def yCC : QF := ⟨208, Yk, okN (n := 0) Tryz.func208 trivial yzG⟩
def YP (x : Qv) : Option Qv :=
 Option.bind (zv (x.1, x.2.1)) fun r1 => Option.bind (YO x.2.2.1) fun r2 => Option.bind (Yk x.2.2.2.1) fun r3 => if (List.length ([] : List yl) + List.length x.2.2.2.2.1) * 40 < 140737488355328 then some (r1.1, r1.2, r2, r3, (([] : List yl) ++ x.2.2.2.2.1), x.2.2.2.2.2) else none
theorem yEM : EV [yCA, yCB, yCC] lpN 91 Tryz.f91 yBF zY zY YP := fun x => by kernel_rfl
def q91 : QF := ⟨91, YP, okN (n := 0) Tryz.func91 trivial yEM⟩
def zK (x : yvN) : Option (List y9) :=
 Option.bind (yN x.1) fun r1 => Option.bind (jn (r1, x.2)) fun r2 => Option.bind (Jp r2) fun r3 => some r3
theorem yzH : EV [ytI, yCm, yyE] lpN 221 Tryz.f221 yrr yvO [(.sl 64 yi)] zK := fun x => by kernel_rfl
def yCD : QF := ⟨221, zK, okN (n := 0) Tryz.func221 trivial yzH⟩
def zq (x : List y9) : Option (List ya) :=
 bif ((List.length x : Int) == (0 : Int)) then some ([] : List ya) else Option.bind (zV x) fun r1 => some ([r1] : List ya)
theorem yzI : EV [yyG] lpN 224 Tryz.f224 yrs [(.sl 64 yi)] [(.sl 58 yn)] zq := fun x => by kernel_rfl
def yzJ : QF := ⟨224, zq, okN (n := 0) Tryz.func224 trivial yzI⟩
def ww (x : yvN) : Option yAZ :=
 Option.bind (zu x.1) fun r1 => bif (decide ((Go.IntKind.wrap .i64 ((List.length x.1 : Int) - (1 : Int))) ≥ (0 : Int))) then if (0 : Int) ≤ (Go.IntKind.wrap .i64 ((List.length x.1 : Int) - (1 : Int))) then if (Go.IntKind.wrap .i64 ((List.length x.1 : Int) - (1 : Int))) < (List.length x.1 : Int) then Option.bind (W2 ((yo x.1 (Go.IntKind.wrap .i64 ((List.length x.1 : Int) - (1 : Int)))), x.2.1, x.2.2.1)) fun r2 => Option.bind (bif r2.2.2.2.2.2 then some true else if (0 : Int) ≤ (Go.IntKind.wrap .i64 ((List.length x.1 : Int) - (1 : Int))) then if (Go.IntKind.wrap .i64 ((List.length x.1 : Int) - (1 : Int))) < (List.length x.1 : Int) then some (decide (((List.length (yo x.1 (Go.IntKind.wrap .i64 ((List.length x.1 : Int) - (1 : Int)))) : Nat) : Int) < (4 : Int))) else none else none) fun u3 => bif u3 then if (0 : Int) ≤ (Go.IntKind.wrap .i64 ((List.length x.1 : Int) - (1 : Int))) then if (Go.IntKind.wrap .i64 ((List.length x.1 : Int) - (1 : Int))) < (List.length x.1 : Int) then Option.bind (jn ((yo x.1 (Go.IntKind.wrap .i64 ((List.length x.1 : Int) - (1 : Int)))), x.2.1, x.2.2.1, x.2.2.2.1, x.2.2.2.2.1, x.2.2.2.2.2)) fun r4 => if (0 : Int) ≤ (Go.IntKind.wrap .i64 ((List.length x.1 : Int) - (1 : Int))) then if (Go.IntKind.wrap .i64 ((List.length x.1 : Int) - (1 : Int))) < (List.length r1 : Int) then Option.bind (zB (List.set r1 (Int.toNat (Go.IntKind.wrap .i64 ((List.length x.1 : Int) - (1 : Int)))) r4)) fun r5 => bif r5 then some ((List.set r1 (Int.toNat (Go.IntKind.wrap .i64 ((List.length x.1 : Int) - (1 : Int)))) r4), true) else Option.bind (zK x) fun r6 => Option.bind (zq r6) fun r7 => Option.bind (bif (decide ((List.length r6 : Int) > (8 : Int))) then some true else Option.bind (zB r7) fun r9 => some (!r9)) fun u8 => bif u8 then Option.bind (zu x.1) fun r10 => some (r10, false) else some (r7, true) else none else none else none else none else if (List.length r1 + List.length ([([x.2] : List y9)] : List ya)) * 24 < 140737488355328 then Option.bind (zB (r1 ++ ([([x.2] : List y9)] : List ya))) fun r11 => bif r11 then some ((r1 ++ ([([x.2] : List y9)] : List ya)), true) else Option.bind (zK x) fun r12 => Option.bind (zq r12) fun r13 => Option.bind (bif (decide ((List.length r12 : Int) > (8 : Int))) then some true else Option.bind (zB r13) fun r15 => some (!r15)) fun u14 => bif u14 then Option.bind (zu x.1) fun r16 => some (r16, false) else some (r13, true) else none else none else none else if (List.length r1 + List.length ([([x.2] : List y9)] : List ya)) * 24 < 140737488355328 then Option.bind (zB (r1 ++ ([([x.2] : List y9)] : List ya))) fun r17 => bif r17 then some ((r1 ++ ([([x.2] : List y9)] : List ya)), true) else Option.bind (zK x) fun r18 => Option.bind (zq r18) fun r19 => Option.bind (bif (decide ((List.length r18 : Int) > (8 : Int))) then some true else Option.bind (zB r19) fun r21 => some (!r21)) fun u20 => bif u20 then Option.bind (zu x.1) fun r22 => some (r22, false) else some (r19, true) else none
theorem yzK : EV [yCD, yzJ, yCo, yCz, yCw, yyE] lpN 220 Tryz.f220 yrt yvO yB0 ww := fun x => by kernel_rfl
def yEN : QF := ⟨220, ww, okN (n := 0) Tryz.func220 trivial yzK⟩
def zW (x : ywd) : Option y4D :=
 if (0 : Int) ≤ (0 : Int) then if (0 : Int) ≤ x.2.2.1 then if x.2.2.1 ≤ (List.length x.1 : Int) then Option.bind (ZY (List.drop (Int.toNat (0 : Int)) (List.take (Int.toNat x.2.2.1) x.1))) fun r1 => if (List.length r1 + List.length x.2.2.2.2.1) * 8 < 140737488355328 then if (0 : Int) ≤ (Go.IntKind.wrap .i64 (x.2.2.1 + x.2.2.2.1)) then if (Go.IntKind.wrap .i64 (x.2.2.1 + x.2.2.2.1)) ≤ (List.length x.1 : Int) then if (List.length x.1 : Int) ≤ (List.length x.1 : Int) then if (List.length (r1 ++ x.2.2.2.2.1) + List.length (List.drop (Int.toNat (Go.IntKind.wrap .i64 (x.2.2.1 + x.2.2.2.1))) (List.take (Int.toNat (List.length x.1 : Int)) x.1))) * 8 < 140737488355328 then if (0 : Int) ≤ (0 : Int) then if (0 : Int) ≤ x.2.2.1 then if x.2.2.1 ≤ (List.length x.2.1 : Int) then if (List.length ([] : List y8) + List.length (List.drop (Int.toNat (0 : Int)) (List.take (Int.toNat x.2.2.1) x.2.1))) * 24 < 140737488355328 then if (List.length (([] : List y8) ++ (List.drop (Int.toNat (0 : Int)) (List.take (Int.toNat x.2.2.1) x.2.1))) + List.length x.2.2.2.2.2) * 24 < 140737488355328 then if (0 : Int) ≤ (Go.IntKind.wrap .i64 (x.2.2.1 + x.2.2.2.1)) then if (Go.IntKind.wrap .i64 (x.2.2.1 + x.2.2.2.1)) ≤ (List.length x.2.1 : Int) then if (List.length x.2.1 : Int) ≤ (List.length x.2.1 : Int) then if (List.length ((([] : List y8) ++ (List.drop (Int.toNat (0 : Int)) (List.take (Int.toNat x.2.2.1) x.2.1))) ++ x.2.2.2.2.2) + List.length (List.drop (Int.toNat (Go.IntKind.wrap .i64 (x.2.2.1 + x.2.2.2.1))) (List.take (Int.toNat (List.length x.2.1 : Int)) x.2.1))) * 24 < 140737488355328 then some (((r1 ++ x.2.2.2.2.1) ++ (List.drop (Int.toNat (Go.IntKind.wrap .i64 (x.2.2.1 + x.2.2.2.1))) (List.take (Int.toNat (List.length x.1 : Int)) x.1))), (((([] : List y8) ++ (List.drop (Int.toNat (0 : Int)) (List.take (Int.toNat x.2.2.1) x.2.1))) ++ x.2.2.2.2.2) ++ (List.drop (Int.toNat (Go.IntKind.wrap .i64 (x.2.2.1 + x.2.2.2.1))) (List.take (Int.toNat (List.length x.2.1 : Int)) x.2.1)))) else none else none else none else none else none else none else none else none else none else none else none else none else none else none else none else none else none
theorem yzL : EV [yCy] lpN 222 Tryz.f222 yru ywe W8 zW := fun x => by kernel_rfl
def yCE : QF := ⟨222, zW, okN (n := 0) Tryz.func222 trivial yzL⟩
abbrev V5 : Type := yan ⊕ yan
def V6 (k0 : y4D → Option R) (k1 : y4D → Option R) (again : V5 → Option R) : V5 → Option R
 | .inl t2 => bif (decide ((Go.IntKind.wrap .i64 (t2.1 + (1 : Int))) < (List.length t2.2.2 : Int))) then if (0 : Int) ≤ t2.1 then if t2.1 < (List.length t2.2.2 : Int) then Option.bind (yN (yh t2.2.2 t2.1)) fun r1 => if (0 : Int) ≤ (Go.IntKind.wrap .i64 (t2.1 + (1 : Int))) then if (Go.IntKind.wrap .i64 (t2.1 + (1 : Int))) < (List.length t2.2.2 : Int) then Option.bind (yN (yh t2.2.2 (Go.IntKind.wrap .i64 (t2.1 + (1 : Int))))) fun r2 => if (List.length r1 + List.length r2) * 40 < 140737488355328 then bif (decide ((List.length (r1 ++ r2) : Int) ≤ (6 : Int))) then if (0 : Int) ≤ t2.1 then if t2.1 < (List.length t2.2.1 : Int) then Option.bind (zq (r1 ++ r2)) fun r3 => Option.bind (zW (t2.2.1, t2.2.2, t2.1, (2 : Int), ([(zl t2.2.1 t2.1)] : List ye), ([r3] : List y8))) fun r4 => again (Sum.inr ((Go.IntKind.wrap .i64 ((-1 : Int) + (1 : Int))), r4.1, r4.2)) else none else none else again (Sum.inl ((Go.IntKind.wrap .i64 (t2.1 + (1 : Int))), t2.2.1, t2.2.2)) else none else none else none else none else none else k0 t2.2
 | .inr t2 => bif (decide ((Go.IntKind.wrap .i64 (t2.1 + (1 : Int))) < (List.length t2.2.2 : Int))) then if (0 : Int) ≤ t2.1 then if t2.1 < (List.length t2.2.2 : Int) then Option.bind (yN (yh t2.2.2 t2.1)) fun r5 => if (0 : Int) ≤ (Go.IntKind.wrap .i64 (t2.1 + (1 : Int))) then if (Go.IntKind.wrap .i64 (t2.1 + (1 : Int))) < (List.length t2.2.2 : Int) then Option.bind (yN (yh t2.2.2 (Go.IntKind.wrap .i64 (t2.1 + (1 : Int))))) fun r6 => if (List.length r5 + List.length r6) * 40 < 140737488355328 then bif (decide ((List.length (r5 ++ r6) : Int) ≤ (6 : Int))) then if (0 : Int) ≤ t2.1 then if t2.1 < (List.length t2.2.1 : Int) then Option.bind (zq (r5 ++ r6)) fun r7 => Option.bind (zW (t2.2.1, t2.2.2, t2.1, (2 : Int), ([(zl t2.2.1 t2.1)] : List ye), ([r7] : List y8))) fun r8 => again (Sum.inr ((Go.IntKind.wrap .i64 ((-1 : Int) + (1 : Int))), r8.1, r8.2)) else none else none else again (Sum.inr ((Go.IntKind.wrap .i64 (t2.1 + (1 : Int))), t2.2.1, t2.2.2)) else none else none else none else none else none else k1 t2.2
def y0j k0 k1 := zx (@V6 R k0 k1) zO
def Zk (x : y4D) : Option y4D :=
 y0j (fun x9 => some x9) (fun x10 => some x10) (Sum.inl ((0 : Int), x.1, x.2))
def yf2 : List QF := [ytI, yCE, yzJ]
def y3X (t : yan) : St := ⟨.dead :: .box 1 0 :: .box 2 0 :: vI t.1 :: dd 39 [], [(1, .box [yU t.2.1, yt t.2.2]), (2, .box [.nils, .nils])]⟩
theorem yhd : ∀ s t, unG yfA y3X s = some t → y3X t = s := yp fun t => by kernel_rfl
def y3Y (t : yan) : St := ⟨.dead :: .box 1 0 :: .box 2 0 :: vI t.1 :: dd 39 [], [(1, .box [.own 10000000, .own 10000001]), (2, .box [.nils, .nils]), (10000000, .root true 3 yg t.2.1), (10000001, .root true 140 yj t.2.2)]⟩
theorem yhe : ∀ s t, unG yfA y3Y s = some t → y3Y t = s := yp fun t => by kernel_rfl
def y3Z : (yan ⊕ yan) → St := Sum.elim y3X y3Y
def y88 (s : St) : Option (yan ⊕ yan) := ((unG yfA y3X s).map Sum.inl).or (((unG yfA y3Y) s).map Sum.inr)
theorem yhf : ∀ s t, y88 s = some t → y3Z t = s := y3g yhd yhe
def ycn : Gk V5 := fun κ => V6 (fun t => κ (some 0) ⟨.dead :: .box 1 0 :: .box 2 0 :: dd 40 [], [(1, .box [yU t.1, yt t.2]), (2, .box [.nils, .nils])]⟩) (fun t => κ (some 0) ⟨.dead :: .box 1 0 :: .box 2 0 :: dd 40 [], [(1, .box [.own 10000000, .own 10000001]), (2, .box [.nils, .nils]), (10000000, .root true 3 yg t.1), (10000001, .root true 140 yj t.2)]⟩)
def yf3 : Lp := lpC 2 y88 @ycn lpN
theorem yhg : LF yf2 yf3 225 2 Tryz.f225 0 y3Z @ycn fun v : yan => .inl v := fun R κ again v => by kernel_rfl
theorem yhh : LF yf2 yf3 225 2 Tryz.f225 0 y3Z @ycn fun v : yan => .inr v := fun R κ again v => by kernel_rfl
theorem yuy : LF yf2 yf3 225 2 Tryz.f225 0 y3Z @ycn fun t => t := (LC.sum yhg yhh)
theorem yuz : LK yf2 yf3 225 Tryz.f225 0 := lkN (u := y88) yhf yuy
theorem yzM : EV yf2 yf3 225 Tryz.f225 yrv W8 W8 Zk := fun x => by kernel_rfl
def yEO : QF := ⟨225, Zk, okN (n := 1) Tryz.func225 ⟨yuz, trivial⟩ yzM⟩
def Zx (x : yB1) : Option yB3 :=
 Option.bind (Yb (x.1, x.2.1)) fun r1 => Option.bind (bif (!r1) then some true else Option.bind (W0 x.2.2) fun r3 => some (!r3)) fun u2 => bif u2 then Option.bind (zv (x.1, x.2.1)) fun r4 => some (r4.1, r4.2, false) else Option.bind (jR (x.1, x.2.1, x.2.2.1, x.2.2.2.1)) fun r5 => Option.bind (zv (x.1, x.2.1)) fun r6 => if (0 : Int) ≤ r5 then if r5 < (List.length r6.2 : Int) then Option.bind (ww ((yh r6.2 r5), x.2.2.1, x.2.2.2.1, x.2.2.2.2.1, x.2.2.2.2.2.1, x.2.2.2.2.2.2)) fun r7 => bif (!r7.2) then if (0 : Int) ≤ r5 then if r5 < (List.length r6.2 : Int) then Option.bind (zK ((yh r6.2 r5), x.2.2.1, x.2.2.2.1, x.2.2.2.2.1, x.2.2.2.2.2.1, x.2.2.2.2.2.2)) fun r8 => if (0 : Int) ≤ (Go.IntKind.wrap .i64 (Int.tdiv (Go.IntKind.wrap .i64 ((List.length r8 : Int) + (1 : Int))) (2 : Int))) then if (Go.IntKind.wrap .i64 (Int.tdiv (Go.IntKind.wrap .i64 ((List.length r8 : Int) + (1 : Int))) (2 : Int))) < (List.length r8 : Int) then if (0 : Int) ≤ r5 then if r5 < (List.length x.1 : Int) then Option.bind (Ze ((y0 r8 (Go.IntKind.wrap .i64 (Int.tdiv (Go.IntKind.wrap .i64 ((List.length r8 : Int) + (1 : Int))) (2 : Int)))).1, (y0 r8 (Go.IntKind.wrap .i64 (Int.tdiv (Go.IntKind.wrap .i64 ((List.length r8 : Int) + (1 : Int))) (2 : Int)))).2.1)) fun r9 => if (0 : Int) ≤ (0 : Int) then if (0 : Int) ≤ (Go.IntKind.wrap .i64 (Int.tdiv (Go.IntKind.wrap .i64 ((List.length r8 : Int) + (1 : Int))) (2 : Int))) then if (Go.IntKind.wrap .i64 (Int.tdiv (Go.IntKind.wrap .i64 ((List.length r8 : Int) + (1 : Int))) (2 : Int))) ≤ (List.length r8 : Int) then Option.bind (zq (List.drop (Int.toNat (0 : Int)) (List.take (Int.toNat (Go.IntKind.wrap .i64 (Int.tdiv (Go.IntKind.wrap .i64 ((List.length r8 : Int) + (1 : Int))) (2 : Int)))) r8))) fun r10 => if (0 : Int) ≤ (Go.IntKind.wrap .i64 (Int.tdiv (Go.IntKind.wrap .i64 ((List.length r8 : Int) + (1 : Int))) (2 : Int))) then if (Go.IntKind.wrap .i64 (Int.tdiv (Go.IntKind.wrap .i64 ((List.length r8 : Int) + (1 : Int))) (2 : Int))) ≤ (List.length r8 : Int) then if (List.length r8 : Int) ≤ (List.length r8 : Int) then Option.bind (zq (List.drop (Int.toNat (Go.IntKind.wrap .i64 (Int.tdiv (Go.IntKind.wrap .i64 ((List.length r8 : Int) + (1 : Int))) (2 : Int)))) (List.take (Int.toNat (List.length r8 : Int)) r8))) fun r11 => Option.bind (zW (r6.1, r6.2, r5, (1 : Int), ([(zl x.1 r5), r9] : List ye), ([r10, r11] : List y8))) fun r12 => Option.bind (Zk r12) fun r13 => Option.bind (Yb r13) fun r14 => bif (!r14) then Option.bind (zv (x.1, x.2.1)) fun r15 => some (r15.1, r15.2, false) else some (r13.1, r13.2, true) else none else none else none else none else none else none else none else none else none else none else none else none else Option.bind (bif (decide (r5 > (0 : Int))) then Option.bind (yN r7.1) fun r17 => some ((List.length r17 : Int) == (0 : Int)) else some false) fun u16 => bif u16 then Option.bind (zW (r6.1, r6.2, r5, (1 : Int), ([] : List ye), ([] : List y8))) fun r18 => Option.bind (Zk r18) fun r19 => Option.bind (Yb r19) fun r20 => bif (!r20) then Option.bind (zv (x.1, x.2.1)) fun r21 => some (r21.1, r21.2, false) else some (r19.1, r19.2, true) else if (0 : Int) ≤ r5 then if r5 < (List.length r6.2 : Int) then Option.bind (Zk (r6.1, (List.set r6.2 (Int.toNat r5) r7.1))) fun r22 => Option.bind (Yb r22) fun r23 => bif (!r23) then Option.bind (zv (x.1, x.2.1)) fun r24 => some (r24.1, r24.2, false) else some (r22.1, r22.2, true) else none else none else none else none
theorem yzN : EV [ytI, yCp, yCA, yCn, yCv, yEN, yCD, yCE, yyS, yzJ, yEO] lpN 100 Tryz.f100 yrw yB2 yB4 Zx := fun x => by kernel_rfl
def yCF : QF := ⟨100, Zx, okN (n := 0) Tryz.func100 trivial yzN⟩
def Jz (x : yn9) : Option (List yb) :=
 Option.bind (Yk x.1) fun r1 => Option.bind (jQ x.1) fun r2 => Option.bind (bif (!r2) then some true else Option.bind (yM (x.2, (0 : Int), (23 : Int))) fun r4 => some (!r4)) fun u3 => Option.bind (bif u3 then some true else if (0 : Int) ≤ x.2 then if x.2 < (List.length x.1 : Int) then some (!((yA x.1 x.2).2.1)) else none else none) fun u5 => bif u5 then some r1 else if (0 : Int) ≤ x.2 then if x.2 < (List.length x.1 : Int) then if (0 : Int) ≤ x.2 then if x.2 < (List.length r1 : Int) then some (List.set r1 (Int.toNat x.2) ((Int.tmod (Go.IntKind.wrap .i64 ((yA x.1 x.2).1 + (1 : Int))) (1000 : Int)), false, (0 : Int))) else none else none else none else none
theorem yzO : EV [q92, yCr, yCC] lpN 101 Tryz.f101 yrx yna [(.sl 113 yf)] Jz := fun x => by kernel_rfl
def yEP : QF := ⟨101, Jz, okN (n := 0) Tryz.func101 trivial yzO⟩
def zX (x : yjL) : Option ygj :=
 Option.bind (JW (x.1, x.2.1, x.2.2.2.2.2.2.1, x.2.2.2.2.2.2.2.1)) fun r1 => Option.bind (Zx (x.1, x.2.1, x.2.2.2.2.2.2)) fun r2 => Option.bind (bif r2.2.2 then some r1.2.2.2.2.2 else some false) fun u3 => Option.bind (bif u3 then some (r1.2.2.1 == (1 : Int)) else some false) fun u4 => bif u4 then Option.bind (Jz (x.2.2.2.1, r1.2.2.2.1)) fun r5 => some (r2.2.2, r2.1, r2.2.1, x.2.2.1, r5, x.2.2.2.2.1, x.2.2.2.2.2.1) else some (r2.2.2, r2.1, r2.2.1, x.2.2.1, x.2.2.2.1, x.2.2.2.2.1, x.2.2.2.2.2.1)
theorem yzP : EV [yCF, yEP, yCx] lpN 126 Tryz.f126 yry yjM ynb zX := fun x => by kernel_rfl
def yEQ : QF := ⟨126, zX, okN (n := 0) Tryz.func126 trivial yzP⟩
abbrev V7 : Type := yoX
def ki (k0 : ywf → Option R) (again : V7 → Option R) (t6 : V7) : Option R :=
 bif (decide (t6.2.2.2.2.1 < t6.2.2.2.1)) then if (0 : Int) ≤ t6.2.2.2.2.1 then if t6.2.2.2.2.1 < (List.length t6.2.2.2.2.2 : Int) then bif ((yC t6.2.2.2.2.2 t6.2.2.2.2.1).2 == t6.2.1) then if (0 : Int) ≤ t6.2.2.1 then if t6.2.2.1 < (List.length t6.1 : Int) then if (0 : Int) ≤ t6.2.2.2.2.1 then if t6.2.2.2.2.1 < (List.length t6.2.2.2.2.2 : Int) then again (t6.1, t6.2.1, t6.2.2.1, t6.2.2.2.1, (Go.IntKind.wrap .i64 (t6.2.2.2.2.1 + (1 : Int))), (List.set t6.2.2.2.2.2 (Int.toNat t6.2.2.2.2.1) ((yC t6.2.2.2.2.2 t6.2.2.2.2.1).1, (yC t6.1 t6.2.2.1).2))) else none else none else none else none else again (t6.1, t6.2.1, t6.2.2.1, t6.2.2.2.1, (Go.IntKind.wrap .i64 (t6.2.2.2.2.1 + (1 : Int))), t6.2.2.2.2.2) else none else none else k0 (t6.2.2.1, t6.2.2.2.2.2)
def y0k k0 := zx (@ki R k0) zO
def kj (x : yeg) : Option yn8 :=
 Option.bind (YB x) fun r1 => Option.bind (YO x.1) fun r2 => Option.bind (bif (decide (r1 < (0 : Int))) then some true else Option.bind (JU x.1) fun r4 => some (!r4)) fun u3 => bif u3 then some (r2, false) else y0k (fun x5 => Option.bind (zQ (x5.2, x5.1, (Go.IntKind.wrap .i64 (x5.1 + (1 : Int))))) fun r6 => some (r6, true)) (x.1, x.2, r1, (List.length r2 : Int), (0 : Int), r2)
def ymf : List QF := [yCq, yCB, ytU, yDd]
def y89 (t : yoX) : St := ⟨za t.1 :: vI t.2.1 :: dd 4 (vI t.2.2.1 :: .own 10000000 :: dd 15 (vI t.2.2.2.1 :: vI t.2.2.2.2.1 :: dd 24 [])), [(10000000, .root true 146 yk t.2.2.2.2.2)]⟩
def yjf : Gk V7 := fun κ => ki (fun t => κ (some 0) ⟨dd 6 (vI t.1 :: .own 10000000 :: dd 41 []), [(10000000, .root true 146 yk t.2)]⟩)
def ymg : Lp := lpC 6 (unG yoY y89) @yjf lpN
theorem yuA : LF ymf ymg 261 6 Tryz.f261 0 y89 @yjf fun t => t := fun R κ again t => by kernel_rfl
theorem yuB : LK ymf ymg 261 Tryz.f261 0 := lkN (u := (unG yoY y89)) (yp fun t => by kernel_rfl) yuA
theorem yzQ : EV ymf ymg 261 Tryz.f261 yrz yeh yvI kj := fun x => by kernel_rfl
def yER : QF := ⟨261, kj, okN (n := 1) Tryz.func261 ⟨yuB, trivial⟩ yzQ⟩
def Zl (x : ynd) : Option ygj :=
 bif (x.2.2.2.2.2.2.1 == (4 : Int)) then if (0 : Int) ≤ x.2.2.2.2.2.2.2 then if x.2.2.2.2.2.2.2 < (List.length x.2.2.1 : Int) then Option.bind (kj (x.2.2.1, (yC x.2.2.1 x.2.2.2.2.2.2.2).1)) fun r1 => some (r1.2, x.1, x.2.1, r1.1, x.2.2.2.1, x.2.2.2.2.1, x.2.2.2.2.2.1) else none else none else Option.bind (yS (x.1, x.2.1)) fun r2 => if (0 : Int) ≤ x.2.2.2.2.2.2.2 then if x.2.2.2.2.2.2.2 < (List.length r2 : Int) then bif (x.2.2.2.2.2.2.1 != (3 : Int)) then Option.bind (zX (x.1, x.2.1, x.2.2.1, x.2.2.2.1, x.2.2.2.2.1, x.2.2.2.2.2.1, (y0 r2 x.2.2.2.2.2.2.2).1, (y0 r2 x.2.2.2.2.2.2.2).2.1, (0 : Int), (0 : Int), (0 : Int))) fun r3 => some r3 else Option.bind (Zf (x.2.2.1, (y0 r2 x.2.2.2.2.2.2.2).2.1)) fun r4 => if (0 : Int) ≤ (0 : Int) then if (0 : Int) < (List.length r4 : Int) then Option.bind (Zx (x.1, x.2.1, (y0 r2 x.2.2.2.2.2.2.2).1, (y0 r2 x.2.2.2.2.2.2.2).2.1, (0 : Int), (0 : Int), (0 : Int))) fun r5 => bif (!r5.2.2) then some (false, x.1, x.2.1, x.2.2.1, x.2.2.2.1, x.2.2.2.2.1, x.2.2.2.2.2.1) else Option.bind (Zx (r5.1, r5.2.1, (y0 r2 x.2.2.2.2.2.2.2).1, (zl r4 (0 : Int)), (y0 r2 x.2.2.2.2.2.2.2).2.2.1, (y0 r2 x.2.2.2.2.2.2.2).2.2.2.1, (y0 r2 x.2.2.2.2.2.2.2).2.2.2.2)) fun r6 => some (r6.2.2, r6.1, r6.2.1, x.2.2.1, x.2.2.2.1, x.2.2.2.2.1, x.2.2.2.2.2.1) else none else none else none else none
theorem yzR : EV [q29, yCF, yEQ, yvp, yER] lpN 140 Tryz.f140 yrA yne ynb Zl := fun x => by kernel_rfl
def yES : QF := ⟨140, Zl, okN (n := 0) Tryz.func140 trivial yzR⟩
def zy (x : Qv) : Option yel :=
 Option.bind (YN x) fun r1 => Option.bind (YP x) fun r2 => bif (r1.1 == (0 : Int)) then some (r2.1, r2.2.1, r2.2.2.1, r2.2.2.2.1, r2.2.2.2.2.1, r2.2.2.2.2.2, false) else Option.bind (Zl (r2.1, r2.2.1, r2.2.2.1, r2.2.2.2.1, r2.2.2.2.2.1, r2.2.2.2.2.2, r1)) fun r3 => Option.bind (bif (!r3.1) then some true else Option.bind (Yc r3.2) fun r5 => some (!r5)) fun u4 => bif u4 then Option.bind (YP x) fun r6 => some (r6.1, r6.2.1, r6.2.2.1, r6.2.2.2.1, r6.2.2.2.2.1, r6.2.2.2.2.2, false) else some (r3.2.1, r3.2.2.1, r3.2.2.2.1, r3.2.2.2.2.1, r3.2.2.2.2.2.1, r3.2.2.2.2.2.2, true)
theorem yET : EV [q30, q32, q91, yES] lpN 34 Tryz.f34 yBG zY yem zy := fun x => by kernel_rfl
def q34 : QF := ⟨34, zy, okN (n := 0) Tryz.func34 trivial yET⟩
abbrev K4 : Type := y5k ⊕ yev
def K5 (k0 : yAk → Option R) (k1 : yb0 → Option R) (k2 : yaZ → Option R) (again : K4 → Option R) : K4 → Option R
 | .inl t3 => bif (decide (t3.1 < (1000 : Int))) then Option.bind (yI (t3.2.2.2.1, t3.2.2.2.2.1, t3.2.2.2.2.2.1, t3.2.2.2.2.2.2.1, t3.2.2.2.2.2.2.2, t3.2.2.1)) fun r2 => bif (!r2.2.2.2.2.2.2) then k0 (t3.2.2.2.1, t3.2.2.2.2.1, t3.2.2.2.2.2.1, t3.2.2.2.2.2.2.1, t3.2.2.2.2.2.2.2, t3.2.2.1, t3.2.2.2.1, t3.2.2.2.2.1, t3.2.2.2.2.2.1, t3.2.2.2.2.2.2.1, t3.2.2.2.2.2.2.2, t3.2.2.1) else again (Sum.inr ((Go.IntKind.wrap .i64 (t3.1 + (1 : Int))), t3.2.1, r2.1, r2.2.1, r2.2.2.1, r2.2.2.2.2.2.1, r2.2.2.2.1, r2.2.2.2.2.1)) else k1 t3.2
 | .inr t3 => bif (decide (t3.1 < (1000 : Int))) then Option.bind (yI (t3.2.2.1, t3.2.2.2.1, t3.2.2.2.2.1, t3.2.2.2.2.2.2.1, t3.2.2.2.2.2.2.2, t3.2.2.2.2.2.1)) fun r3 => bif (!r3.2.2.2.2.2.2) then k0 (t3.2.2.1, t3.2.2.2.1, t3.2.2.2.2.1, t3.2.2.2.2.2.2.1, t3.2.2.2.2.2.2.2, t3.2.2.2.2.2.1, t3.2.2.1, t3.2.2.2.1, t3.2.2.2.2.1, t3.2.2.2.2.2.2.1, t3.2.2.2.2.2.2.2, t3.2.2.2.2.2.1) else again (Sum.inr ((Go.IntKind.wrap .i64 (t3.1 + (1 : Int))), t3.2.1, r3.1, r3.2.1, r3.2.2.1, r3.2.2.2.2.2.1, r3.2.2.2.1, r3.2.2.2.2.1)) else k2 t3.2
def qB k0 k1 k2 := zx (@K5 R k0 k1 k2) zO
def ZZ (x : Qv) : Option Qv :=
 Option.bind (ym x) fun r1 => qB (fun x4 => some (x4.1, x4.2.1, x4.2.2.1, x4.2.2.2.1, x4.2.2.2.2.1, x4.2.2.2.2.2.1)) (fun x5 => some (x5.2.2.1, x5.2.2.2.1, x5.2.2.2.2.1, x5.2.2.2.2.2.1, x5.2.2.2.2.2.2, x5.2.1)) (fun x6 => some (x6.2.1, x6.2.2.1, x6.2.2.2.1, x6.2.2.2.2.2.1, x6.2.2.2.2.2.2, x6.2.2.2.2.1)) (Sum.inl ((0 : Int), (0 : Int), r1.2.2.2.2.2, r1.1, r1.2.1, r1.2.2.1, r1.2.2.2.1, r1.2.2.2.2.1))
def yuC : List QF := [q35, q94]
def y8a (t : y5k) : St := ⟨dd 2 (.box 2 0 :: .box 3 0 :: vI t.1 :: dd 18 []), [(2, .box [.nils, .nils, .nils, .nils, .nils, vI t.2.1]), (3, .box [.own 10000000, .own 10000001, .own 10000002, .own 10000003, .own 10000004, vI t.2.2.1]), (10000000, .root true 3 yg t.2.2.2.1), (10000001, .root true 140 yj t.2.2.2.2.1), (10000002, .root true 146 yk t.2.2.2.2.2.1), (10000003, .root true 113 yf t.2.2.2.2.2.2.1), (10000004, .root true 46 yz t.2.2.2.2.2.2.2)]⟩
theorem ymh : ∀ s t, unG ygr y8a s = some t → y8a t = s := yp fun t => by kernel_rfl
def y8b (t : yev) : St := ⟨dd 2 (.box 2 0 :: .box 3 0 :: vI t.1 :: dd 18 []), [(2, .box [.nils, .nils, .nils, .nils, .nils, vI t.2.1]), (3, .box [yU t.2.2.1, yt t.2.2.2.1, za t.2.2.2.2.1, .own 10000000, .own 10000001, vI t.2.2.2.2.2.1]), (10000000, .root true 113 yf t.2.2.2.2.2.2.1), (10000001, .root true 46 yz t.2.2.2.2.2.2.2)]⟩
theorem ymi : ∀ s t, unG yoZ y8b s = some t → y8b t = s := yp fun t => by kernel_rfl
def y8c : (y5k ⊕ yev) → St := Sum.elim y8a y8b
def ybd (s : St) : Option (y5k ⊕ yev) := ((unG ygr y8a s).map Sum.inl).or (((unG yoZ y8b) s).map Sum.inr)
theorem ymj : ∀ s t, ybd s = some t → y8c t = s := y3g ymh ymi
def yhi : Gk K4 := fun κ => K5 (fun t => κ none ⟨dd 2 (.box 2 0 :: .box 3 0 :: dd 19 []), [(2, .box [yU t.1, yt t.2.1, za t.2.2.1, yL t.2.2.2.1, zP t.2.2.2.2.1, vI t.2.2.2.2.2.1]), (3, .box [yU t.2.2.2.2.2.2.1, yt t.2.2.2.2.2.2.2.1, za t.2.2.2.2.2.2.2.2.1, yL t.2.2.2.2.2.2.2.2.2.1, zP t.2.2.2.2.2.2.2.2.2.2.1, vI t.2.2.2.2.2.2.2.2.2.2.2])]⟩) (fun t => κ (some 0) ⟨dd 2 (.box 2 0 :: .box 3 0 :: dd 19 []), [(2, .box [.nils, .nils, .nils, .nils, .nils, vI t.1]), (3, .box [.own 10000000, .own 10000001, .own 10000002, .own 10000003, .own 10000004, vI t.2.1]), (10000000, .root true 3 yg t.2.2.1), (10000001, .root true 140 yj t.2.2.2.1), (10000002, .root true 146 yk t.2.2.2.2.1), (10000003, .root true 113 yf t.2.2.2.2.2.1), (10000004, .root true 46 yz t.2.2.2.2.2.2)]⟩) (fun t => κ (some 0) ⟨dd 2 (.box 2 0 :: .box 3 0 :: dd 19 []), [(2, .box [.nils, .nils, .nils, .nils, .nils, vI t.1]), (3, .box [yU t.2.1, yt t.2.2.1, za t.2.2.2.1, .own 10000000, .own 10000001, vI t.2.2.2.2.1]), (10000000, .root true 113 yf t.2.2.2.2.2.1), (10000001, .root true 46 yz t.2.2.2.2.2.2)]⟩)
def yuD : Lp := lpC 3 ybd @yhi lpN
theorem ymk : LF yuC yuD 49 3 Tryz.f49 0 y8c @yhi fun v : y5k => .inl v := fun R κ again v => by kernel_rfl
theorem yml : LF yuC yuD 49 3 Tryz.f49 0 y8c @yhi fun v : yev => .inr v := fun R κ again v => by kernel_rfl
theorem yzS : LF yuC yuD 49 3 Tryz.f49 0 y8c @yhi fun t => t := (LC.sum ymk yml)
theorem yzT : LK yuC yuD 49 Tryz.f49 0 := lkN (u := ybd) ymj yzS
theorem yEU : EV yuC yuD 49 Tryz.f49 yBH zY zY ZZ := fun x => by kernel_rfl
def q49 : QF := ⟨49, ZZ, okN (n := 1) Tryz.func49 ⟨yzT, trivial⟩ yEU⟩
def j6 (x : List Vh) : Option Qv :=
 Option.bind (jO x) fun r1 => Option.bind (wW x) fun r2 => Option.bind (Zc (r2.1, r2.2.1, r2.2.2, (2 : Int))) fun r3 => bif r3.1 then Option.bind (ZZ r1) fun r4 => some r4 else some r1
theorem yEV : EV [q49, yCk, yxi, yvo] lpN 36 Tryz.f36 yBI [(.sl 5 Yo)] zY j6 := fun x => by kernel_rfl
def q36 : QF := ⟨36, j6, okN (n := 0) Tryz.func36 trivial yEV⟩
def Km (x : List Vh) : Option ywg :=
 Option.bind (wW x) fun r1 => Option.bind (JL (x, (14 : Int))) fun r2 => Option.bind (JT (r1.1, r1.2.1, r1.2.2, r2)) fun r3 => some (r3.2.2.2.2.2.2.1, r3.2.2.2.2.2.2.2.1, r3.2.2.2.2.2.2.2.2, r3.1, r3.2.1, r3.2.2.1, r3.2.2.2.1, r3.2.2.2.2.1, r3.2.2.2.2.2.1)
theorem yEW : EV [yxi, yC4, yCj] lpN 89 Tryz.f89 yBJ [(.sl 5 Yo)] ywh Km := fun x => by kernel_rfl
def q89 : QF := ⟨89, Km, okN (n := 0) Tryz.func89 trivial yEW⟩
def Yr (x : List Vh) : Option yjL :=
 Option.bind (Km x) fun r1 => Option.bind (yu (r1.2.2.2.1, r1.2.2.2.2.1)) fun r2 => bif (decide ((List.length r2 : Int) > (0 : Int))) then Option.bind (Zc (r1.1, r1.2.1, r1.2.2.1, (4 : Int))) fun r3 => bif (!r3.1) then Option.bind (yc (r3.2.1, r3.2.2.1, r3.2.2.2, (List.length r2 : Int))) fun r4 => if (0 : Int) ≤ r4.1 then if r4.1 < (List.length r2 : Int) then some (r1.2.2.2.1, r1.2.2.2.2.1, r1.2.2.2.2.2.1, r1.2.2.2.2.2.2.1, r1.2.2.2.2.2.2.2.1, r1.2.2.2.2.2.2.2.2, (y0 r2 r4.1).1, (y0 r2 r4.1).2.1, (y0 r2 r4.1).2.2.1, (y0 r2 r4.1).2.2.2.1, (y0 r2 r4.1).2.2.2.2) else none else none else Option.bind (Jn r3.2) fun r5 => some (r1.2.2.2.1, r1.2.2.2.2.1, r1.2.2.2.2.2.1, r1.2.2.2.2.2.2.1, r1.2.2.2.2.2.2.2.1, r1.2.2.2.2.2.2.2.2, r5.1, r5.2.1, r5.2.2.1, r5.2.2.2.1, r5.2.2.2.2.1) else Option.bind (Jn (r1.1, r1.2.1, r1.2.2.1)) fun r6 => some (r1.2.2.2.1, r1.2.2.2.2.1, r1.2.2.2.2.2.1, r1.2.2.2.2.2.2.1, r1.2.2.2.2.2.2.2.1, r1.2.2.2.2.2.2.2.2, r6.1, r6.2.1, r6.2.2.1, r6.2.2.2.1, r6.2.2.2.2.1)
theorem yEX : EV [q89, yfC, yvo, y5d, yCi] lpN 37 Tryz.f37 yBK [(.sl 5 Yo)] yjM Yr := fun x => by kernel_rfl
def q37 : QF := ⟨37, Yr, okN (n := 0) Tryz.func37 trivial yEX⟩
abbrev K6 : Type := ync
def j7 (k0 : Int → Option R) (again : K6 → Option R) (t3 : K6) : Option R :=
 bif (decide (t3.2.2.1 < t3.2.1)) then if (0 : Int) ≤ t3.2.2.1 then if t3.2.2.1 < (List.length t3.2.2.2.2.2.2.2.2.2 : Int) then Option.bind (bif ((y0 t3.2.2.2.2.2.2.2.2.2 t3.2.2.1).2.2.1 == (1 : Int)) then Option.bind (Yj (t3.2.2.2.1, t3.2.2.2.2.1, t3.2.2.2.2.2.1, t3.2.2.2.2.2.2.1, t3.2.2.2.2.2.2.2.1, t3.2.2.2.2.2.2.2.2.1, (y0 t3.2.2.2.2.2.2.2.2.2 t3.2.2.1).1, (y0 t3.2.2.2.2.2.2.2.2.2 t3.2.2.1).2.1, (y0 t3.2.2.2.2.2.2.2.2.2 t3.2.2.1).2.2.1, (y0 t3.2.2.2.2.2.2.2.2.2 t3.2.2.1).2.2.2.1, (y0 t3.2.2.2.2.2.2.2.2.2 t3.2.2.1).2.2.2.2)) fun r3 => some r3 else some false) fun u2 => bif u2 then again ((Go.IntKind.wrap .i64 (t3.1 + (1 : Int))), t3.2.1, (Go.IntKind.wrap .i64 (t3.2.2.1 + (1 : Int))), t3.2.2.2.1, t3.2.2.2.2.1, t3.2.2.2.2.2.1, t3.2.2.2.2.2.2.1, t3.2.2.2.2.2.2.2.1, t3.2.2.2.2.2.2.2.2.1, t3.2.2.2.2.2.2.2.2.2) else again (t3.1, t3.2.1, (Go.IntKind.wrap .i64 (t3.2.2.1 + (1 : Int))), t3.2.2.2.1, t3.2.2.2.2.1, t3.2.2.2.2.2.1, t3.2.2.2.2.2.2.1, t3.2.2.2.2.2.2.2.1, t3.2.2.2.2.2.2.2.2.1, t3.2.2.2.2.2.2.2.2.2) else none else none else k0 t3.1
def qC k0 := zx (@j7 R k0) zO
def j8 (x : Qv) : Option Int :=
 Option.bind (yS (x.1, x.2.1)) fun r1 => qC (fun x4 => some x4) ((0 : Int), (List.length r1 : Int), (0 : Int), x.1, x.2.1, x.2.2.1, x.2.2.2.1, x.2.2.2.2.1, x.2.2.2.2.2, r1)
def yzU : List QF := [q29, q40]
def ybe (t : ync) : St := ⟨.dead :: .box 1 0 :: .dead :: vI t.1 :: dd 4 (.own 10000000 :: vI t.2.1 :: vI t.2.2.1 :: dd 15 []), [(1, .box [yU t.2.2.2.1, yt t.2.2.2.2.1, za t.2.2.2.2.2.1, yL t.2.2.2.2.2.2.1, zP t.2.2.2.2.2.2.2.1, vI t.2.2.2.2.2.2.2.2.1]), (10000000, .root true 64 yi t.2.2.2.2.2.2.2.2.2)]⟩
def yuE : Gk K6 := fun κ => j7 (fun t => κ (some 0) ⟨dd 3 (vI t :: dd 22 []), []⟩)
def yzV : Lp := lpC 3 (unG yv8 ybe) @yuE lpN
theorem yzW : LF yzU yzV 44 3 Tryz.f44 0 ybe @yuE fun t => t := fun R κ again t => by kernel_rfl
theorem yzX : LK yzU yzV 44 Tryz.f44 0 := lkN (u := (unG yv8 ybe)) (yp fun t => by kernel_rfl) yzW
theorem yEY : EV yzU yzV 44 Tryz.f44 yBL zY [(.int .i64)] j8 := fun x => by kernel_rfl
def q44 : QF := ⟨44, j8, okN (n := 1) Tryz.func44 ⟨yzX, trivial⟩ yEY⟩
def kl (x : Qv) : Option Bool :=
 Option.bind (YN x) fun r1 => Option.bind (Yc x) fun r2 => Option.bind (bif r2 then some (r1.1 == (0 : Int)) else some false) fun u3 => Option.bind (bif u3 then Option.bind (YZ x.2.2.2.1) fun r5 => Option.bind (j8 x) fun r6 => some (r5 == r6) else some false) fun u4 => some u4
theorem yEZ : EV [q28, q30, q32, q44] lpN 38 Tryz.f38 yBM zY [.bool] kl := fun x => by kernel_rfl
def q38 : QF := ⟨38, kl, okN (n := 0) Tryz.func38 trivial yEZ⟩
abbrev K7 : Type := yfB
def j9 (k0 : Int → Option R) (again : K7 → Option R) (t4 : K7) : Option R :=
 bif (decide (t4.2.1 < (List.length t4.2.2.2.2.2.2.2.2 : Int))) then if (0 : Int) ≤ t4.2.1 then if t4.2.1 < (List.length t4.2.2.2.2.2.2.2.2 : Int) then Option.bind (bif ((y0 t4.2.2.2.2.2.2.2.2 t4.2.1).2.2.1 == (1 : Int)) then if (0 : Int) ≤ t4.2.1 then if t4.2.1 < (List.length t4.2.2.2.2.2.2.2.2 : Int) then Option.bind (Yi (t4.2.2.1, t4.2.2.2.1, t4.2.2.2.2.1, t4.2.2.2.2.2.1, t4.2.2.2.2.2.2.1, t4.2.2.2.2.2.2.2.1, (y0 t4.2.2.2.2.2.2.2.2 t4.2.1).1, (y0 t4.2.2.2.2.2.2.2.2 t4.2.1).2.1, (y0 t4.2.2.2.2.2.2.2.2 t4.2.1).2.2.1, (y0 t4.2.2.2.2.2.2.2.2 t4.2.1).2.2.2.1, (y0 t4.2.2.2.2.2.2.2.2 t4.2.1).2.2.2.2)) fun r3 => some r3 else none else none else some false) fun u2 => bif u2 then again ((Go.IntKind.wrap .i64 (t4.1 + (1 : Int))), (Go.IntKind.wrap .i64 (t4.2.1 + (1 : Int))), t4.2.2.1, t4.2.2.2.1, t4.2.2.2.2.1, t4.2.2.2.2.2.1, t4.2.2.2.2.2.2.1, t4.2.2.2.2.2.2.2.1, t4.2.2.2.2.2.2.2.2) else again (t4.1, (Go.IntKind.wrap .i64 (t4.2.1 + (1 : Int))), t4.2.2.1, t4.2.2.2.1, t4.2.2.2.2.1, t4.2.2.2.2.2.1, t4.2.2.2.2.2.2.1, t4.2.2.2.2.2.2.2.1, t4.2.2.2.2.2.2.2.2) else none else none else k0 t4.1
def qD k0 := zx (@j9 R k0) zO
def ja (x : Qv) : Option Int :=
 Option.bind (yu (x.1, x.2.1)) fun r1 => qD (fun x4 => some x4) ((0 : Int), (0 : Int), x.1, x.2.1, x.2.2.1, x.2.2.2.1, x.2.2.2.2.1, x.2.2.2.2.2, r1)
def yzY : List QF := [q41, yfC]
def ybf (t : yfB) : St := ⟨.dead :: .box 1 0 :: .dead :: vI t.1 :: .own 10000000 :: vI t.2.1 :: dd 26 [], [(1, .box [yU t.2.2.1, yt t.2.2.2.1, za t.2.2.2.2.1, yL t.2.2.2.2.2.1, zP t.2.2.2.2.2.2.1, vI t.2.2.2.2.2.2.2.1]), (10000000, .root true 64 yi t.2.2.2.2.2.2.2.2)]⟩
def yuF : Gk K7 := fun κ => j9 (fun t => κ (some 0) ⟨dd 3 (vI t :: dd 28 []), []⟩)
def yzZ : Lp := lpC 4 (unG yi0 ybf) @yuF lpN
theorem yA0 : LF yzY yzZ 45 4 Tryz.f45 0 ybf @yuF fun t => t := fun R κ again t => by kernel_rfl
theorem yA1 : LK yzY yzZ 45 Tryz.f45 0 := lkN (u := (unG yi0 ybf)) (yp fun t => by kernel_rfl) yA0
theorem yF0 : EV yzY yzZ 45 Tryz.f45 yBN zY [(.int .i64)] ja := fun x => by kernel_rfl
def q45 : QF := ⟨45, ja, okN (n := 1) Tryz.func45 ⟨yA1, trivial⟩ yF0⟩
def km (x : Qv) : Option Bool :=
 Option.bind (YK x) fun r1 => Option.bind (yH x) fun r2 => Option.bind (bif r2 then some (r1.1 == (0 : Int)) else some false) fun u3 => Option.bind (bif u3 then Option.bind (YV x.2.2.2.1) fun r5 => Option.bind (ja x) fun r6 => some (r5 == r6) else some false) fun u4 => some u4
theorem yF1 : EV [q33, q45, q95, yC2] lpN 39 Tryz.f39 yBO zY [.bool] km := fun x => by kernel_rfl
def q39 : QF := ⟨39, km, okN (n := 0) Tryz.func39 trivial yF1⟩
abbrev VL : Type := y5k ⊕ y9h
def VM (k0 : yvC → Option R) (k1 : yb0 → Option R) (k2 : yei → Option R) (again : VL → Option R) : VL → Option R
 | .inl t3 => bif (decide (t3.1 < (1000 : Int))) then Option.bind (zy (t3.2.2.2.1, t3.2.2.2.2.1, t3.2.2.2.2.2.1, t3.2.2.2.2.2.2.1, t3.2.2.2.2.2.2.2, t3.2.2.1)) fun r2 => bif (!r2.2.2.2.2.2.2) then k0 (t3.1, t3.2.2.2.1, t3.2.2.2.2.1, t3.2.2.2.2.2.1, t3.2.2.2.2.2.2.1, t3.2.2.2.2.2.2.2, t3.2.2.1, t3.2.2.2.1, t3.2.2.2.2.1, t3.2.2.2.2.2.1, t3.2.2.2.2.2.2.1, t3.2.2.2.2.2.2.2, t3.2.2.1) else again (Sum.inr ((Go.IntKind.wrap .i64 (t3.1 + (1 : Int))), t3.2.1, r2.1, r2.2.1, r2.2.2.1, r2.2.2.2.1, r2.2.2.2.2.1, r2.2.2.2.2.2.1)) else k1 t3.2
 | .inr t3 => bif (decide (t3.1 < (1000 : Int))) then Option.bind (zy t3.2.2) fun r3 => bif (!r3.2.2.2.2.2.2) then k0 (t3.1, t3.2.2.1, t3.2.2.2.1, t3.2.2.2.2.1, t3.2.2.2.2.2.1, t3.2.2.2.2.2.2.1, t3.2.2.2.2.2.2.2, t3.2.2) else again (Sum.inr ((Go.IntKind.wrap .i64 (t3.1 + (1 : Int))), t3.2.1, r3.1, r3.2.1, r3.2.2.1, r3.2.2.2.1, r3.2.2.2.2.1, r3.2.2.2.2.2.1)) else k2 t3.2
def y1b k0 k1 k2 := zx (@VM R k0 k1 k2) zO
def W3 (x : Qv) : Option yao :=
 Option.bind (YP x) fun r1 => y1b (fun x4 => some (x4.2.1, x4.2.2.1, x4.2.2.2.1, x4.2.2.2.2.1, x4.2.2.2.2.2.1, x4.2.2.2.2.2.2.1, x4.1)) (fun x5 => some (x5.2.2.1, x5.2.2.2.1, x5.2.2.2.2.1, x5.2.2.2.2.2.1, x5.2.2.2.2.2.2, x5.2.1, (1000 : Int))) (fun x6 => some (x6.2.1, x6.2.2.1, x6.2.2.2.1, x6.2.2.2.2.1, x6.2.2.2.2.2.1, x6.2.2.2.2.2.2, (1000 : Int))) (Sum.inl ((0 : Int), (0 : Int), r1.2.2.2.2.2, r1.1, r1.2.1, r1.2.2.1, r1.2.2.2.1, r1.2.2.2.2.1))
def yf4 : List QF := [q34, q91]
def y40 (t : y5k) : St := ⟨dd 2 (.box 2 0 :: .dead :: .box 4 0 :: dd 5 (vI t.1 :: dd 14 [])), [(2, .box [.nils, .nils, .nils, .nils, .nils, vI t.2.1]), (4, .box [.own 10000000, .own 10000001, .own 10000002, .own 10000003, .own 10000004, vI t.2.2.1]), (10000000, .root true 3 yg t.2.2.2.1), (10000001, .root true 140 yj t.2.2.2.2.1), (10000002, .root true 146 yk t.2.2.2.2.2.1), (10000003, .root true 113 yf t.2.2.2.2.2.2.1), (10000004, .root true 46 yz t.2.2.2.2.2.2.2)]⟩
theorem yhj : ∀ s t, unG ygr y40 s = some t → y40 t = s := yp fun t => by kernel_rfl
def y41 (t : y9h) : St := ⟨dd 2 (.box 2 0 :: .dead :: .box 4 0 :: dd 5 (vI t.1 :: dd 14 [])), [(2, .box [.nils, .nils, .nils, .nils, .nils, vI t.2.1]), (4, .box [yU t.2.2.1, yt t.2.2.2.1, za t.2.2.2.2.1, yL t.2.2.2.2.2.1, zP t.2.2.2.2.2.2.1, vI t.2.2.2.2.2.2.2])]⟩
theorem yhk : ∀ s t, unG ygl y41 s = some t → y41 t = s := yp fun t => by kernel_rfl
def y42 : (y5k ⊕ y9h) → St := Sum.elim y40 y41
def y8d (s : St) : Option (y5k ⊕ y9h) := ((unG ygr y40 s).map Sum.inl).or (((unG ygl y41) s).map Sum.inr)
theorem yhl : ∀ s t, y8d s = some t → y42 t = s := y3g yhj yhk
def yco : Gk VL := fun κ => VM (fun t => κ none ⟨dd 2 (.box 2 0 :: vI t.1 :: .box 4 0 :: dd 20 []), [(2, .box [yU t.2.1, yt t.2.2.1, za t.2.2.2.1, yL t.2.2.2.2.1, zP t.2.2.2.2.2.1, vI t.2.2.2.2.2.2.1]), (4, .box [yU t.2.2.2.2.2.2.2.1, yt t.2.2.2.2.2.2.2.2.1, za t.2.2.2.2.2.2.2.2.2.1, yL t.2.2.2.2.2.2.2.2.2.2.1, zP t.2.2.2.2.2.2.2.2.2.2.2.1, vI t.2.2.2.2.2.2.2.2.2.2.2.2])]⟩) (fun t => κ (some 0) ⟨dd 2 (.box 2 0 :: .dead :: .box 4 0 :: dd 20 []), [(2, .box [.nils, .nils, .nils, .nils, .nils, vI t.1]), (4, .box [.own 10000000, .own 10000001, .own 10000002, .own 10000003, .own 10000004, vI t.2.1]), (10000000, .root true 3 yg t.2.2.1), (10000001, .root true 140 yj t.2.2.2.1), (10000002, .root true 146 yk t.2.2.2.2.1), (10000003, .root true 113 yf t.2.2.2.2.2.1), (10000004, .root true 46 yz t.2.2.2.2.2.2)]⟩) (fun t => κ (some 0) ⟨dd 2 (.box 2 0 :: .dead :: .box 4 0 :: dd 20 []), [(2, .box [.nils, .nils, .nils, .nils, .nils, vI t.1]), (4, .box [yU t.2.1, yt t.2.2.1, za t.2.2.2.1, yL t.2.2.2.2.1, zP t.2.2.2.2.2.1, vI t.2.2.2.2.2.2])]⟩)
def yf5 : Lp := lpC 3 y8d @yco lpN
theorem yhm : LF yf4 yf5 150 3 Tryz.f150 0 y42 @yco fun v : y5k => .inl v := fun R κ again v => by kernel_rfl
theorem yhn : LF yf4 yf5 150 3 Tryz.f150 0 y42 @yco fun v : y9h => .inr v := fun R κ again v => by kernel_rfl
theorem yuG : LF yf4 yf5 150 3 Tryz.f150 0 y42 @yco fun t => t := (LC.sum yhm yhn)
theorem yuH : LK yf4 yf5 150 Tryz.f150 0 := lkN (u := y8d) yhl yuG
theorem yA2 : EV yf4 yf5 150 Tryz.f150 yrB zY yap W3 := fun x => by kernel_rfl
def yCG : QF := ⟨150, W3, okN (n := 1) Tryz.func150 ⟨yuH, trivial⟩ yA2⟩
def jF (x : Qv) : Option Int :=
 Option.bind (W3 x) fun r1 => some r1.2.2.2.2.2.2
theorem yF2 : EV [yCG] lpN 42 Tryz.f42 yBP zY [(.int .i64)] jF := fun x => by kernel_rfl
def q42 : QF := ⟨42, jF, okN (n := 0) Tryz.func42 trivial yF2⟩
abbrev kn : Type := yb0 ⊕ yaZ
def ko (k0 : Int → Option R) (k1 : Unit → Option R) (again : kn → Option R) : kn → Option R
 | .inl t3 => bif (decide (t3.1 < (1000 : Int))) then Option.bind (yI (t3.2.2.1, t3.2.2.2.1, t3.2.2.2.2.1, t3.2.2.2.2.2.1, t3.2.2.2.2.2.2, t3.2.1)) fun r2 => bif (!r2.2.2.2.2.2.2) then k0 t3.1 else again (Sum.inr ((Go.IntKind.wrap .i64 (t3.1 + (1 : Int))), r2.1, r2.2.1, r2.2.2.1, r2.2.2.2.2.2.1, r2.2.2.2.1, r2.2.2.2.2.1)) else k1 ()
 | .inr t3 => bif (decide (t3.1 < (1000 : Int))) then Option.bind (yI (t3.2.1, t3.2.2.1, t3.2.2.2.1, t3.2.2.2.2.2.1, t3.2.2.2.2.2.2, t3.2.2.2.2.1)) fun r3 => bif (!r3.2.2.2.2.2.2) then k0 t3.1 else again (Sum.inr ((Go.IntKind.wrap .i64 (t3.1 + (1 : Int))), r3.1, r3.2.1, r3.2.2.1, r3.2.2.2.2.2.1, r3.2.2.2.1, r3.2.2.2.2.1)) else k1 ()
def Vz k0 k1 := zx (@ko R k0 k1) zO
def jG (x : Qv) : Option Int :=
 Option.bind (ym x) fun r1 => Vz (fun x4 => some x4) (fun x5 => some (1000 : Int)) (Sum.inl ((0 : Int), r1.2.2.2.2.2, r1.1, r1.2.1, r1.2.2.1, r1.2.2.2.1, r1.2.2.2.2.1))
def yuI : List QF := [q35, q94]
def y8e (t : yb0) : St := ⟨dd 3 (.box 3 0 :: vI t.1 :: dd 17 []), [(3, .box [.own 10000000, .own 10000001, .own 10000002, .own 10000003, .own 10000004, vI t.2.1]), (10000000, .root true 3 yg t.2.2.1), (10000001, .root true 140 yj t.2.2.2.1), (10000002, .root true 146 yk t.2.2.2.2.1), (10000003, .root true 113 yf t.2.2.2.2.2.1), (10000004, .root true 46 yz t.2.2.2.2.2.2)]⟩
theorem ymm : ∀ s t, unG yp0 y8e s = some t → y8e t = s := yp fun t => by kernel_rfl
def y8f (t : yaZ) : St := ⟨dd 3 (.box 3 0 :: vI t.1 :: dd 17 []), [(3, .box [yU t.2.1, yt t.2.2.1, za t.2.2.2.1, .own 10000000, .own 10000001, vI t.2.2.2.2.1]), (10000000, .root true 113 yf t.2.2.2.2.2.1), (10000001, .root true 46 yz t.2.2.2.2.2.2)]⟩
theorem ymn : ∀ s t, unG ynT y8f s = some t → y8f t = s := yp fun t => by kernel_rfl
def y8g : (yb0 ⊕ yaZ) → St := Sum.elim y8e y8f
def ybg (s : St) : Option (yb0 ⊕ yaZ) := ((unG yp0 y8e s).map Sum.inl).or (((unG ynT y8f) s).map Sum.inr)
theorem ymo : ∀ s t, ybg s = some t → y8g t = s := y3g ymm ymn
def yho : Gk kn := fun κ => ko (fun t => κ none ⟨dd 2 (vI t :: dd 19 []), []⟩) (fun t => κ (some 0) ⟨dd 22 [], []⟩)
def yuJ : Lp := lpC 3 ybg @yho lpN
theorem ymp : LF yuI yuJ 43 3 Tryz.f43 0 y8g @yho fun v : yb0 => .inl v := fun R κ again v => by kernel_rfl
theorem ymq : LF yuI yuJ 43 3 Tryz.f43 0 y8g @yho fun v : yaZ => .inr v := fun R κ again v => by kernel_rfl
theorem yA3 : LF yuI yuJ 43 3 Tryz.f43 0 y8g @yho fun t => t := (LC.sum ymp ymq)
theorem yA4 : LK yuI yuJ 43 Tryz.f43 0 := lkN (u := ybg) ymo yA3
theorem yF3 : EV yuI yuJ 43 Tryz.f43 yBQ zY [(.int .i64)] jG := fun x => by kernel_rfl
def q43 : QF := ⟨43, jG, okN (n := 1) Tryz.func43 ⟨yA4, trivial⟩ yF3⟩
def JA (x : Qv) : Option Int :=
 Option.bind (yS (x.1, x.2.1)) fun r1 => some (Go.IntKind.wrap .i64 ((Go.IntKind.wrap .i64 ((List.length r1 : Int) * (Go.IntKind.wrap .i64 ((List.length x.2.2.1 : Int) + (1 : Int))))) + (List.length x.2.2.1 : Int)))
theorem yF4 : EV [q29] lpN 46 Tryz.f46 yBR zY [(.int .i64)] JA := fun x => by kernel_rfl
def q46 : QF := ⟨46, JA, okN (n := 0) Tryz.func46 trivial yF4⟩
def KE (x : Qv) : Option Int :=
 Option.bind (yu (x.1, x.2.1)) fun r1 => some (Go.IntKind.wrap .i64 ((Go.IntKind.wrap .i64 ((List.length r1 : Int) * (Go.IntKind.wrap .i64 ((List.length x.2.2.1 : Int) + (1 : Int))))) + (List.length x.2.2.1 : Int)))
theorem yF5 : EV [yfC] lpN 47 Tryz.f47 yBS zY [(.int .i64)] KE := fun x => by kernel_rfl
def q47 : QF := ⟨47, KE, okN (n := 0) Tryz.func47 trivial yF5⟩
def JB (x : Qv) : Option Qv :=
 Option.bind (W3 x) fun r1 => some (r1.1, r1.2.1, r1.2.2.1, r1.2.2.2.1, r1.2.2.2.2.1, r1.2.2.2.2.2.1)
theorem yF6 : EV [yCG] lpN 48 Tryz.f48 yBT zY zY JB := fun x => by kernel_rfl
def q48 : QF := ⟨48, JB, okN (n := 0) Tryz.func48 trivial yF6⟩
def Y7 (x : List Vh) : Option Bool :=
 Option.bind (y0J x) fun r1 => bif r1 then some true else Option.bind (YL x) fun r2 => Option.bind (YN r2) fun r3 => Option.bind (YK r2) fun r4 => Option.bind (zy r2) fun r5 => Option.bind (yI r2) fun r6 => Option.bind (j6 x) fun r7 => Option.bind (Yr x) fun r8 => Option.bind (bif (r3.1 == r4.1) then some (r3.2 == r4.2) else some false) fun u9 => Option.bind (bif u9 then some (r5.2.2.2.2.2.2 == r6.2.2.2.2.2.2) else some false) fun u10 => Option.bind (bif u10 then Option.bind (ZJ (r5.1, r5.2.1, r5.2.2.1, r5.2.2.2.1, r5.2.2.2.2.1, r5.2.2.2.2.2.1, r6.1, r6.2.1, r6.2.2.1, r6.2.2.2.1, r6.2.2.2.2.1, r6.2.2.2.2.2.1)) fun r12 => some r12 else some false) fun u11 => Option.bind (bif u11 then Option.bind (kl r7) fun r14 => Option.bind (km r7) fun r15 => some (r14 == r15) else some false) fun u13 => Option.bind (bif u13 then Option.bind (Yj r8) fun r17 => Option.bind (Yi r8) fun r18 => some (r17 == r18) else some false) fun u16 => Option.bind (bif u16 then Option.bind (jF r2) fun r20 => Option.bind (jG r2) fun r21 => some (r20 == r21) else some false) fun u19 => Option.bind (bif u19 then Option.bind (j8 r2) fun r23 => Option.bind (ja r2) fun r24 => some (r23 == r24) else some false) fun u22 => Option.bind (bif u22 then Option.bind (JA r2) fun r26 => Option.bind (KE r2) fun r27 => some (r26 == r27) else some false) fun u25 => bif u25 then Option.bind (JB r2) fun r28 => Option.bind (ZZ r2) fun r29 => Option.bind (ZJ (r28.1, r28.2.1, r28.2.2.1, r28.2.2.2.1, r28.2.2.2.2.1, r28.2.2.2.2.2, r29)) fun r30 => some r30 else some false
theorem ev5 : EV [q9, q17, q31, q32, q33, q34, q35, q36, q37, q38, q39, q40, q41, q42, q43, q44, q45, q46, q47, q48, q49] lpN 5 Tryz.f5 sg5 [(.sl 5 Yo)] [.bool] Y7 := fun x => by kernel_rfl
def q5 : QF := ⟨5, Y7, okN (n := 0) Tryz.func5 trivial ev5⟩
end
end Go.Proofs.YthgdjjdigalckaaGreat.XC
