/- What functions compute, and that they do; part 0 of Q; by a program (dec.py). No condition. -/
import Derived.Test.YtmapoakbdgpamaaGreatXQ
set_option linter.all false
namespace Go.Proofs.YtmapoakbdgpamaaGreat.XQ
open Go.Proofs.YtmapoakbdgpamaaGreat.R
set_option maxRecDepth 100000
noncomputable section
variable {R : Type}
abbrev vQ : Type := Qz0
def wL (k0 : Bool → Option R) (k1 : Unit → Option R) (again : vQ → Option R) (t4 : vQ) : Option R :=
 bif (decide (t4.2.2 < (List.length t4.1 : Int))) then if (0 : Int) ≤ t4.2.2 then if t4.2.2 < (List.length t4.1 : Int) then if (0 : Int) ≤ t4.2.2 then if t4.2.2 < (List.length t4.2.1 : Int) then bif ((zy t4.1 t4.2.2) != (zy t4.2.1 t4.2.2)) then k0 false else again (t4.1, t4.2.1, (Go.IntKind.wrap .i64 (t4.2.2 + (1 : Int)))) else none else none else none else none else k1 ()
def y07 k0 k1 := yS (@wL R k0 k1) z3
def wM (x : Qz1) : Option Bool :=
 bif ((List.length x.1 : Int) != (List.length x.2 : Int)) then some false else y07 (fun x1 => some x1) (fun x2 => some true) (x.1, x.2, (0 : Int))
def ylz : List QF := []
def y7m (t : Qz0) : St := ⟨zi t.1 :: zi t.2.1 :: dd 3 (vI t.2.2 :: dd 20 []), []⟩
def yjv : Gk vQ := fun κ => wL (fun t => κ none ⟨dd 4 (vB t :: dd 21 []), []⟩) (fun t => κ (some 0) ⟨dd 26 [], []⟩)
def ylA : Lp := lpC 4 (unG qz0 y7m) @yjv lpN
theorem ysv : LF ylz ylA 139 4 Tryz.f139 0 y7m @yjv fun t => t := fun R κ again t => by kernel_rfl
theorem ysw : LK ylz ylA 139 Tryz.f139 0 := lkN (u := (unG qz0 y7m)) (ya fun t => by kernel_rfl) ysv
theorem ywJ : EV ylz ylA 139 Tryz.f139 yqr qz1 [.bool] wM := fun x => by kernel_rfl
def yEp : QF := ⟨139, wM, okN (n := 1) Tryz.func139 ⟨ysw, trivial⟩ ywJ⟩
def VM (x : Qz2) : Option Bool :=
 bif (x.1 != x.2.2.2.2.2.1) then some false else bif (x.2.1 != x.2.2.2.2.2.2.1) then some false else bif (x.2.2.1 != x.2.2.2.2.2.2.2.1) then some false else bif (x.2.2.2.1 != x.2.2.2.2.2.2.2.2.1) then some false else bif (x.2.2.2.2.1 != x.2.2.2.2.2.2.2.2.2) then some false else some true
theorem ywK : EV [] lpN 303 Tryz.f303 yqs qz2 [.bool] VM := fun x => by kernel_rfl
def yEq : QF := ⟨303, VM, okN (n := 0) Tryz.func303 trivial ywK⟩
abbrev vR : Type := Qz3
def wN (k0 : Bool → Option R) (k1 : Unit → Option R) (again : vR → Option R) (t4 : vR) : Option R :=
 bif (decide (t4.2.2 < (List.length t4.1 : Int))) then if (0 : Int) ≤ t4.2.2 then if t4.2.2 < (List.length t4.1 : Int) then if (0 : Int) ≤ t4.2.2 then if t4.2.2 < (List.length t4.2.1 : Int) then Option.bind (VM ((y0 t4.1 t4.2.2).1, (y0 t4.1 t4.2.2).2.1, (y0 t4.1 t4.2.2).2.2.1, (y0 t4.1 t4.2.2).2.2.2.1, (y0 t4.1 t4.2.2).2.2.2.2, (y0 t4.2.1 t4.2.2).1, (y0 t4.2.1 t4.2.2).2.1, (y0 t4.2.1 t4.2.2).2.2.1, (y0 t4.2.1 t4.2.2).2.2.2.1, (y0 t4.2.1 t4.2.2).2.2.2.2)) fun r1 => bif (!r1) then k0 false else again (t4.1, t4.2.1, (Go.IntKind.wrap .i64 (t4.2.2 + (1 : Int)))) else none else none else none else none else k1 ()
def y08 k0 k1 := yS (@wN R k0 k1) z3
def Zy (x : Qz4) : Option Bool :=
 bif ((List.length x.1 : Int) != (List.length x.2 : Int)) then some false else y08 (fun x2 => some x2) (fun x3 => some true) (x.1, x.2, (0 : Int))
def ylB : List QF := [yEq]
def y7n (t : Qz3) : St := ⟨qE t.1 :: qE t.2.1 :: dd 3 (vI t.2.2 :: dd 21 []), []⟩
def yjw : Gk vR := fun κ => wN (fun t => κ none ⟨dd 4 (vB t :: dd 22 []), []⟩) (fun t => κ (some 0) ⟨dd 27 [], []⟩)
def ylC : Lp := lpC 4 (unG qz3 y7n) @yjw lpN
theorem ysx : LF ylB ylC 282 4 Tryz.f282 0 y7n @yjw fun t => t := fun R κ again t => by kernel_rfl
theorem ysy : LK ylB ylC 282 Tryz.f282 0 := lkN (u := (unG qz3 y7n)) (ya fun t => by kernel_rfl) ysx
theorem ywL : EV ylB ylC 282 Tryz.f282 yqt qz4 [.bool] Zy := fun x => by kernel_rfl
def yEr : QF := ⟨282, Zy, okN (n := 1) Tryz.func282 ⟨ysy, trivial⟩ ywL⟩
abbrev Kw : Type := Qz5
def JV (k0 : Bool → Option R) (k1 : Unit → Option R) (again : Kw → Option R) (t4 : Kw) : Option R :=
 bif (decide (t4.2.2 < (List.length t4.1 : Int))) then if (0 : Int) ≤ t4.2.2 then if t4.2.2 < (List.length t4.1 : Int) then if (0 : Int) ≤ t4.2.2 then if t4.2.2 < (List.length t4.2.1 : Int) then Option.bind (Zy ((yh t4.1 t4.2.2), (yh t4.2.1 t4.2.2))) fun r1 => bif (!r1) then k0 false else again (t4.1, t4.2.1, (Go.IntKind.wrap .i64 (t4.2.2 + (1 : Int)))) else none else none else none else none else k1 ()
def Qp k0 k1 := yS (@JV R k0 k1) z3
def Jo (x : Qz6) : Option Bool :=
 bif ((List.length x.1 : Int) != (List.length x.2 : Int)) then some false else Qp (fun x2 => some x2) (fun x3 => some true) (x.1, x.2, (0 : Int))
def ylD : List QF := [yEr]
def y7o (t : Qz5) : St := ⟨zC t.1 :: zC t.2.1 :: dd 3 (vI t.2.2 :: dd 21 []), []⟩
def yjx : Gk Kw := fun κ => JV (fun t => κ none ⟨dd 4 (vB t :: dd 22 []), []⟩) (fun t => κ (some 0) ⟨dd 27 [], []⟩)
def ylE : Lp := lpC 4 (unG qz5 y7o) @yjx lpN
theorem ysz : LF ylD ylE 253 4 Tryz.f253 0 y7o @yjx fun t => t := fun R κ again t => by kernel_rfl
theorem ysA : LK ylD ylE 253 Tryz.f253 0 := lkN (u := (unG qz5 y7o)) (ya fun t => by kernel_rfl) ysz
theorem ywM : EV ylD ylE 253 Tryz.f253 yqu qz6 [.bool] Jo := fun x => by kernel_rfl
def yEs : QF := ⟨253, Jo, okN (n := 1) Tryz.func253 ⟨ysA, trivial⟩ ywM⟩
def J8 (x : Qz6) : Option Bool :=
 Option.bind (Jo x) fun r1 => bif (!r1) then some false else some true
theorem ywN : EV [yEs] lpN 216 Tryz.f216 yqv qz6 [.bool] J8 := fun x => by kernel_rfl
def yEt : QF := ⟨216, J8, okN (n := 0) Tryz.func216 trivial ywN⟩
abbrev Kx : Type := Qz7
def JW (k0 : Bool → Option R) (k1 : Unit → Option R) (again : Kx → Option R) (t4 : Kx) : Option R :=
 bif (decide (t4.2.2 < (List.length t4.1 : Int))) then if (0 : Int) ≤ t4.2.2 then if t4.2.2 < (List.length t4.1 : Int) then if (0 : Int) ≤ t4.2.2 then if t4.2.2 < (List.length t4.2.1 : Int) then Option.bind (J8 ((ym t4.1 t4.2.2), (ym t4.2.1 t4.2.2))) fun r1 => bif (!r1) then k0 false else again (t4.1, t4.2.1, (Go.IntKind.wrap .i64 (t4.2.2 + (1 : Int)))) else none else none else none else none else k1 ()
def Qq k0 k1 := yS (@JW R k0 k1) z3
def j7 (x : Qz8) : Option Bool :=
 bif ((List.length x.1 : Int) != (List.length x.2 : Int)) then some false else Qq (fun x2 => some x2) (fun x3 => some true) (x.1, x.2, (0 : Int))
def ylF : List QF := [yEt]
def y7p (t : Qz7) : St := ⟨yC t.1 :: yC t.2.1 :: dd 3 (vI t.2.2 :: dd 21 []), []⟩
def yjy : Gk Kx := fun κ => JW (fun t => κ none ⟨dd 4 (vB t :: dd 22 []), []⟩) (fun t => κ (some 0) ⟨dd 27 [], []⟩)
def ylG : Lp := lpC 4 (unG qz7 y7p) @yjy lpN
theorem ysB : LF ylF ylG 140 4 Tryz.f140 0 y7p @yjy fun t => t := fun R κ again t => by kernel_rfl
theorem ysC : LK ylF ylG 140 Tryz.f140 0 := lkN (u := (unG qz7 y7p)) (ya fun t => by kernel_rfl) ysB
theorem ywO : EV ylF ylG 140 Tryz.f140 yqw qz8 [.bool] j7 := fun x => by kernel_rfl
def yEu : QF := ⟨140, j7, okN (n := 1) Tryz.func140 ⟨ysC, trivial⟩ ywO⟩
def vj (x : Qz9) : Option Bool :=
 Option.bind (wM (x.1, x.2.2.1)) fun r1 => bif (!r1) then some false else Option.bind (j7 (x.2.1, x.2.2.2)) fun r2 => bif (!r2) then some false else some true
theorem yEv : EV [yEp, yEu] lpN 61 Tryz.f61 yC7 qz9 [.bool] vj := fun x => by kernel_rfl
def q61 : QF := ⟨61, vj, okN (n := 0) Tryz.func61 trivial yEv⟩
def VN (x : yDo) : Option Bool :=
 bif (x.1 != x.2.2.1) then some false else bif (x.2.1 != x.2.2.2) then some false else some true
theorem ywP : EV [] lpN 141 Tryz.f141 yqx yDp [.bool] VN := fun x => by kernel_rfl
def yEw : QF := ⟨141, VN, okN (n := 0) Tryz.func141 trivial ywP⟩
abbrev vT : Type := yAP
def wO (k0 : Bool → Option R) (k1 : Unit → Option R) (again : vT → Option R) (t4 : vT) : Option R :=
 bif (decide (t4.2.2 < (List.length t4.1 : Int))) then if (0 : Int) ≤ t4.2.2 then if t4.2.2 < (List.length t4.1 : Int) then if (0 : Int) ≤ t4.2.2 then if t4.2.2 < (List.length t4.2.1 : Int) then Option.bind (VN ((z6 t4.1 t4.2.2).1, (z6 t4.1 t4.2.2).2, (z6 t4.2.1 t4.2.2).1, (z6 t4.2.1 t4.2.2).2)) fun r1 => bif (!r1) then k0 false else again (t4.1, t4.2.1, (Go.IntKind.wrap .i64 (t4.2.2 + (1 : Int)))) else none else none else none else none else k1 ()
def y09 k0 k1 := yS (@wO R k0 k1) z3
def wP (x : yDq) : Option Bool :=
 bif ((List.length x.1 : Int) != (List.length x.2 : Int)) then some false else y09 (fun x2 => some x2) (fun x3 => some true) (x.1, x.2, (0 : Int))
def ywQ : List QF := [yEw]
def ybi (t : yAP) : St := ⟨zr t.1 :: zr t.2.1 :: dd 3 (vI t.2.2 :: dd 21 []), []⟩
def ysD : Gk vT := fun κ => wO (fun t => κ none ⟨dd 4 (vB t :: dd 22 []), []⟩) (fun t => κ (some 0) ⟨dd 27 [], []⟩)
def ywR : Lp := lpC 4 (unG yAQ ybi) @ysD lpN
theorem ywS : LF ywQ ywR 62 4 Tryz.f62 0 ybi @ysD fun t => t := fun R κ again t => by kernel_rfl
theorem ywT : LK ywQ ywR 62 Tryz.f62 0 := lkN (u := (unG yAQ ybi)) (ya fun t => by kernel_rfl) ywS
theorem yEx : EV ywQ ywR 62 Tryz.f62 yC8 yDr [.bool] wP := fun x => by kernel_rfl
def q62 : QF := ⟨62, wP, okN (n := 1) Tryz.func62 ⟨ywT, trivial⟩ yEx⟩
def vk (x : yDs) : Option Bool :=
 bif (x.1 != x.2.2.2.1) then some false else bif (!(x.2.1 == x.2.2.2.2.1)) then some false else bif (x.2.2.1 != x.2.2.2.2.2) then some false else some true
theorem ywU : EV [] lpN 142 Tryz.f142 yqy yDt [.bool] vk := fun x => by kernel_rfl
def yEy : QF := ⟨142, vk, okN (n := 0) Tryz.func142 trivial ywU⟩
abbrev Ky : Type := yAR
def JX (k0 : Bool → Option R) (k1 : Unit → Option R) (again : Ky → Option R) (t4 : Ky) : Option R :=
 bif (decide (t4.2.2 < (List.length t4.1 : Int))) then if (0 : Int) ≤ t4.2.2 then if t4.2.2 < (List.length t4.1 : Int) then if (0 : Int) ≤ t4.2.2 then if t4.2.2 < (List.length t4.2.1 : Int) then Option.bind (vk ((yl t4.1 t4.2.2).1, (yl t4.1 t4.2.2).2.1, (yl t4.1 t4.2.2).2.2, (yl t4.2.1 t4.2.2).1, (yl t4.2.1 t4.2.2).2.1, (yl t4.2.1 t4.2.2).2.2)) fun r1 => bif (!r1) then k0 false else again (t4.1, t4.2.1, (Go.IntKind.wrap .i64 (t4.2.2 + (1 : Int)))) else none else none else none else none else k1 ()
def Qr k0 k1 := yS (@JX R k0 k1) z3
def Jp (x : yDu) : Option Bool :=
 bif ((List.length x.1 : Int) != (List.length x.2 : Int)) then some false else Qr (fun x2 => some x2) (fun x3 => some true) (x.1, x.2, (0 : Int))
def ywV : List QF := [yEy]
def ybj (t : yAR) : St := ⟨yU t.1 :: yU t.2.1 :: dd 3 (vI t.2.2 :: dd 21 []), []⟩
def ysE : Gk Ky := fun κ => JX (fun t => κ none ⟨dd 4 (vB t :: dd 22 []), []⟩) (fun t => κ (some 0) ⟨dd 27 [], []⟩)
def ywW : Lp := lpC 4 (unG yAS ybj) @ysE lpN
theorem ywX : LF ywV ywW 63 4 Tryz.f63 0 ybj @ysE fun t => t := fun R κ again t => by kernel_rfl
theorem ywY : LK ywV ywW 63 Tryz.f63 0 := lkN (u := (unG yAS ybj)) (ya fun t => by kernel_rfl) ywX
theorem yEz : EV ywV ywW 63 Tryz.f63 yC9 yDv [.bool] Jp := fun x => by kernel_rfl
def q63 : QF := ⟨63, Jp, okN (n := 1) Tryz.func63 ⟨ywY, trivial⟩ yEz⟩
def VO (x : yAT) : Option Bool :=
 bif (!((ByteArray.toList x.1) == (ByteArray.toList x.2.2.2.2.1))) then some false else bif (x.2.1 != x.2.2.2.2.2.1) then some false else bif (x.2.2.1 != x.2.2.2.2.2.2.1) then some false else bif (!(x.2.2.2.1 == x.2.2.2.2.2.2.2)) then some false else some true
theorem ywZ : EV [] lpN 143 Tryz.f143 yqz yAU [.bool] VO := fun x => by kernel_rfl
def yEA : QF := ⟨143, VO, okN (n := 0) Tryz.func143 trivial ywZ⟩
abbrev vU : Type := yAV
def wQ (k0 : Bool → Option R) (k1 : Unit → Option R) (again : vU → Option R) (t4 : vU) : Option R :=
 bif (decide (t4.2.2 < (List.length t4.1 : Int))) then if (0 : Int) ≤ t4.2.2 then if t4.2.2 < (List.length t4.1 : Int) then if (0 : Int) ≤ t4.2.2 then if t4.2.2 < (List.length t4.2.1 : Int) then Option.bind (VO ((yn t4.1 t4.2.2).1, (yn t4.1 t4.2.2).2.1, (yn t4.1 t4.2.2).2.2.1, (yn t4.1 t4.2.2).2.2.2, (yn t4.2.1 t4.2.2).1, (yn t4.2.1 t4.2.2).2.1, (yn t4.2.1 t4.2.2).2.2.1, (yn t4.2.1 t4.2.2).2.2.2)) fun r1 => bif (!r1) then k0 false else again (t4.1, t4.2.1, (Go.IntKind.wrap .i64 (t4.2.2 + (1 : Int)))) else none else none else none else none else k1 ()
def y0a k0 k1 := yS (@wQ R k0 k1) z3
def wR (x : yDw) : Option Bool :=
 bif ((List.length x.1 : Int) != (List.length x.2 : Int)) then some false else y0a (fun x2 => some x2) (fun x3 => some true) (x.1, x.2, (0 : Int))
def yx0 : List QF := [yEA]
def ybk (t : yAV) : St := ⟨Y4 t.1 :: Y4 t.2.1 :: dd 3 (vI t.2.2 :: dd 21 []), []⟩
def ysF : Gk vU := fun κ => wQ (fun t => κ none ⟨dd 4 (vB t :: dd 22 []), []⟩) (fun t => κ (some 0) ⟨dd 27 [], []⟩)
def yx1 : Lp := lpC 4 (unG yAW ybk) @ysF lpN
theorem yx2 : LF yx0 yx1 64 4 Tryz.f64 0 ybk @ysF fun t => t := fun R κ again t => by kernel_rfl
theorem yx3 : LK yx0 yx1 64 Tryz.f64 0 := lkN (u := (unG yAW ybk)) (ya fun t => by kernel_rfl) yx2
theorem yEB : EV yx0 yx1 64 Tryz.f64 yCa yDx [.bool] wR := fun x => by kernel_rfl
def q64 : QF := ⟨64, wR, okN (n := 1) Tryz.func64 ⟨yx3, trivial⟩ yEB⟩
def wS (x : yDy) : Option Bool :=
 Option.bind (vj (x.1, x.2.1, x.2.2.2.2.2.2.1, x.2.2.2.2.2.2.2.1)) fun r1 => bif (!r1) then some false else Option.bind (wP (x.2.2.1, x.2.2.2.2.2.2.2.2.1)) fun r2 => bif (!r2) then some false else Option.bind (Jp (x.2.2.2.1, x.2.2.2.2.2.2.2.2.2.1)) fun r3 => bif (!r3) then some false else Option.bind (wR (x.2.2.2.2.1, x.2.2.2.2.2.2.2.2.2.2.1)) fun r4 => bif (!r4) then some false else bif (x.2.2.2.2.2.1 != x.2.2.2.2.2.2.2.2.2.2.2) then some false else some true
theorem yEC : EV [q61, q62, q63, q64] lpN 15 Tryz.f15 yCb yDz [.bool] wS := fun x => by kernel_rfl
def q15 : QF := ⟨15, wS, okN (n := 0) Tryz.func15 trivial yEC⟩
abbrev Kz : Type := yAX
def KA (k0 : Bool → Option R) (k1 : Unit → Option R) (again : Kz → Option R) (t4 : Kz) : Option R :=
 bif (decide (t4.2.2 < (List.length t4.1 : Int))) then if (0 : Int) ≤ t4.2.2 then if t4.2.2 < (List.length t4.1 : Int) then if (0 : Int) ≤ t4.2.2 then if t4.2.2 < (List.length t4.2.1 : Int) then bif ((ya6 t4.1 t4.2.2) != (ya6 t4.2.1 t4.2.2)) then k0 false else again (t4.1, t4.2.1, (Go.IntKind.wrap .i64 (t4.2.2 + (1 : Int)))) else none else none else none else none else k1 ()
def Qs k0 k1 := yS (@KA R k0 k1) z3
def zs (x : yDA) : Option Bool :=
 bif ((List.length x.1 : Int) != (List.length x.2 : Int)) then some false else Qs (fun x1 => some x1) (fun x2 => some true) (x.1, x.2, (0 : Int))
def yx4 : List QF := []
def ybl (t : yAX) : St := ⟨yeJ t.1 :: yeJ t.2.1 :: dd 3 (vI t.2.2 :: dd 20 []), []⟩
def ysG : Gk Kz := fun κ => KA (fun t => κ none ⟨dd 4 (vB t :: dd 21 []), []⟩) (fun t => κ (some 0) ⟨dd 26 [], []⟩)
def yx5 : Lp := lpC 4 (unG yAY ybl) @ysG lpN
theorem yx6 : LF yx4 yx5 14 4 Tryz.f14 0 ybl @ysG fun t => t := fun R κ again t => by kernel_rfl
theorem yx7 : LK yx4 yx5 14 Tryz.f14 0 := lkN (u := (unG yAY ybl)) (ya fun t => by kernel_rfl) yx6
theorem yED : EV yx4 yx5 14 Tryz.f14 yCc yDB [.bool] zs := fun x => by kernel_rfl
def q14 : QF := ⟨14, zs, okN (n := 1) Tryz.func14 ⟨yx7, trivial⟩ yED⟩
abbrev ke : Type := yAZ
def J9 (k0 : Bool → Option R) (k1 : Unit → Option R) (again : ke → Option R) (t4 : ke) : Option R :=
 bif (decide (t4.2.2 < (List.length t4.1 : Int))) then if (0 : Int) ≤ t4.2.2 then if t4.2.2 < (List.length t4.1 : Int) then if (0 : Int) ≤ t4.2.2 then if t4.2.2 < (List.length t4.2.1 : Int) then Option.bind (zs ((zh t4.1 t4.2.2), (zh t4.2.1 t4.2.2))) fun r1 => bif (!r1) then k0 false else again (t4.1, t4.2.1, (Go.IntKind.wrap .i64 (t4.2.2 + (1 : Int)))) else none else none else none else none else k1 ()
def qF k0 k1 := yS (@J9 R k0 k1) z3
def jx (x : yDC) : Option Bool :=
 bif ((List.length x.1 : Int) != (List.length x.2 : Int)) then some false else qF (fun x2 => some x2) (fun x3 => some true) (x.1, x.2, (0 : Int))
def yx8 : List QF := [q14]
def ybm (t : yAZ) : St := ⟨Yf t.1 :: Yf t.2.1 :: dd 3 (vI t.2.2 :: dd 21 []), []⟩
def ysH : Gk ke := fun κ => J9 (fun t => κ none ⟨dd 4 (vB t :: dd 22 []), []⟩) (fun t => κ (some 0) ⟨dd 27 [], []⟩)
def yx9 : Lp := lpC 4 (unG yB0 ybm) @ysH lpN
theorem yxa : LF yx8 yx9 79 4 Tryz.f79 0 ybm @ysH fun t => t := fun R κ again t => by kernel_rfl
theorem yxb : LK yx8 yx9 79 Tryz.f79 0 := lkN (u := (unG yB0 ybm)) (ya fun t => by kernel_rfl) yxa
theorem yEE : EV yx8 yx9 79 Tryz.f79 yCd yDD [.bool] jx := fun x => by kernel_rfl
def q79 : QF := ⟨79, jx, okN (n := 1) Tryz.func79 ⟨yxb, trivial⟩ yEE⟩
def Qa (x : yDE) : Option Bool :=
 bif (x.1 != x.2.2.1) then some false else Option.bind (zs (x.2.1, x.2.2.2)) fun r1 => bif (!r1) then some false else some true
theorem yxc : EV [q14] lpN 162 Tryz.f162 yqA yDF [.bool] Qa := fun x => by kernel_rfl
def yEF : QF := ⟨162, Qa, okN (n := 0) Tryz.func162 trivial yxc⟩
abbrev qh : Type := yB1
def K7 (k0 : Bool → Option R) (k1 : Unit → Option R) (again : qh → Option R) (t4 : qh) : Option R :=
 bif (decide (t4.2.2 < (List.length t4.1 : Int))) then if (0 : Int) ≤ t4.2.2 then if t4.2.2 < (List.length t4.1 : Int) then if (0 : Int) ≤ t4.2.2 then if t4.2.2 < (List.length t4.2.1 : Int) then Option.bind (Qa ((yV t4.1 t4.2.2).1, (yV t4.1 t4.2.2).2, (yV t4.2.1 t4.2.2).1, (yV t4.2.1 t4.2.2).2)) fun r1 => bif (!r1) then k0 false else again (t4.1, t4.2.1, (Go.IntKind.wrap .i64 (t4.2.2 + (1 : Int)))) else none else none else none else none else k1 ()
def y17 k0 k1 := yS (@K7 R k0 k1) z3
def Kh (x : yDG) : Option Bool :=
 bif ((List.length x.1 : Int) != (List.length x.2 : Int)) then some false else y17 (fun x2 => some x2) (fun x3 => some true) (x.1, x.2, (0 : Int))
def yxd : List QF := [yEF]
def ybn (t : yB1) : St := ⟨y10 t.1 :: y10 t.2.1 :: dd 3 (vI t.2.2 :: dd 21 []), []⟩
def ysI : Gk qh := fun κ => K7 (fun t => κ none ⟨dd 4 (vB t :: dd 22 []), []⟩) (fun t => κ (some 0) ⟨dd 27 [], []⟩)
def yxe : Lp := lpC 4 (unG yB2 ybn) @ysI lpN
theorem yxf : LF yxd yxe 80 4 Tryz.f80 0 ybn @ysI fun t => t := fun R κ again t => by kernel_rfl
theorem yxg : LK yxd yxe 80 Tryz.f80 0 := lkN (u := (unG yB2 ybn)) (ya fun t => by kernel_rfl) yxf
theorem yEG : EV yxd yxe 80 Tryz.f80 yCe yDH [.bool] Kh := fun x => by kernel_rfl
def q80 : QF := ⟨80, Kh, okN (n := 1) Tryz.func80 ⟨yxg, trivial⟩ yEG⟩
def Ki (x : yDI) : Option Bool :=
 Option.bind (jx (x.1, x.2.2.2.2.1)) fun r1 => bif (!r1) then some false else Option.bind (Kh (x.2.1, x.2.2.2.2.2.1)) fun r2 => bif (!r2) then some false else bif (x.2.2.1 != x.2.2.2.2.2.2.1) then some false else bif (!(x.2.2.2.1 == x.2.2.2.2.2.2.2)) then some false else some true
theorem yEH : EV [q79, q80] lpN 24 Tryz.f24 yCf yDJ [.bool] Ki := fun x => by kernel_rfl
def q24 : QF := ⟨24, Ki, okN (n := 0) Tryz.func24 trivial yEH⟩
def Y9 (x : yDK) : Option Bool :=
 Option.bind (Ki (x.1, x.2.1, x.2.2.1, x.2.2.2.1, x.2.2.2.2.2.2.2.2.2.2.2.2.2.1, x.2.2.2.2.2.2.2.2.2.2.2.2.2.2.1, x.2.2.2.2.2.2.2.2.2.2.2.2.2.2.2.1, x.2.2.2.2.2.2.2.2.2.2.2.2.2.2.2.2.1)) fun r1 => bif (!r1) then some false else Option.bind (wS (x.2.2.2.2.1, x.2.2.2.2.2.1, x.2.2.2.2.2.2.1, x.2.2.2.2.2.2.2.1, x.2.2.2.2.2.2.2.2.1, x.2.2.2.2.2.2.2.2.2.1, x.2.2.2.2.2.2.2.2.2.2.2.2.2.2.2.2.2.1, x.2.2.2.2.2.2.2.2.2.2.2.2.2.2.2.2.2.2.1, x.2.2.2.2.2.2.2.2.2.2.2.2.2.2.2.2.2.2.2.1, x.2.2.2.2.2.2.2.2.2.2.2.2.2.2.2.2.2.2.2.2.1, x.2.2.2.2.2.2.2.2.2.2.2.2.2.2.2.2.2.2.2.2.2.1, x.2.2.2.2.2.2.2.2.2.2.2.2.2.2.2.2.2.2.2.2.2.2.1)) fun r2 => bif (!r2) then some false else bif (x.2.2.2.2.2.2.2.2.2.2.1 != x.2.2.2.2.2.2.2.2.2.2.2.2.2.2.2.2.2.2.2.2.2.2.2.1) then some false else bif (x.2.2.2.2.2.2.2.2.2.2.2.1 != x.2.2.2.2.2.2.2.2.2.2.2.2.2.2.2.2.2.2.2.2.2.2.2.2.1) then some false else bif (x.2.2.2.2.2.2.2.2.2.2.2.2.1 != x.2.2.2.2.2.2.2.2.2.2.2.2.2.2.2.2.2.2.2.2.2.2.2.2.2) then some false else some true
theorem yEI : EV [q15, q24] lpN 32 Tryz.f32 yCg yDL [.bool] Y9 := fun x => by kernel_rfl
def q32 : QF := ⟨32, Y9, okN (n := 0) Tryz.func32 trivial yEI⟩
abbrev kf : Type := yB3
def YL (k0 : yB5 → Option R) (again : kf → Option R) (t2 : kf) : Option R :=
 bif (decide (t2.2.1 < (List.length t2.2.2 : Int))) then if (0 : Int) ≤ t2.2.1 then if t2.2.1 < (List.length t2.2.2 : Int) then again ((Go.IntKind.wrap .i64 (t2.1 + (1 : Int))), (Go.IntKind.wrap .i64 (t2.2.1 + (1 : Int))), (List.set t2.2.2 (Int.toNat t2.2.1) t2.1)) else none else none else k0 (t2.1, t2.2.2)
def qG k0 := yS (@YL R k0) z3
def jy (x : ywg) : Option yB5 :=
 qG (fun x1 => some x1) (x.2, (0 : Int), x.1)
def ylH : List QF := []
def y7q (t : yB3) : St := ⟨.own 10000000 :: vI t.1 :: dd 3 (vI t.2.1 :: dd 13 []), [(10000000, .deep true 1 3 ye t.2.2)]⟩
def yjz : Gk kf := fun κ => YL (fun t => κ (some 0) ⟨.own 10000000 :: vI t.1 :: dd 17 [], [(10000000, .deep true 1 3 ye t.2)]⟩)
def ylI : Lp := lpC 2 (unG yB4 y7q) @yjz lpN
theorem ysJ : LF ylH ylI 144 2 Tryz.f144 0 y7q @yjz fun t => t := fun R κ again t => by kernel_rfl
theorem ysK : LK ylH ylI 144 Tryz.f144 0 := lkN (u := (unG yB4 y7q)) (ya fun t => by kernel_rfl) ysJ
theorem yxh : EV ylH ylI 144 Tryz.f144 yqB ywh yDM jy := fun x => by kernel_rfl
def yEJ : QF := ⟨144, jy, okN (n := 1) Tryz.func144 ⟨ysK, trivial⟩ yxh⟩
abbrev kg : Type := yB6
def YM (k0 : yB8 → Option R) (again : kg → Option R) (t2 : kg) : Option R :=
 bif (decide (t2.2.1 < (List.length t2.2.2 : Int))) then if (0 : Int) ≤ t2.2.1 then if t2.2.1 < (List.length t2.2.2 : Int) then if (0 : Int) ≤ t2.2.1 then if t2.2.1 < ((List.length (List.set t2.2.2 (Int.toNat t2.2.1) (t2.1, (y0 t2.2.2 t2.2.1).2)) : Nat) : Int) then if (0 : Int) ≤ t2.2.1 then if t2.2.1 < ((List.length (List.set (List.set t2.2.2 (Int.toNat t2.2.1) (t2.1, (y0 t2.2.2 t2.2.1).2)) (Int.toNat t2.2.1) ((y0 (List.set t2.2.2 (Int.toNat t2.2.1) (t2.1, (y0 t2.2.2 t2.2.1).2)) t2.2.1).1, (Go.IntKind.wrap .i64 (t2.1 + (1 : Int))), (y0 (List.set t2.2.2 (Int.toNat t2.2.1) (t2.1, (y0 t2.2.2 t2.2.1).2)) t2.2.1).2.2)) : Nat) : Int) then let l1 : List y8 := (List.set (List.set (List.set t2.2.2 (Int.toNat t2.2.1) (t2.1, (y0 t2.2.2 t2.2.1).2)) (Int.toNat t2.2.1) ((y0 (List.set t2.2.2 (Int.toNat t2.2.1) (t2.1, (y0 t2.2.2 t2.2.1).2)) t2.2.1).1, (Go.IntKind.wrap .i64 (t2.1 + (1 : Int))), (y0 (List.set t2.2.2 (Int.toNat t2.2.1) (t2.1, (y0 t2.2.2 t2.2.1).2)) t2.2.1).2.2)) (Int.toNat t2.2.1) ((y0 (List.set (List.set t2.2.2 (Int.toNat t2.2.1) (t2.1, (y0 t2.2.2 t2.2.1).2)) (Int.toNat t2.2.1) ((y0 (List.set t2.2.2 (Int.toNat t2.2.1) (t2.1, (y0 t2.2.2 t2.2.1).2)) t2.2.1).1, (Go.IntKind.wrap .i64 (t2.1 + (1 : Int))), (y0 (List.set t2.2.2 (Int.toNat t2.2.1) (t2.1, (y0 t2.2.2 t2.2.1).2)) t2.2.1).2.2)) t2.2.1).1, (y0 (List.set (List.set t2.2.2 (Int.toNat t2.2.1) (t2.1, (y0 t2.2.2 t2.2.1).2)) (Int.toNat t2.2.1) ((y0 (List.set t2.2.2 (Int.toNat t2.2.1) (t2.1, (y0 t2.2.2 t2.2.1).2)) t2.2.1).1, (Go.IntKind.wrap .i64 (t2.1 + (1 : Int))), (y0 (List.set t2.2.2 (Int.toNat t2.2.1) (t2.1, (y0 t2.2.2 t2.2.1).2)) t2.2.1).2.2)) t2.2.1).2.1, (Go.IntKind.wrap .i64 ((Go.IntKind.wrap .i64 (t2.1 + (1 : Int))) + (1 : Int))), (y0 (List.set (List.set t2.2.2 (Int.toNat t2.2.1) (t2.1, (y0 t2.2.2 t2.2.1).2)) (Int.toNat t2.2.1) ((y0 (List.set t2.2.2 (Int.toNat t2.2.1) (t2.1, (y0 t2.2.2 t2.2.1).2)) t2.2.1).1, (Go.IntKind.wrap .i64 (t2.1 + (1 : Int))), (y0 (List.set t2.2.2 (Int.toNat t2.2.1) (t2.1, (y0 t2.2.2 t2.2.1).2)) t2.2.1).2.2)) t2.2.1).2.2.2)); if (0 : Int) ≤ t2.2.1 then if t2.2.1 < (List.length l1 : Int) then if (0 : Int) ≤ t2.2.1 then if t2.2.1 < ((List.length (List.set l1 (Int.toNat t2.2.1) ((y0 l1 t2.2.1).1, (y0 l1 t2.2.1).2.1, (y0 l1 t2.2.1).2.2.1, (Go.IntKind.wrap .i64 ((Go.IntKind.wrap .i64 ((Go.IntKind.wrap .i64 (t2.1 + (1 : Int))) + (1 : Int))) + (1 : Int))), (y0 l1 t2.2.1).2.2.2.2)) : Nat) : Int) then let l2 : List y8 := (List.set (List.set l1 (Int.toNat t2.2.1) ((y0 l1 t2.2.1).1, (y0 l1 t2.2.1).2.1, (y0 l1 t2.2.1).2.2.1, (Go.IntKind.wrap .i64 ((Go.IntKind.wrap .i64 ((Go.IntKind.wrap .i64 (t2.1 + (1 : Int))) + (1 : Int))) + (1 : Int))), (y0 l1 t2.2.1).2.2.2.2)) (Int.toNat t2.2.1) ((y0 (List.set l1 (Int.toNat t2.2.1) ((y0 l1 t2.2.1).1, (y0 l1 t2.2.1).2.1, (y0 l1 t2.2.1).2.2.1, (Go.IntKind.wrap .i64 ((Go.IntKind.wrap .i64 ((Go.IntKind.wrap .i64 (t2.1 + (1 : Int))) + (1 : Int))) + (1 : Int))), (y0 l1 t2.2.1).2.2.2.2)) t2.2.1).1, (y0 (List.set l1 (Int.toNat t2.2.1) ((y0 l1 t2.2.1).1, (y0 l1 t2.2.1).2.1, (y0 l1 t2.2.1).2.2.1, (Go.IntKind.wrap .i64 ((Go.IntKind.wrap .i64 ((Go.IntKind.wrap .i64 (t2.1 + (1 : Int))) + (1 : Int))) + (1 : Int))), (y0 l1 t2.2.1).2.2.2.2)) t2.2.1).2.1, (y0 (List.set l1 (Int.toNat t2.2.1) ((y0 l1 t2.2.1).1, (y0 l1 t2.2.1).2.1, (y0 l1 t2.2.1).2.2.1, (Go.IntKind.wrap .i64 ((Go.IntKind.wrap .i64 ((Go.IntKind.wrap .i64 (t2.1 + (1 : Int))) + (1 : Int))) + (1 : Int))), (y0 l1 t2.2.1).2.2.2.2)) t2.2.1).2.2.1, (y0 (List.set l1 (Int.toNat t2.2.1) ((y0 l1 t2.2.1).1, (y0 l1 t2.2.1).2.1, (y0 l1 t2.2.1).2.2.1, (Go.IntKind.wrap .i64 ((Go.IntKind.wrap .i64 ((Go.IntKind.wrap .i64 (t2.1 + (1 : Int))) + (1 : Int))) + (1 : Int))), (y0 l1 t2.2.1).2.2.2.2)) t2.2.1).2.2.2.1, (Go.IntKind.wrap .i64 ((Go.IntKind.wrap .i64 ((Go.IntKind.wrap .i64 ((Go.IntKind.wrap .i64 (t2.1 + (1 : Int))) + (1 : Int))) + (1 : Int))) + (1 : Int))))); again ((Go.IntKind.wrap .i64 ((Go.IntKind.wrap .i64 ((Go.IntKind.wrap .i64 ((Go.IntKind.wrap .i64 ((Go.IntKind.wrap .i64 (t2.1 + (1 : Int))) + (1 : Int))) + (1 : Int))) + (1 : Int))) + (1 : Int))), (Go.IntKind.wrap .i64 (t2.2.1 + (1 : Int))), l2) else none else none else none else none else none else none else none else none else none else none else k0 (t2.1, t2.2.2)
def qH k0 := yS (@YM R k0) z3
def YN (x : ynH) : Option yB8 :=
 qH (fun x3 => some x3) (x.2, (0 : Int), x.1)
def ylJ : List QF := []
def y7r (t : yB6) : St := ⟨.own 10000000 :: vI t.1 :: dd 3 (vI t.2.1 :: dd 42 []), [(10000000, .deep true 1 106 yg t.2.2)]⟩
def yjA : Gk kg := fun κ => YM (fun t => κ (some 0) ⟨.own 10000000 :: vI t.1 :: dd 46 [], [(10000000, .deep true 1 106 yg t.2)]⟩)
def ylK : Lp := lpC 2 (unG yB7 y7r) @yjA lpN
theorem ysL : LF ylJ ylK 254 2 Tryz.f254 0 y7r @yjA fun t => t := fun R κ again t => by kernel_rfl
theorem ysM : LK ylJ ylK 254 Tryz.f254 0 := lkN (u := (unG yB7 y7r)) (ya fun t => by kernel_rfl) ysL
theorem yxi : EV ylJ ylK 254 Tryz.f254 yqC ynI yDN YN := fun x => by kernel_rfl
def yEK : QF := ⟨254, YN, okN (n := 1) Tryz.func254 ⟨ysM, trivial⟩ yxi⟩
abbrev wT : Type := yvS
def jl (k0 : yh4 → Option R) (again : wT → Option R) (t2 : wT) : Option R :=
 bif (decide (t2.2.1 < (List.length t2.2.2 : Int))) then if (0 : Int) ≤ t2.2.1 then if t2.2.1 < (List.length t2.2.2 : Int) then Option.bind (YN ((yh t2.2.2 t2.2.1), t2.1)) fun r1 => again (r1.1, (Go.IntKind.wrap .i64 (t2.2.1 + (1 : Int))), (List.set t2.2.2 (Int.toNat t2.2.1) r1.2)) else none else none else k0 (t2.1, t2.2.2)
def VP k0 := yS (@jl R k0) z3
def Yq (x : yB9) : Option yh4 :=
 VP (fun x2 => some x2) (x.2, (0 : Int), x.1)
def ylL : List QF := [yEK]
def y7s (t : yvS) : St := ⟨.own 10000000 :: vI t.1 :: dd 3 (vI t.2.1 :: dd 13 []), [(10000000, .deep true 1 100 yj t.2.2)]⟩
def yjB : Gk wT := fun κ => jl (fun t => κ (some 0) ⟨.own 10000000 :: vI t.1 :: dd 17 [], [(10000000, .deep true 1 100 yj t.2)]⟩)
def ylM : Lp := lpC 2 (unG yvT y7s) @yjB lpN
theorem ysN : LF ylL ylM 217 2 Tryz.f217 0 y7s @yjB fun t => t := fun R κ again t => by kernel_rfl
theorem ysO : LK ylL ylM 217 Tryz.f217 0 := lkN (u := (unG yvT y7s)) (ya fun t => by kernel_rfl) ysN
theorem yxj : EV ylL ylM 217 Tryz.f217 yqD yBa yo6 Yq := fun x => by kernel_rfl
def yEL : QF := ⟨217, Yq, okN (n := 1) Tryz.func217 ⟨ysO, trivial⟩ yxj⟩
abbrev wU : Type := yBb
def jm (k0 : yBd → Option R) (again : wU → Option R) (t2 : wU) : Option R :=
 bif (decide (t2.2.1 < (List.length t2.2.2 : Int))) then if (0 : Int) ≤ t2.2.1 then if t2.2.1 < (List.length t2.2.2 : Int) then Option.bind (Yq ((ym t2.2.2 t2.2.1), t2.1)) fun r1 => again (r1.1, (Go.IntKind.wrap .i64 (t2.2.1 + (1 : Int))), (List.set t2.2.2 (Int.toNat t2.2.1) r1.2)) else none else none else k0 (t2.1, t2.2.2)
def VQ k0 := yS (@jm R k0) z3
def ZJ (x : yBe) : Option yBd :=
 VQ (fun x2 => some x2) (x.2, (0 : Int), x.1)
def ylN : List QF := [yEL]
def y7t (t : yBb) : St := ⟨.own 10000000 :: vI t.1 :: dd 3 (vI t.2.1 :: dd 14 []), [(10000000, .deep true 1 98 yf t.2.2)]⟩
def yjC : Gk wU := fun κ => jm (fun t => κ (some 0) ⟨.own 10000000 :: vI t.1 :: dd 18 [], [(10000000, .deep true 1 98 yf t.2)]⟩)
def ylO : Lp := lpC 2 (unG yBc y7t) @yjC lpN
theorem ysP : LF ylN ylO 145 2 Tryz.f145 0 y7t @yjC fun t => t := fun R κ again t => by kernel_rfl
theorem ysQ : LK ylN ylO 145 Tryz.f145 0 := lkN (u := (unG yBc y7t)) (ya fun t => by kernel_rfl) ysP
theorem yxk : EV ylN ylO 145 Tryz.f145 yqE yBf yDO ZJ := fun x => by kernel_rfl
def yEM : QF := ⟨145, ZJ, okN (n := 1) Tryz.func145 ⟨ysQ, trivial⟩ yxk⟩
def wV (x : yvU) : Option ywi :=
 Option.bind (jy (x.1, x.2.2)) fun r1 => Option.bind (ZJ (x.2.1, r1.1)) fun r2 => some (r2.1, r1.2, r2.2)
theorem yEN : EV [yEJ, yEM] lpN 65 Tryz.f65 yCh yvV ywj wV := fun x => by kernel_rfl
def q65 : QF := ⟨65, wV, okN (n := 0) Tryz.func65 trivial yEN⟩
abbrev kh : Type := yBg
def YO (k0 : yBi → Option R) (again : kh → Option R) (t2 : kh) : Option R :=
 bif (decide (t2.2.1 < (List.length t2.2.2 : Int))) then if (0 : Int) ≤ t2.2.1 then if t2.2.1 < (List.length t2.2.2 : Int) then if (0 : Int) ≤ t2.2.1 then if t2.2.1 < ((List.length (List.set t2.2.2 (Int.toNat t2.2.1) (t2.1, (z6 t2.2.2 t2.2.1).2)) : Nat) : Int) then again ((Go.IntKind.wrap .i64 ((Go.IntKind.wrap .i64 (t2.1 + (1 : Int))) + (1 : Int))), (Go.IntKind.wrap .i64 (t2.2.1 + (1 : Int))), (List.set (List.set t2.2.2 (Int.toNat t2.2.1) (t2.1, (z6 t2.2.2 t2.2.1).2)) (Int.toNat t2.2.1) ((z6 (List.set t2.2.2 (Int.toNat t2.2.1) (t2.1, (z6 t2.2.2 t2.2.1).2)) t2.2.1).1, (Go.IntKind.wrap .i64 (t2.1 + (1 : Int)))))) else none else none else none else none else k0 (t2.1, t2.2.2)
def qI k0 := yS (@YO R k0) z3
def jz (x : yhL) : Option yBi :=
 qI (fun x1 => some x1) (x.2, (0 : Int), x.1)
def yxl : List QF := []
def ybo (t : yBg) : St := ⟨.own 10000000 :: vI t.1 :: dd 3 (vI t.2.1 :: dd 21 []), [(10000000, .deep true 1 89 yB t.2.2)]⟩
def ysR : Gk kh := fun κ => YO (fun t => κ (some 0) ⟨.own 10000000 :: vI t.1 :: dd 25 [], [(10000000, .deep true 1 89 yB t.2)]⟩)
def yxm : Lp := lpC 2 (unG yBh ybo) @ysR lpN
theorem yxn : LF yxl yxm 66 2 Tryz.f66 0 ybo @ysR fun t => t := fun R κ again t => by kernel_rfl
theorem yxo : LK yxl yxm 66 Tryz.f66 0 := lkN (u := (unG yBh ybo)) (ya fun t => by kernel_rfl) yxn
theorem yEO : EV yxl yxm 66 Tryz.f66 yCi yhM yDP jz := fun x => by kernel_rfl
def q66 : QF := ⟨66, jz, okN (n := 1) Tryz.func66 ⟨yxo, trivial⟩ yEO⟩
abbrev wW : Type := yBj
def YA (k0 : yBl → Option R) (again : wW → Option R) (t2 : wW) : Option R :=
 bif (decide (t2.2.1 < (List.length t2.2.2 : Int))) then if (0 : Int) ≤ t2.2.1 then if t2.2.1 < (List.length t2.2.2 : Int) then if (0 : Int) ≤ t2.2.1 then if t2.2.1 < ((List.length (List.set t2.2.2 (Int.toNat t2.2.1) (t2.1, (yl t2.2.2 t2.2.1).2)) : Nat) : Int) then if (0 : Int) ≤ t2.2.1 then if t2.2.1 < ((List.length (List.set (List.set t2.2.2 (Int.toNat t2.2.1) (t2.1, (yl t2.2.2 t2.2.1).2)) (Int.toNat t2.2.1) ((yl (List.set t2.2.2 (Int.toNat t2.2.1) (t2.1, (yl t2.2.2 t2.2.1).2)) t2.2.1).1, ((Int.tmod (Go.IntKind.wrap .i64 (t2.1 + (1 : Int))) (3 : Int)) == (0 : Int)), (yl (List.set t2.2.2 (Int.toNat t2.2.1) (t2.1, (yl t2.2.2 t2.2.1).2)) t2.2.1).2.2)) : Nat) : Int) then let l1 : List yb := (List.set (List.set (List.set t2.2.2 (Int.toNat t2.2.1) (t2.1, (yl t2.2.2 t2.2.1).2)) (Int.toNat t2.2.1) ((yl (List.set t2.2.2 (Int.toNat t2.2.1) (t2.1, (yl t2.2.2 t2.2.1).2)) t2.2.1).1, ((Int.tmod (Go.IntKind.wrap .i64 (t2.1 + (1 : Int))) (3 : Int)) == (0 : Int)), (yl (List.set t2.2.2 (Int.toNat t2.2.1) (t2.1, (yl t2.2.2 t2.2.1).2)) t2.2.1).2.2)) (Int.toNat t2.2.1) ((yl (List.set (List.set t2.2.2 (Int.toNat t2.2.1) (t2.1, (yl t2.2.2 t2.2.1).2)) (Int.toNat t2.2.1) ((yl (List.set t2.2.2 (Int.toNat t2.2.1) (t2.1, (yl t2.2.2 t2.2.1).2)) t2.2.1).1, ((Int.tmod (Go.IntKind.wrap .i64 (t2.1 + (1 : Int))) (3 : Int)) == (0 : Int)), (yl (List.set t2.2.2 (Int.toNat t2.2.1) (t2.1, (yl t2.2.2 t2.2.1).2)) t2.2.1).2.2)) t2.2.1).1, (yl (List.set (List.set t2.2.2 (Int.toNat t2.2.1) (t2.1, (yl t2.2.2 t2.2.1).2)) (Int.toNat t2.2.1) ((yl (List.set t2.2.2 (Int.toNat t2.2.1) (t2.1, (yl t2.2.2 t2.2.1).2)) t2.2.1).1, ((Int.tmod (Go.IntKind.wrap .i64 (t2.1 + (1 : Int))) (3 : Int)) == (0 : Int)), (yl (List.set t2.2.2 (Int.toNat t2.2.1) (t2.1, (yl t2.2.2 t2.2.1).2)) t2.2.1).2.2)) t2.2.1).2.1, (Go.IntKind.wrap .i64 ((Go.IntKind.wrap .i64 (t2.1 + (1 : Int))) + (1 : Int))))); again ((Go.IntKind.wrap .i64 ((Go.IntKind.wrap .i64 ((Go.IntKind.wrap .i64 (t2.1 + (1 : Int))) + (1 : Int))) + (1 : Int))), (Go.IntKind.wrap .i64 (t2.2.1 + (1 : Int))), l1) else none else none else none else none else none else none else k0 (t2.1, t2.2.2)
def VR k0 := yS (@YA R k0) z3
def ZK (x : yvW) : Option yBl :=
 VR (fun x2 => some x2) (x.2, (0 : Int), x.1)
def yxp : List QF := []
def ybp (t : yBj) : St := ⟨.own 10000000 :: vI t.1 :: dd 3 (vI t.2.1 :: dd 30 []), [(10000000, .deep true 1 95 yk t.2.2)]⟩
def ysS : Gk wW := fun κ => YA (fun t => κ (some 0) ⟨.own 10000000 :: vI t.1 :: dd 34 [], [(10000000, .deep true 1 95 yk t.2)]⟩)
def yxq : Lp := lpC 2 (unG yBk ybp) @ysS lpN
theorem yxr : LF yxp yxq 67 2 Tryz.f67 0 ybp @ysS fun t => t := fun R κ again t => by kernel_rfl
theorem yxs : LK yxp yxq 67 Tryz.f67 0 := lkN (u := (unG yBk ybp)) (ya fun t => by kernel_rfl) yxr
theorem yEP : EV yxp yxq 67 Tryz.f67 yCj yvX yDQ ZK := fun x => by kernel_rfl
def q67 : QF := ⟨67, ZK, okN (n := 1) Tryz.func67 ⟨yxs, trivial⟩ yEP⟩
abbrev ki : Type := yBm
def Ja (k0 : ByteArray → Option R) (again : ki → Option R) (t4 : ki) : Option R :=
 bif (decide (t4.1 > (0 : Int))) then if ByteArray.size (y2O ([(Go.IntKind.wrap .u8 (Go.IntKind.wrap .i64 ((48 : Int) + (Int.tmod t4.1 (10 : Int)))))] : List z0)) + ByteArray.size t4.2 < 140737488355328 then again ((Go.IntKind.wrap .i64 (Int.tdiv t4.1 (10 : Int))), (show ByteArray from (show ByteArray from (y2O ([(Go.IntKind.wrap .u8 (Go.IntKind.wrap .i64 ((48 : Int) + (Int.tmod t4.1 (10 : Int)))))] : List z0))) ++ (show ByteArray from t4.2))) else none else k0 t4.2
def qJ k0 := yS (@Ja R k0) z3
def zO (x : Int) : Option ByteArray :=
 bif (decide (x ≤ (0 : Int))) then some ({ data := #[109, 48] }) else qJ (fun x1 => if ByteArray.size ({ data := #[109] }) + ByteArray.size x1 < 140737488355328 then some (show ByteArray from (show ByteArray from { data := #[109] }) ++ (show ByteArray from x1)) else none) (x, { data := #[] })
def ylP : List QF := []
def y7u (t : yBm) : St := ⟨vI t.1 :: dd 2 (vS t.2 :: dd 16 []), []⟩
def yjD : Gk ki := fun κ => Ja (fun t => κ (some 0) ⟨dd 3 (vS t :: dd 16 []), []⟩)
def ylQ : Lp := lpC 4 (unG yBn y7u) @yjD lpN
theorem ysT : LF ylP ylQ 146 4 Tryz.f146 0 y7u @yjD fun t => t := fun R κ again t => by kernel_rfl
theorem ysU : LK ylP ylQ 146 Tryz.f146 0 := lkN (u := (unG yBn y7u)) (ya fun t => by kernel_rfl) ysT
theorem yxt : EV ylP ylQ 146 Tryz.f146 yqF [(.int .i64)] [.str] zO := fun x => by kernel_rfl
def yD7 : QF := ⟨146, zO, okN (n := 1) Tryz.func146 ⟨ysU, trivial⟩ yxt⟩
abbrev kj : Type := yBo
def YP (k0 : yBq → Option R) (again : kj → Option R) (t2 : kj) : Option R :=
 bif (decide (t2.2.1 < (List.length t2.2.2 : Int))) then Option.bind (zO t2.1) fun r1 => if (0 : Int) ≤ t2.2.1 then if t2.2.1 < (List.length t2.2.2 : Int) then if (0 : Int) ≤ t2.2.1 then if t2.2.1 < ((List.length (List.set t2.2.2 (Int.toNat t2.2.1) (r1, (yn t2.2.2 t2.2.1).2)) : Nat) : Int) then if (0 : Int) ≤ t2.2.1 then if t2.2.1 < ((List.length (List.set (List.set t2.2.2 (Int.toNat t2.2.1) (r1, (yn t2.2.2 t2.2.1).2)) (Int.toNat t2.2.1) ((yn (List.set t2.2.2 (Int.toNat t2.2.1) (r1, (yn t2.2.2 t2.2.1).2)) t2.2.1).1, (Go.IntKind.wrap .i64 (t2.1 + (1 : Int))), (yn (List.set t2.2.2 (Int.toNat t2.2.1) (r1, (yn t2.2.2 t2.2.1).2)) t2.2.1).2.2)) : Nat) : Int) then let l2 : List yA := (List.set (List.set (List.set t2.2.2 (Int.toNat t2.2.1) (r1, (yn t2.2.2 t2.2.1).2)) (Int.toNat t2.2.1) ((yn (List.set t2.2.2 (Int.toNat t2.2.1) (r1, (yn t2.2.2 t2.2.1).2)) t2.2.1).1, (Go.IntKind.wrap .i64 (t2.1 + (1 : Int))), (yn (List.set t2.2.2 (Int.toNat t2.2.1) (r1, (yn t2.2.2 t2.2.1).2)) t2.2.1).2.2)) (Int.toNat t2.2.1) ((yn (List.set (List.set t2.2.2 (Int.toNat t2.2.1) (r1, (yn t2.2.2 t2.2.1).2)) (Int.toNat t2.2.1) ((yn (List.set t2.2.2 (Int.toNat t2.2.1) (r1, (yn t2.2.2 t2.2.1).2)) t2.2.1).1, (Go.IntKind.wrap .i64 (t2.1 + (1 : Int))), (yn (List.set t2.2.2 (Int.toNat t2.2.1) (r1, (yn t2.2.2 t2.2.1).2)) t2.2.1).2.2)) t2.2.1).1, (yn (List.set (List.set t2.2.2 (Int.toNat t2.2.1) (r1, (yn t2.2.2 t2.2.1).2)) (Int.toNat t2.2.1) ((yn (List.set t2.2.2 (Int.toNat t2.2.1) (r1, (yn t2.2.2 t2.2.1).2)) t2.2.1).1, (Go.IntKind.wrap .i64 (t2.1 + (1 : Int))), (yn (List.set t2.2.2 (Int.toNat t2.2.1) (r1, (yn t2.2.2 t2.2.1).2)) t2.2.1).2.2)) t2.2.1).2.1, (Go.IntKind.wrap .i64 ((Go.IntKind.wrap .i64 (t2.1 + (1 : Int))) + (1 : Int))), (yn (List.set (List.set t2.2.2 (Int.toNat t2.2.1) (r1, (yn t2.2.2 t2.2.1).2)) (Int.toNat t2.2.1) ((yn (List.set t2.2.2 (Int.toNat t2.2.1) (r1, (yn t2.2.2 t2.2.1).2)) t2.2.1).1, (Go.IntKind.wrap .i64 (t2.1 + (1 : Int))), (yn (List.set t2.2.2 (Int.toNat t2.2.1) (r1, (yn t2.2.2 t2.2.1).2)) t2.2.1).2.2)) t2.2.1).2.2.2)); if (0 : Int) ≤ t2.2.1 then if t2.2.1 < (List.length l2 : Int) then again ((Go.IntKind.wrap .i64 ((Go.IntKind.wrap .i64 ((Go.IntKind.wrap .i64 ((Go.IntKind.wrap .i64 (t2.1 + (1 : Int))) + (1 : Int))) + (1 : Int))) + (1 : Int))), (Go.IntKind.wrap .i64 (t2.2.1 + (1 : Int))), (List.set l2 (Int.toNat t2.2.1) ((yn l2 t2.2.1).1, (yn l2 t2.2.1).2.1, (yn l2 t2.2.1).2.2.1, ((Int.tmod (Go.IntKind.wrap .i64 ((Go.IntKind.wrap .i64 ((Go.IntKind.wrap .i64 (t2.1 + (1 : Int))) + (1 : Int))) + (1 : Int))) (3 : Int)) == (0 : Int))))) else none else none else none else none else none else none else none else none else k0 (t2.1, t2.2.2)
def qK k0 := yS (@YP R k0) z3
def jA (x : yBr) : Option yBq :=
 qK (fun x3 => some x3) (x.2, (0 : Int), x.1)
def yxu : List QF := [yD7]
def ybq (t : yBo) : St := ⟨.own 10000000 :: vI t.1 :: dd 3 (vI t.2.1 :: dd 38 []), [(10000000, .deep true 1 91 yK t.2.2)]⟩
def ysV : Gk kj := fun κ => YP (fun t => κ (some 0) ⟨.own 10000000 :: vI t.1 :: dd 42 [], [(10000000, .deep true 1 91 yK t.2)]⟩)
def yxv : Lp := lpC 2 (unG yBp ybq) @ysV lpN
theorem yxw : LF yxu yxv 68 2 Tryz.f68 0 ybq @ysV fun t => t := fun R κ again t => by kernel_rfl
theorem yxx : LK yxu yxv 68 Tryz.f68 0 := lkN (u := (unG yBp ybq)) (ya fun t => by kernel_rfl) yxw
theorem yEQ : EV yxu yxv 68 Tryz.f68 yCk yBs yDR jA := fun x => by kernel_rfl
def q68 : QF := ⟨68, jA, okN (n := 1) Tryz.func68 ⟨yxx, trivial⟩ yEQ⟩
def jB (x : yBt) : Option yDS :=
 Option.bind (wV (x.1, x.2.1, x.2.2.2.2.2.2)) fun r1 => Option.bind (jz (x.2.2.1, r1.1)) fun r2 => Option.bind (ZK (x.2.2.2.1, r2.1)) fun r3 => Option.bind (jA (x.2.2.2.2.1, r3.1)) fun r4 => some (r4.1, r1.2.1, r1.2.2, r2.2, r3.2, r4.2)
theorem yER : EV [q65, q66, q67, q68] lpN 16 Tryz.f16 yCl yBu yDT jB := fun x => by kernel_rfl
def q16 : QF := ⟨16, jB, okN (n := 0) Tryz.func16 trivial yER⟩
abbrev wX : Type := yBv
def wY (k0 : yvY → Option R) (again : wX → Option R) (t2 : wX) : Option R :=
 bif (decide (t2.2.1 < (List.length t2.2.2 : Int))) then if (0 : Int) ≤ t2.2.1 then if t2.2.1 < (List.length t2.2.2 : Int) then again ((Go.IntKind.wrap .i64 (t2.1 + (1 : Int))), (Go.IntKind.wrap .i64 (t2.2.1 + (1 : Int))), (List.set t2.2.2 (Int.toNat t2.2.1) (Go.IntKind.wrap .u8 t2.1))) else none else none else k0 (t2.1, t2.2.2)
def VS k0 := yS (@wY R k0) z3
def zz (x : yli) : Option yvY :=
 VS (fun x1 => some x1) (x.2, (0 : Int), x.1)
def yxy : List QF := []
def ybr (t : yBv) : St := ⟨.own 10000000 :: vI t.1 :: dd 3 (vI t.2.1 :: dd 14 []), [(10000000, .deep true 1 5 yu t.2.2)]⟩
def ysW : Gk wX := fun κ => wY (fun t => κ (some 0) ⟨.own 10000000 :: vI t.1 :: dd 18 [], [(10000000, .deep true 1 5 yu t.2)]⟩)
def yxz : Lp := lpC 2 (unG yBw ybr) @ysW lpN
theorem yxA : LF yxy yxz 17 2 Tryz.f17 0 ybr @ysW fun t => t := fun R κ again t => by kernel_rfl
theorem yxB : LK yxy yxz 17 Tryz.f17 0 := lkN (u := (unG yBw ybr)) (ya fun t => by kernel_rfl) yxA
theorem yES : EV yxy yxz 17 Tryz.f17 yCm ylj yju zz := fun x => by kernel_rfl
def q17 : QF := ⟨17, zz, okN (n := 1) Tryz.func17 ⟨yxB, trivial⟩ yES⟩
abbrev wl : Type := yBx
def Zz (k0 : yBz → Option R) (again : wl → Option R) (t2 : wl) : Option R :=
 bif (decide (t2.2.1 < (List.length t2.2.2 : Int))) then if (0 : Int) ≤ t2.2.1 then if t2.2.1 < (List.length t2.2.2 : Int) then Option.bind (zz ((zh t2.2.2 t2.2.1), t2.1)) fun r1 => again (r1.1, (Go.IntKind.wrap .i64 (t2.2.1 + (1 : Int))), (List.set t2.2.2 (Int.toNat t2.2.1) r1.2)) else none else none else k0 (t2.1, t2.2.2)
def vV k0 := yS (@Zz R k0) z3
def YQ (x : ywk) : Option yBz :=
 vV (fun x2 => some x2) (x.2, (0 : Int), x.1)
def yxC : List QF := [q17]
def ybs (t : yBx) : St := ⟨.own 10000000 :: vI t.1 :: dd 3 (vI t.2.1 :: dd 13 []), [(10000000, .deep true 1 32 yc t.2.2)]⟩
def ysX : Gk wl := fun κ => Zz (fun t => κ (some 0) ⟨.own 10000000 :: vI t.1 :: dd 17 [], [(10000000, .deep true 1 32 yc t.2)]⟩)
def yxD : Lp := lpC 2 (unG yBy ybs) @ysX lpN
theorem yxE : LF yxC yxD 81 2 Tryz.f81 0 ybs @ysX fun t => t := fun R κ again t => by kernel_rfl
theorem yxF : LK yxC yxD 81 Tryz.f81 0 := lkN (u := (unG yBy ybs)) (ya fun t => by kernel_rfl) yxE
theorem yET : EV yxC yxD 81 Tryz.f81 yCn ywl yDU YQ := fun x => by kernel_rfl
def q81 : QF := ⟨81, YQ, okN (n := 1) Tryz.func81 ⟨yxF, trivial⟩ yET⟩
abbrev KB : Type := yBA
def JY (k0 : yBC → Option R) (again : KB → Option R) (t2 : KB) : Option R :=
 bif (decide (t2.2.1 < (List.length t2.2.2 : Int))) then if (0 : Int) ≤ t2.2.1 then if t2.2.1 < (List.length t2.2.2 : Int) then if (0 : Int) ≤ t2.2.1 then if t2.2.1 < ((List.length (List.set t2.2.2 (Int.toNat t2.2.1) (t2.1, (yV t2.2.2 t2.2.1).2)) : Nat) : Int) then Option.bind (zz ((yV (List.set t2.2.2 (Int.toNat t2.2.1) (t2.1, (yV t2.2.2 t2.2.1).2)) t2.2.1).2, (Go.IntKind.wrap .i64 (t2.1 + (1 : Int))))) fun r1 => again (r1.1, (Go.IntKind.wrap .i64 (t2.2.1 + (1 : Int))), (List.set (List.set t2.2.2 (Int.toNat t2.2.1) (t2.1, (yV t2.2.2 t2.2.1).2)) (Int.toNat t2.2.1) ((yV (List.set t2.2.2 (Int.toNat t2.2.1) (t2.1, (yV t2.2.2 t2.2.1).2)) t2.2.1).1, r1.2))) else none else none else none else none else k0 (t2.1, t2.2.2)
def Qt k0 := yS (@JY R k0) z3
def Jq (x : yBD) : Option yBC :=
 Qt (fun x2 => some x2) (x.2, (0 : Int), x.1)
def yxG : List QF := [q17]
def ybt (t : yBA) : St := ⟨.own 10000000 :: vI t.1 :: dd 3 (vI t.2.1 :: dd 21 []), [(10000000, .deep true 1 186 z5 t.2.2)]⟩
def ysY : Gk KB := fun κ => JY (fun t => κ (some 0) ⟨.own 10000000 :: vI t.1 :: dd 25 [], [(10000000, .deep true 1 186 z5 t.2)]⟩)
def yxH : Lp := lpC 2 (unG yBB ybt) @ysY lpN
theorem yxI : LF yxG yxH 82 2 Tryz.f82 0 ybt @ysY fun t => t := fun R κ again t => by kernel_rfl
theorem yxJ : LK yxG yxH 82 Tryz.f82 0 := lkN (u := (unG yBB ybt)) (ya fun t => by kernel_rfl) yxI
theorem yEU : EV yxG yxH 82 Tryz.f82 yCo yBE yDV Jq := fun x => by kernel_rfl
def q82 : QF := ⟨82, Jq, okN (n := 1) Tryz.func82 ⟨yxJ, trivial⟩ yEU⟩
def Jr (x : yBF) : Option yDW :=
 Option.bind (YQ (x.1, x.2.2.2.2)) fun r1 => Option.bind (Jq (x.2.1, r1.1)) fun r2 => some (r2.1, r1.2, r2.2)
theorem yEV : EV [q81, q82] lpN 25 Tryz.f25 yCp yBG yDX Jr := fun x => by kernel_rfl
def q25 : QF := ⟨25, Jr, okN (n := 0) Tryz.func25 trivial yEV⟩
def Yr (x : ywm) : Option yDY :=
 Option.bind (Jr (x.1, x.2.1, x.2.2.1, x.2.2.2.1, x.2.2.2.2.2.2.2.2.2.2.2.2.2)) fun r1 => Option.bind (jB (x.2.2.2.2.1, x.2.2.2.2.2.1, x.2.2.2.2.2.2.1, x.2.2.2.2.2.2.2.1, x.2.2.2.2.2.2.2.2.1, x.2.2.2.2.2.2.2.2.2.1, r1.1)) fun r2 => some (r2.1, r1.2.1, r1.2.2, r2.2)
theorem yEW : EV [q16, q25] lpN 33 Tryz.f33 yCq ywn yDZ Yr := fun x => by kernel_rfl
def q33 : QF := ⟨33, Yr, okN (n := 0) Tryz.func33 trivial yEW⟩
abbrev kl : Type := yBH
def YR (k0 : y4Q → Option R) (k1 : Int → Option R) (again : kl → Option R) (t2 : kl) : Option R :=
 bif (decide (t2.2.2 < (List.length t2.1 : Int))) then if (0 : Int) ≤ t2.2.2 then if t2.2.2 < (List.length t2.1 : Int) then bif ((zy t2.1 t2.2.2) != t2.2.1) then k0 (t2.2.1, (-1 : Int)) else again (t2.1, (Go.IntKind.wrap .i64 (t2.2.1 + (1 : Int))), (Go.IntKind.wrap .i64 (t2.2.2 + (1 : Int)))) else none else none else k1 t2.2.1
def qL k0 k1 := yS (@YR R k0 k1) z3
def jC (x : ywg) : Option Int :=
 qL (fun x1 => some x1.2) (fun x2 => some x2) (x.1, x.2, (0 : Int))
def ylR : List QF := []
def y7v (t : yBH) : St := ⟨zi t.1 :: vI t.2.1 :: dd 3 (vI t.2.2 :: dd 15 []), []⟩
def yjE : Gk kl := fun κ => YR (fun t => κ none ⟨.dead :: vI t.1 :: dd 2 (vI t.2 :: dd 16 []), []⟩) (fun t => κ (some 0) ⟨.dead :: vI t :: dd 19 [], []⟩)
def ylS : Lp := lpC 2 (unG yBI y7v) @yjE lpN
theorem ysZ : LF ylR ylS 168 2 Tryz.f168 0 y7v @yjE fun t => t := fun R κ again t => by kernel_rfl
theorem yt0 : LK ylR ylS 168 Tryz.f168 0 := lkN (u := (unG yBI y7v)) (ya fun t => by kernel_rfl) ysZ
theorem yxK : EV ylR ylS 168 Tryz.f168 yqG ywh [(.int .i64)] jC := fun x => by kernel_rfl
def yEX : QF := ⟨168, jC, okN (n := 1) Tryz.func168 ⟨yt0, trivial⟩ yxK⟩
abbrev km : Type := yBJ
def YS (k0 : y4Q → Option R) (k1 : Int → Option R) (again : km → Option R) (t2 : km) : Option R :=
 bif (decide (t2.2.2 < (List.length t2.1 : Int))) then if (0 : Int) ≤ t2.2.2 then if t2.2.2 < (List.length t2.1 : Int) then bif ((y0 t2.1 t2.2.2).1 != t2.2.1) then k0 (t2.2.1, (-1 : Int)) else if (0 : Int) ≤ t2.2.2 then if t2.2.2 < (List.length t2.1 : Int) then bif ((y0 t2.1 t2.2.2).2.1 != (Go.IntKind.wrap .i64 (t2.2.1 + (1 : Int)))) then k0 ((Go.IntKind.wrap .i64 (t2.2.1 + (1 : Int))), (-1 : Int)) else if (0 : Int) ≤ t2.2.2 then if t2.2.2 < (List.length t2.1 : Int) then bif ((y0 t2.1 t2.2.2).2.2.1 != (Go.IntKind.wrap .i64 ((Go.IntKind.wrap .i64 (t2.2.1 + (1 : Int))) + (1 : Int)))) then k0 ((Go.IntKind.wrap .i64 ((Go.IntKind.wrap .i64 (t2.2.1 + (1 : Int))) + (1 : Int))), (-1 : Int)) else if (0 : Int) ≤ t2.2.2 then if t2.2.2 < (List.length t2.1 : Int) then bif ((y0 t2.1 t2.2.2).2.2.2.1 != (Go.IntKind.wrap .i64 ((Go.IntKind.wrap .i64 ((Go.IntKind.wrap .i64 (t2.2.1 + (1 : Int))) + (1 : Int))) + (1 : Int)))) then k0 ((Go.IntKind.wrap .i64 ((Go.IntKind.wrap .i64 ((Go.IntKind.wrap .i64 (t2.2.1 + (1 : Int))) + (1 : Int))) + (1 : Int))), (-1 : Int)) else if (0 : Int) ≤ t2.2.2 then if t2.2.2 < (List.length t2.1 : Int) then bif ((y0 t2.1 t2.2.2).2.2.2.2 != (Go.IntKind.wrap .i64 ((Go.IntKind.wrap .i64 ((Go.IntKind.wrap .i64 ((Go.IntKind.wrap .i64 (t2.2.1 + (1 : Int))) + (1 : Int))) + (1 : Int))) + (1 : Int)))) then k0 ((Go.IntKind.wrap .i64 ((Go.IntKind.wrap .i64 ((Go.IntKind.wrap .i64 ((Go.IntKind.wrap .i64 (t2.2.1 + (1 : Int))) + (1 : Int))) + (1 : Int))) + (1 : Int))), (-1 : Int)) else again (t2.1, (Go.IntKind.wrap .i64 ((Go.IntKind.wrap .i64 ((Go.IntKind.wrap .i64 ((Go.IntKind.wrap .i64 ((Go.IntKind.wrap .i64 (t2.2.1 + (1 : Int))) + (1 : Int))) + (1 : Int))) + (1 : Int))) + (1 : Int))), (Go.IntKind.wrap .i64 (t2.2.2 + (1 : Int)))) else none else none else none else none else none else none else none else none else none else none else k1 t2.2.1
def qM k0 k1 := yS (@YS R k0 k1) z3
def YT (x : ynH) : Option Int :=
 qM (fun x1 => some x1.2) (fun x2 => some x2) (x.1, x.2, (0 : Int))
def ylT : List QF := []
def y7w (t : yBJ) : St := ⟨qE t.1 :: vI t.2.1 :: dd 3 (vI t.2.2 :: dd 52 []), []⟩
def yjF : Gk km := fun κ => YS (fun t => κ none ⟨.dead :: vI t.1 :: dd 2 (vI t.2 :: dd 53 []), []⟩) (fun t => κ (some 0) ⟨.dead :: vI t :: dd 56 [], []⟩)
def ylU : Lp := lpC 2 (unG yBK y7w) @yjF lpN
theorem yt1 : LF ylT ylU 255 2 Tryz.f255 0 y7w @yjF fun t => t := fun R κ again t => by kernel_rfl
theorem yt2 : LK ylT ylU 255 Tryz.f255 0 := lkN (u := (unG yBK y7w)) (ya fun t => by kernel_rfl) yt1
theorem yxL : EV ylT ylU 255 Tryz.f255 yqH ynI [(.int .i64)] YT := fun x => by kernel_rfl
def yEY : QF := ⟨255, YT, okN (n := 1) Tryz.func255 ⟨yt2, trivial⟩ yxL⟩
abbrev wZ : Type := ylk
def jn (k0 : y4Q → Option R) (k1 : Int → Option R) (again : wZ → Option R) (t2 : wZ) : Option R :=
 bif (decide (t2.2.2 < (List.length t2.1 : Int))) then if (0 : Int) ≤ t2.2.2 then if t2.2.2 < (List.length t2.1 : Int) then Option.bind (YT ((yh t2.1 t2.2.2), t2.2.1)) fun r1 => bif (decide (r1 < (0 : Int))) then k0 (r1, (-1 : Int)) else again (t2.1, r1, (Go.IntKind.wrap .i64 (t2.2.2 + (1 : Int)))) else none else none else k1 t2.2.1
def VT k0 k1 := yS (@jn R k0 k1) z3
def Ys (x : yB9) : Option Int :=
 VT (fun x2 => some x2.2) (fun x3 => some x3) (x.1, x.2, (0 : Int))
def ylV : List QF := [yEY]
def y7x (t : ylk) : St := ⟨zC t.1 :: vI t.2.1 :: dd 3 (vI t.2.2 :: dd 15 []), []⟩
def yjG : Gk wZ := fun κ => jn (fun t => κ none ⟨.dead :: vI t.1 :: dd 2 (vI t.2 :: dd 16 []), []⟩) (fun t => κ (some 0) ⟨.dead :: vI t :: dd 19 [], []⟩)
def ylW : Lp := lpC 2 (unG yvZ y7x) @yjG lpN
theorem yt3 : LF ylV ylW 222 2 Tryz.f222 0 y7x @yjG fun t => t := fun R κ again t => by kernel_rfl
theorem yt4 : LK ylV ylW 222 Tryz.f222 0 := lkN (u := (unG yvZ y7x)) (ya fun t => by kernel_rfl) yt3
theorem yxM : EV ylV ylW 222 Tryz.f222 yqI yBa [(.int .i64)] Ys := fun x => by kernel_rfl
def yEZ : QF := ⟨222, Ys, okN (n := 1) Tryz.func222 ⟨yt4, trivial⟩ yxM⟩
abbrev W0 : Type := yBL
def jo (k0 : y4Q → Option R) (k1 : Int → Option R) (again : W0 → Option R) (t2 : W0) : Option R :=
 bif (decide (t2.2.2 < (List.length t2.1 : Int))) then if (0 : Int) ≤ t2.2.2 then if t2.2.2 < (List.length t2.1 : Int) then Option.bind (Ys ((ym t2.1 t2.2.2), t2.2.1)) fun r1 => bif (decide (r1 < (0 : Int))) then k0 (r1, (-1 : Int)) else again (t2.1, r1, (Go.IntKind.wrap .i64 (t2.2.2 + (1 : Int)))) else none else none else k1 t2.2.1
def VU k0 k1 := yS (@jo R k0 k1) z3
def ZL (x : yBe) : Option Int :=
 VU (fun x2 => some x2.2) (fun x3 => some x3) (x.1, x.2, (0 : Int))
def ylX : List QF := [yEZ]
def y7y (t : yBL) : St := ⟨yC t.1 :: vI t.2.1 :: dd 3 (vI t.2.2 :: dd 16 []), []⟩
def yjH : Gk W0 := fun κ => jo (fun t => κ none ⟨.dead :: vI t.1 :: dd 2 (vI t.2 :: dd 17 []), []⟩) (fun t => κ (some 0) ⟨.dead :: vI t :: dd 20 [], []⟩)
def ylY : Lp := lpC 2 (unG yBM y7y) @yjH lpN
theorem yt5 : LF ylX ylY 169 2 Tryz.f169 0 y7y @yjH fun t => t := fun R κ again t => by kernel_rfl
theorem yt6 : LK ylX ylY 169 Tryz.f169 0 := lkN (u := (unG yBM y7y)) (ya fun t => by kernel_rfl) yt5
theorem yxN : EV ylX ylY 169 Tryz.f169 yqJ yBf [(.int .i64)] ZL := fun x => by kernel_rfl
def yF0 : QF := ⟨169, ZL, okN (n := 1) Tryz.func169 ⟨yt6, trivial⟩ yxN⟩
def W1 (x : yvU) : Option Int :=
 Option.bind (jC (x.1, x.2.2)) fun r1 => bif (decide (r1 < (0 : Int))) then some (-1 : Int) else Option.bind (ZL (x.2.1, r1)) fun r2 => bif (decide (r2 < (0 : Int))) then some (-1 : Int) else some r2
theorem yF1 : EV [yEX, yF0] lpN 91 Tryz.f91 yCr yvV [(.int .i64)] W1 := fun x => by kernel_rfl
def q91 : QF := ⟨91, W1, okN (n := 0) Tryz.func91 trivial yF1⟩
abbrev kn : Type := yw0
def YU (k0 : y4Q → Option R) (k1 : Int → Option R) (again : kn → Option R) (t2 : kn) : Option R :=
 bif (decide (t2.2.2 < (List.length t2.1 : Int))) then if (0 : Int) ≤ t2.2.2 then if t2.2.2 < (List.length t2.1 : Int) then bif ((z6 t2.1 t2.2.2).1 != t2.2.1) then k0 (t2.2.1, (-1 : Int)) else if (0 : Int) ≤ t2.2.2 then if t2.2.2 < (List.length t2.1 : Int) then bif ((z6 t2.1 t2.2.2).2 != (Go.IntKind.wrap .i64 (t2.2.1 + (1 : Int)))) then k0 ((Go.IntKind.wrap .i64 (t2.2.1 + (1 : Int))), (-1 : Int)) else again (t2.1, (Go.IntKind.wrap .i64 ((Go.IntKind.wrap .i64 (t2.2.1 + (1 : Int))) + (1 : Int))), (Go.IntKind.wrap .i64 (t2.2.2 + (1 : Int)))) else none else none else none else none else k1 t2.2.1
def qN k0 k1 := yS (@YU R k0 k1) z3
def jD (x : yhL) : Option Int :=
 qN (fun x1 => some x1.2) (fun x2 => some x2) (x.1, x.2, (0 : Int))
def yxO : List QF := []
def ybu (t : yw0) : St := ⟨zr t.1 :: vI t.2.1 :: dd 3 (vI t.2.2 :: dd 25 []), []⟩
def yt7 : Gk kn := fun κ => YU (fun t => κ none ⟨.dead :: vI t.1 :: dd 2 (vI t.2 :: dd 26 []), []⟩) (fun t => κ (some 0) ⟨.dead :: vI t :: dd 29 [], []⟩)
def yxP : Lp := lpC 2 (unG yw1 ybu) @yt7 lpN
theorem yxQ : LF yxO yxP 92 2 Tryz.f92 0 ybu @yt7 fun t => t := fun R κ again t => by kernel_rfl
theorem yxR : LK yxO yxP 92 Tryz.f92 0 := lkN (u := (unG yw1 ybu)) (ya fun t => by kernel_rfl) yxQ
theorem yF2 : EV yxO yxP 92 Tryz.f92 yCs yhM [(.int .i64)] jD := fun x => by kernel_rfl
def q92 : QF := ⟨92, jD, okN (n := 1) Tryz.func92 ⟨yxR, trivial⟩ yF2⟩
abbrev W2 : Type := ynJ
def YB (k0 : y4Q → Option R) (k1 : Int → Option R) (again : W2 → Option R) (t2 : W2) : Option R :=
 bif (decide (t2.2.2 < (List.length t2.1 : Int))) then if (0 : Int) ≤ t2.2.2 then if t2.2.2 < (List.length t2.1 : Int) then bif ((yl t2.1 t2.2.2).1 != t2.2.1) then k0 (t2.2.1, (-1 : Int)) else if (0 : Int) ≤ t2.2.2 then if t2.2.2 < (List.length t2.1 : Int) then bif (!((yl t2.1 t2.2.2).2.1 == ((Int.tmod (Go.IntKind.wrap .i64 (t2.2.1 + (1 : Int))) (3 : Int)) == (0 : Int)))) then k0 ((Go.IntKind.wrap .i64 (t2.2.1 + (1 : Int))), (-1 : Int)) else if (0 : Int) ≤ t2.2.2 then if t2.2.2 < (List.length t2.1 : Int) then bif ((yl t2.1 t2.2.2).2.2 != (Go.IntKind.wrap .i64 ((Go.IntKind.wrap .i64 (t2.2.1 + (1 : Int))) + (1 : Int)))) then k0 ((Go.IntKind.wrap .i64 ((Go.IntKind.wrap .i64 (t2.2.1 + (1 : Int))) + (1 : Int))), (-1 : Int)) else again (t2.1, (Go.IntKind.wrap .i64 ((Go.IntKind.wrap .i64 ((Go.IntKind.wrap .i64 (t2.2.1 + (1 : Int))) + (1 : Int))) + (1 : Int))), (Go.IntKind.wrap .i64 (t2.2.2 + (1 : Int)))) else none else none else none else none else none else none else k1 t2.2.1
def VV k0 k1 := yS (@YB R k0 k1) z3
def ZM (x : yvW) : Option Int :=
 VV (fun x1 => some x1.2) (fun x2 => some x2) (x.1, x.2, (0 : Int))
def yxS : List QF := []
def ybv (t : ynJ) : St := ⟨yU t.1 :: vI t.2.1 :: dd 3 (vI t.2.2 :: dd 36 []), []⟩
def yt8 : Gk W2 := fun κ => YB (fun t => κ none ⟨.dead :: vI t.1 :: dd 2 (vI t.2 :: dd 37 []), []⟩) (fun t => κ (some 0) ⟨.dead :: vI t :: dd 40 [], []⟩)
def yxT : Lp := lpC 2 (unG ynK ybv) @yt8 lpN
theorem yxU : LF yxS yxT 93 2 Tryz.f93 0 ybv @yt8 fun t => t := fun R κ again t => by kernel_rfl
theorem yxV : LK yxS yxT 93 Tryz.f93 0 := lkN (u := (unG ynK ybv)) (ya fun t => by kernel_rfl) yxU
theorem yF3 : EV yxS yxT 93 Tryz.f93 yCt yvX [(.int .i64)] ZM := fun x => by kernel_rfl
def q93 : QF := ⟨93, ZM, okN (n := 1) Tryz.func93 ⟨yxV, trivial⟩ yF3⟩
abbrev ko : Type := yBN
def YV (k0 : y4Q → Option R) (k1 : Int → Option R) (again : ko → Option R) (t2 : ko) : Option R :=
 bif (decide (t2.2.2 < (List.length t2.1 : Int))) then if (0 : Int) ≤ t2.2.2 then if t2.2.2 < (List.length t2.1 : Int) then Option.bind (zO t2.2.1) fun r1 => bif (!((ByteArray.toList ((yn t2.1 t2.2.2).1)) == (ByteArray.toList r1))) then k0 (t2.2.1, (-1 : Int)) else if (0 : Int) ≤ t2.2.2 then if t2.2.2 < (List.length t2.1 : Int) then bif ((yn t2.1 t2.2.2).2.1 != (Go.IntKind.wrap .i64 (t2.2.1 + (1 : Int)))) then k0 ((Go.IntKind.wrap .i64 (t2.2.1 + (1 : Int))), (-1 : Int)) else if (0 : Int) ≤ t2.2.2 then if t2.2.2 < (List.length t2.1 : Int) then bif ((yn t2.1 t2.2.2).2.2.1 != (Go.IntKind.wrap .i64 ((Go.IntKind.wrap .i64 (t2.2.1 + (1 : Int))) + (1 : Int)))) then k0 ((Go.IntKind.wrap .i64 ((Go.IntKind.wrap .i64 (t2.2.1 + (1 : Int))) + (1 : Int))), (-1 : Int)) else if (0 : Int) ≤ t2.2.2 then if t2.2.2 < (List.length t2.1 : Int) then bif (!((yn t2.1 t2.2.2).2.2.2 == ((Int.tmod (Go.IntKind.wrap .i64 ((Go.IntKind.wrap .i64 ((Go.IntKind.wrap .i64 (t2.2.1 + (1 : Int))) + (1 : Int))) + (1 : Int))) (3 : Int)) == (0 : Int)))) then k0 ((Go.IntKind.wrap .i64 ((Go.IntKind.wrap .i64 ((Go.IntKind.wrap .i64 (t2.2.1 + (1 : Int))) + (1 : Int))) + (1 : Int))), (-1 : Int)) else again (t2.1, (Go.IntKind.wrap .i64 ((Go.IntKind.wrap .i64 ((Go.IntKind.wrap .i64 ((Go.IntKind.wrap .i64 (t2.2.1 + (1 : Int))) + (1 : Int))) + (1 : Int))) + (1 : Int))), (Go.IntKind.wrap .i64 (t2.2.2 + (1 : Int)))) else none else none else none else none else none else none else none else none else k1 t2.2.1
def qO k0 k1 := yS (@YV R k0 k1) z3
def jE (x : yBr) : Option Int :=
 qO (fun x2 => some x2.2) (fun x3 => some x3) (x.1, x.2, (0 : Int))
def yxW : List QF := [yD7]
def ybw (t : yBN) : St := ⟨Y4 t.1 :: vI t.2.1 :: dd 3 (vI t.2.2 :: dd 46 []), []⟩
def yt9 : Gk ko := fun κ => YV (fun t => κ none ⟨.dead :: vI t.1 :: dd 2 (vI t.2 :: dd 47 []), []⟩) (fun t => κ (some 0) ⟨.dead :: vI t :: dd 50 [], []⟩)
def yxX : Lp := lpC 2 (unG yBO ybw) @yt9 lpN
theorem yxY : LF yxW yxX 94 2 Tryz.f94 0 ybw @yt9 fun t => t := fun R κ again t => by kernel_rfl
theorem yxZ : LK yxW yxX 94 Tryz.f94 0 := lkN (u := (unG yBO ybw)) (ya fun t => by kernel_rfl) yxY
theorem yF4 : EV yxW yxX 94 Tryz.f94 yCu yBs [(.int .i64)] jE := fun x => by kernel_rfl
def q94 : QF := ⟨94, jE, okN (n := 1) Tryz.func94 ⟨yxZ, trivial⟩ yF4⟩
def jF (x : yBt) : Option Int :=
 Option.bind (W1 (x.1, x.2.1, x.2.2.2.2.2.2)) fun r1 => bif (decide (r1 < (0 : Int))) then some (-1 : Int) else Option.bind (jD (x.2.2.1, r1)) fun r2 => bif (decide (r2 < (0 : Int))) then some (-1 : Int) else Option.bind (ZM (x.2.2.2.1, r2)) fun r3 => bif (decide (r3 < (0 : Int))) then some (-1 : Int) else Option.bind (jE (x.2.2.2.2.1, r3)) fun r4 => bif (decide (r4 < (0 : Int))) then some (-1 : Int) else some r4
theorem yF5 : EV [q91, q92, q93, q94] lpN 29 Tryz.f29 yCv yBu [(.int .i64)] jF := fun x => by kernel_rfl
def q29 : QF := ⟨29, jF, okN (n := 0) Tryz.func29 trivial yF5⟩
abbrev W3 : Type := yo7
def W4 (k0 : y4Q → Option R) (k1 : Int → Option R) (again : W3 → Option R) (t2 : W3) : Option R :=
 bif (decide (t2.2.2 < (List.length t2.1 : Int))) then if (0 : Int) ≤ t2.2.2 then if t2.2.2 < (List.length t2.1 : Int) then bif ((ya6 t2.1 t2.2.2) != (Go.IntKind.wrap .u8 t2.2.1)) then k0 (t2.2.1, (-1 : Int)) else again (t2.1, (Go.IntKind.wrap .i64 (t2.2.1 + (1 : Int))), (Go.IntKind.wrap .i64 (t2.2.2 + (1 : Int)))) else none else none else k1 t2.2.1
def VW k0 k1 := yS (@W4 R k0 k1) z3
def zA (x : yli) : Option Int :=
 VW (fun x1 => some x1.2) (fun x2 => some x2) (x.1, x.2, (0 : Int))
def yy0 : List QF := []
def ybx (t : yo7) : St := ⟨yeJ t.1 :: vI t.2.1 :: dd 3 (vI t.2.2 :: dd 16 []), []⟩
def yta : Gk W3 := fun κ => W4 (fun t => κ none ⟨.dead :: vI t.1 :: dd 2 (vI t.2 :: dd 17 []), []⟩) (fun t => κ (some 0) ⟨.dead :: vI t :: dd 20 [], []⟩)
def yy1 : Lp := lpC 2 (unG yw2 ybx) @yta lpN
theorem yy2 : LF yy0 yy1 18 2 Tryz.f18 0 ybx @yta fun t => t := fun R κ again t => by kernel_rfl
theorem yy3 : LK yy0 yy1 18 Tryz.f18 0 := lkN (u := (unG yw2 ybx)) (ya fun t => by kernel_rfl) yy2
theorem yF6 : EV yy0 yy1 18 Tryz.f18 yCw ylj [(.int .i64)] zA := fun x => by kernel_rfl
def q18 : QF := ⟨18, zA, okN (n := 1) Tryz.func18 ⟨yy3, trivial⟩ yF6⟩
abbrev wm : Type := yw3
def ZA (k0 : y4Q → Option R) (k1 : Int → Option R) (again : wm → Option R) (t2 : wm) : Option R :=
 bif (decide (t2.2.2 < (List.length t2.1 : Int))) then if (0 : Int) ≤ t2.2.2 then if t2.2.2 < (List.length t2.1 : Int) then Option.bind (zA ((zh t2.1 t2.2.2), t2.2.1)) fun r1 => bif (decide (r1 < (0 : Int))) then k0 (r1, (-1 : Int)) else again (t2.1, r1, (Go.IntKind.wrap .i64 (t2.2.2 + (1 : Int)))) else none else none else k1 t2.2.1
def vW k0 k1 := yS (@ZA R k0 k1) z3
def YW (x : ywk) : Option Int :=
 vW (fun x2 => some x2.2) (fun x3 => some x3) (x.1, x.2, (0 : Int))
def ylZ : List QF := [q18]
def y7z (t : yw3) : St := ⟨Yf t.1 :: vI t.2.1 :: dd 3 (vI t.2.2 :: dd 15 []), []⟩
def yjI : Gk wm := fun κ => ZA (fun t => κ none ⟨.dead :: vI t.1 :: dd 2 (vI t.2 :: dd 16 []), []⟩) (fun t => κ (some 0) ⟨.dead :: vI t :: dd 19 [], []⟩)
def ym0 : Lp := lpC 2 (unG yw4 y7z) @yjI lpN
theorem ytb : LF ylZ ym0 174 2 Tryz.f174 0 y7z @yjI fun t => t := fun R κ again t => by kernel_rfl
theorem ytc : LK ylZ ym0 174 Tryz.f174 0 := lkN (u := (unG yw4 y7z)) (ya fun t => by kernel_rfl) ytb
theorem yy4 : EV ylZ ym0 174 Tryz.f174 yqK ywl [(.int .i64)] YW := fun x => by kernel_rfl
def yF7 : QF := ⟨174, YW, okN (n := 1) Tryz.func174 ⟨ytc, trivial⟩ yy4⟩
abbrev KC : Type := yBP
def JZ (k0 : y4Q → Option R) (k1 : Int → Option R) (again : KC → Option R) (t2 : KC) : Option R :=
 bif (decide (t2.2.2 < (List.length t2.1 : Int))) then if (0 : Int) ≤ t2.2.2 then if t2.2.2 < (List.length t2.1 : Int) then bif ((yV t2.1 t2.2.2).1 != t2.2.1) then k0 (t2.2.1, (-1 : Int)) else if (0 : Int) ≤ t2.2.2 then if t2.2.2 < (List.length t2.1 : Int) then Option.bind (zA ((yV t2.1 t2.2.2).2, (Go.IntKind.wrap .i64 (t2.2.1 + (1 : Int))))) fun r1 => bif (decide (r1 < (0 : Int))) then k0 (r1, (-1 : Int)) else again (t2.1, r1, (Go.IntKind.wrap .i64 (t2.2.2 + (1 : Int)))) else none else none else none else none else k1 t2.2.1
def Qu k0 k1 := yS (@JZ R k0 k1) z3
def Js (x : yBD) : Option Int :=
 Qu (fun x2 => some x2.2) (fun x3 => some x3) (x.1, x.2, (0 : Int))
def ym1 : List QF := [q18]
def y7A (t : yBP) : St := ⟨y10 t.1 :: vI t.2.1 :: dd 3 (vI t.2.2 :: dd 25 []), []⟩
def yjJ : Gk KC := fun κ => JZ (fun t => κ none ⟨.dead :: vI t.1 :: dd 2 (vI t.2 :: dd 26 []), []⟩) (fun t => κ (some 0) ⟨.dead :: vI t :: dd 29 [], []⟩)
def ym2 : Lp := lpC 2 (unG yBQ y7A) @yjJ lpN
theorem ytd : LF ym1 ym2 175 2 Tryz.f175 0 y7A @yjJ fun t => t := fun R κ again t => by kernel_rfl
theorem yte : LK ym1 ym2 175 Tryz.f175 0 := lkN (u := (unG yBQ y7A)) (ya fun t => by kernel_rfl) ytd
theorem yy5 : EV ym1 ym2 175 Tryz.f175 yqL yBE [(.int .i64)] Js := fun x => by kernel_rfl
def yF8 : QF := ⟨175, Js, okN (n := 1) Tryz.func175 ⟨yte, trivial⟩ yy5⟩
def Jt (x : yBF) : Option Int :=
 Option.bind (YW (x.1, x.2.2.2.2)) fun r1 => bif (decide (r1 < (0 : Int))) then some (-1 : Int) else Option.bind (Js (x.2.1, r1)) fun r2 => bif (decide (r2 < (0 : Int))) then some (-1 : Int) else some r2
theorem yF9 : EV [yF7, yF8] lpN 99 Tryz.f99 yCx yBG [(.int .i64)] Jt := fun x => by kernel_rfl
def q99 : QF := ⟨99, Jt, okN (n := 0) Tryz.func99 trivial yF9⟩
def Yt (x : ywm) : Option Int :=
 Option.bind (Jt (x.1, x.2.1, x.2.2.1, x.2.2.2.1, x.2.2.2.2.2.2.2.2.2.2.2.2.2)) fun r1 => bif (decide (r1 < (0 : Int))) then some (-1 : Int) else Option.bind (jF (x.2.2.2.2.1, x.2.2.2.2.2.1, x.2.2.2.2.2.2.1, x.2.2.2.2.2.2.2.1, x.2.2.2.2.2.2.2.2.1, x.2.2.2.2.2.2.2.2.2.1, r1)) fun r2 => bif (decide (r2 < (0 : Int))) then some (-1 : Int) else some r2
theorem yFa : EV [q29, q99] lpN 34 Tryz.f34 yCy ywn [(.int .i64)] Yt := fun x => by kernel_rfl
def q34 : QF := ⟨34, Yt, okN (n := 0) Tryz.func34 trivial yFa⟩
def vm (x : ywg) : Option Int :=
 bif (decide ((Go.IntKind.wrap .i64 (x.2 - (List.length x.1 : Int))) < (0 : Int))) then some (-1 : Int) else some (Go.IntKind.wrap .i64 (x.2 - (List.length x.1 : Int)))
theorem yy6 : EV [] lpN 117 Tryz.f117 yqM ywh [(.int .i64)] vm := fun x => by kernel_rfl
def yFb : QF := ⟨117, vm, okN (n := 0) Tryz.func117 trivial yy6⟩
def ZB (x : yE0) : Option Int :=
 bif (decide ((Go.IntKind.wrap .i64 (x.2 - (List.length x.1 : Int))) < (0 : Int))) then some (-1 : Int) else some (Go.IntKind.wrap .i64 (x.2 - (List.length x.1 : Int)))
theorem yy7 : EV [] lpN 275 Tryz.f275 yqN yE1 [(.int .i64)] ZB := fun x => by kernel_rfl
def yFc : QF := ⟨275, ZB, okN (n := 0) Tryz.func275 trivial yy7⟩
abbrev KD : Type := yBR
def zZ (k0 : y4Q → Option R) (k1 : Int → Option R) (again : KD → Option R) (t5 : KD) : Option R :=
 bif (decide (t5.2.2 < (List.length t5.1 : Int))) then if (0 : Int) ≤ t5.2.2 then if t5.2.2 < (List.length t5.1 : Int) then Option.bind (ZB ((y04 t5.1 t5.2.2), t5.2.1)) fun r1 => bif (decide (r1 < (0 : Int))) then k0 (r1, (-1 : Int)) else again (t5.1, r1, (Go.IntKind.wrap .i64 (t5.2.2 + (1 : Int)))) else none else none else k1 t5.2.1
def Qv k0 k1 := yS (@zZ R k0 k1) z3
def Ju (x : yBT) : Option Int :=
 bif (decide ((Go.IntKind.wrap .i64 (x.2 - (List.length x.1 : Int))) < (0 : Int))) then some (-1 : Int) else Qv (fun x2 => some x2.2) (fun x3 => some x3) (x.1, (Go.IntKind.wrap .i64 (x.2 - (List.length x.1 : Int))), (0 : Int))
def ym3 : List QF := [yFc]
def y7B (t : yBR) : St := ⟨ycQ t.1 :: vI t.2.1 :: dd 3 (vI t.2.2 :: dd 21 []), []⟩
def yjK : Gk KD := fun κ => zZ (fun t => κ none ⟨.dead :: vI t.1 :: dd 2 (vI t.2 :: dd 22 []), []⟩) (fun t => κ (some 0) ⟨.dead :: vI t :: dd 25 [], []⟩)
def ym4 : Lp := lpC 5 (unG yBS y7B) @yjK lpN
theorem ytf : LF ym3 ym4 243 5 Tryz.f243 0 y7B @yjK fun t => t := fun R κ again t => by kernel_rfl
theorem ytg : LK ym3 ym4 243 Tryz.f243 0 := lkN (u := (unG yBS y7B)) (ya fun t => by kernel_rfl) ytf
theorem yy8 : EV ym3 ym4 243 Tryz.f243 yqO yBU [(.int .i64)] Ju := fun x => by kernel_rfl
def yFd : QF := ⟨243, Ju, okN (n := 1) Tryz.func243 ⟨ytg, trivial⟩ yy8⟩
def YC (x : yBT) : Option Int :=
 Option.bind (Ju x) fun r1 => bif (decide (r1 < (0 : Int))) then some (-1 : Int) else some r1
theorem yy9 : EV [yFd] lpN 194 Tryz.f194 yqP yBU [(.int .i64)] YC := fun x => by kernel_rfl
def yFe : QF := ⟨194, YC, okN (n := 0) Tryz.func194 trivial yy9⟩
abbrev KE : Type := yBV
def Y0 (k0 : y4Q → Option R) (k1 : Int → Option R) (again : KE → Option R) (t5 : KE) : Option R :=
 bif (decide (t5.2.2 < (List.length t5.1 : Int))) then if (0 : Int) ≤ t5.2.2 then if t5.2.2 < (List.length t5.1 : Int) then Option.bind (YC ((y21 t5.1 t5.2.2), t5.2.1)) fun r1 => bif (decide (r1 < (0 : Int))) then k0 (r1, (-1 : Int)) else again (t5.1, r1, (Go.IntKind.wrap .i64 (t5.2.2 + (1 : Int)))) else none else none else k1 t5.2.1
def Qw k0 k1 := yS (@Y0 R k0 k1) z3
def j8 (x : yE2) : Option Int :=
 bif (decide ((Go.IntKind.wrap .i64 (x.2 - (List.length x.1 : Int))) < (0 : Int))) then some (-1 : Int) else Qw (fun x2 => some x2.2) (fun x3 => some x3) (x.1, (Go.IntKind.wrap .i64 (x.2 - (List.length x.1 : Int))), (0 : Int))
def ym5 : List QF := [yFe]
def y7C (t : yBV) : St := ⟨yfu t.1 :: vI t.2.1 :: dd 3 (vI t.2.2 :: dd 21 []), []⟩
def yjL : Gk KE := fun κ => Y0 (fun t => κ none ⟨.dead :: vI t.1 :: dd 2 (vI t.2 :: dd 22 []), []⟩) (fun t => κ (some 0) ⟨.dead :: vI t :: dd 25 [], []⟩)
def ym6 : Lp := lpC 5 (unG yBW y7C) @yjL lpN
theorem yth : LF ym5 ym6 118 5 Tryz.f118 0 y7C @yjL fun t => t := fun R κ again t => by kernel_rfl
theorem yti : LK ym5 ym6 118 Tryz.f118 0 := lkN (u := (unG yBW y7C)) (ya fun t => by kernel_rfl) yth
theorem yya : EV ym5 ym6 118 Tryz.f118 yqQ yE3 [(.int .i64)] j8 := fun x => by kernel_rfl
def yFf : QF := ⟨118, j8, okN (n := 1) Tryz.func118 ⟨yti, trivial⟩ yya⟩
def Jb (x : yE4) : Option Int :=
 Option.bind (vm (x.1, x.2.2)) fun r1 => bif (decide (r1 < (0 : Int))) then some (-1 : Int) else Option.bind (j8 (x.2.1, r1)) fun r2 => bif (decide (r2 < (0 : Int))) then some (-1 : Int) else some r2
theorem yFg : EV [yFb, yFf] lpN 43 Tryz.f43 yCz yE5 [(.int .i64)] Jb := fun x => by kernel_rfl
def q43 : QF := ⟨43, Jb, okN (n := 0) Tryz.func43 trivial yFg⟩
def vn (x : yE6) : Option Int :=
 bif (decide ((Go.IntKind.wrap .i64 (x.2 - (List.length x.1 : Int))) < (0 : Int))) then some (-1 : Int) else some (Go.IntKind.wrap .i64 (x.2 - (List.length x.1 : Int)))
theorem yFh : EV [] lpN 44 Tryz.f44 yCA yE7 [(.int .i64)] vn := fun x => by kernel_rfl
def q44 : QF := ⟨44, vn, okN (n := 0) Tryz.func44 trivial yFh⟩
def Jv (x : yE8) : Option Int :=
 bif (decide ((Go.IntKind.wrap .i64 (x.2 - (List.length x.1 : Int))) < (0 : Int))) then some (-1 : Int) else some (Go.IntKind.wrap .i64 (x.2 - (List.length x.1 : Int)))
theorem yFi : EV [] lpN 45 Tryz.f45 yCB yE9 [(.int .i64)] Jv := fun x => by kernel_rfl
def q45 : QF := ⟨45, Jv, okN (n := 0) Tryz.func45 trivial yFi⟩
def wx (x : yEa) : Option Int :=
 bif (decide ((Go.IntKind.wrap .i64 (x.2.2.2.2 - ((ByteArray.size x.1 : Nat) : Int))) < (0 : Int))) then some (-1 : Int) else some (Go.IntKind.wrap .i64 (x.2.2.2.2 - ((ByteArray.size x.1 : Nat) : Int)))
theorem yyb : EV [] lpN 119 Tryz.f119 yqR yEb [(.int .i64)] wx := fun x => by kernel_rfl
def yFj : QF := ⟨119, wx, okN (n := 0) Tryz.func119 trivial yyb⟩
abbrev vX : Type := yBX
def Yg (k0 : y4Q → Option R) (k1 : Int → Option R) (again : vX → Option R) (t5 : vX) : Option R :=
 bif (decide (t5.2.2 < (List.length t5.1 : Int))) then if (0 : Int) ≤ t5.2.2 then if t5.2.2 < (List.length t5.1 : Int) then Option.bind (wx ((Kv t5.1 t5.2.2).1, (Kv t5.1 t5.2.2).2.1, (Kv t5.1 t5.2.2).2.2.1, (Kv t5.1 t5.2.2).2.2.2, t5.2.1)) fun r1 => bif (decide (r1 < (0 : Int))) then k0 (r1, (-1 : Int)) else again (t5.1, r1, (Go.IntKind.wrap .i64 (t5.2.2 + (1 : Int)))) else none else none else k1 t5.2.1
def y0b k0 k1 := yS (@Yg R k0 k1) z3
def ZC (x : yEc) : Option Int :=
 bif (decide ((Go.IntKind.wrap .i64 (x.2 - (List.length x.1 : Int))) < (0 : Int))) then some (-1 : Int) else y0b (fun x2 => some x2.2) (fun x3 => some x3) (x.1, (Go.IntKind.wrap .i64 (x.2 - (List.length x.1 : Int))), (0 : Int))
def yyc : List QF := [yFj]
def yby (t : yBX) : St := ⟨yjt t.1 :: vI t.2.1 :: dd 3 (vI t.2.2 :: dd 21 []), []⟩
def ytj : Gk vX := fun κ => Yg (fun t => κ none ⟨.dead :: vI t.1 :: dd 2 (vI t.2 :: dd 22 []), []⟩) (fun t => κ (some 0) ⟨.dead :: vI t :: dd 25 [], []⟩)
def yyd : Lp := lpC 5 (unG yBY yby) @ytj lpN
theorem yye : LF yyc yyd 46 5 Tryz.f46 0 yby @ytj fun t => t := fun R κ again t => by kernel_rfl
theorem yyf : LK yyc yyd 46 Tryz.f46 0 := lkN (u := (unG yBY yby)) (ya fun t => by kernel_rfl) yye
theorem yFk : EV yyc yyd 46 Tryz.f46 yCC yEd [(.int .i64)] ZC := fun x => by kernel_rfl
def q46 : QF := ⟨46, ZC, okN (n := 1) Tryz.func46 ⟨yyf, trivial⟩ yFk⟩
def W5 (x : yEe) : Option Int :=
 Option.bind (Jb (x.1, x.2.1, x.2.2.2.2.2.2)) fun r1 => bif (decide (r1 < (0 : Int))) then some (-1 : Int) else Option.bind (vn (x.2.2.1, r1)) fun r2 => bif (decide (r2 < (0 : Int))) then some (-1 : Int) else Option.bind (Jv (x.2.2.2.1, r2)) fun r3 => bif (decide (r3 < (0 : Int))) then some (-1 : Int) else Option.bind (ZC (x.2.2.2.2.1, r3)) fun r4 => bif (decide (r4 < (0 : Int))) then some (-1 : Int) else some r4
theorem yFl : EV [q43, q44, q45, q46] lpN 10 Tryz.f10 yCD yEf [(.int .i64)] W5 := fun x => by kernel_rfl
def q10 : QF := ⟨10, W5, okN (n := 0) Tryz.func10 trivial yFl⟩
def Ya (x : yli) : Option Int :=
 bif (decide ((Go.IntKind.wrap .i64 (x.2 - (List.length x.1 : Int))) < (0 : Int))) then some (-1 : Int) else some (Go.IntKind.wrap .i64 (x.2 - (List.length x.1 : Int)))
theorem yyg : EV [] lpN 147 Tryz.f147 yqS ylj [(.int .i64)] Ya := fun x => by kernel_rfl
def yD8 : QF := ⟨147, Ya, okN (n := 0) Tryz.func147 trivial yyg⟩
abbrev kp : Type := yw3
def zG (k0 : y4Q → Option R) (k1 : Int → Option R) (again : kp → Option R) (t5 : kp) : Option R :=
 bif (decide (t5.2.2 < (List.length t5.1 : Int))) then if (0 : Int) ≤ t5.2.2 then if t5.2.2 < (List.length t5.1 : Int) then Option.bind (Ya ((zh t5.1 t5.2.2), t5.2.1)) fun r1 => bif (decide (r1 < (0 : Int))) then k0 (r1, (-1 : Int)) else again (t5.1, r1, (Go.IntKind.wrap .i64 (t5.2.2 + (1 : Int)))) else none else none else k1 t5.2.1
def qP k0 k1 := yS (@zG R k0 k1) z3
def jG (x : ywk) : Option Int :=
 bif (decide ((Go.IntKind.wrap .i64 (x.2 - (List.length x.1 : Int))) < (0 : Int))) then some (-1 : Int) else qP (fun x2 => some x2.2) (fun x3 => some x3) (x.1, (Go.IntKind.wrap .i64 (x.2 - (List.length x.1 : Int))), (0 : Int))
def yyh : List QF := [yD8]
def ybz (t : yw3) : St := ⟨Yf t.1 :: vI t.2.1 :: dd 3 (vI t.2.2 :: dd 21 []), []⟩
def ytk : Gk kp := fun κ => zG (fun t => κ none ⟨.dead :: vI t.1 :: dd 2 (vI t.2 :: dd 22 []), []⟩) (fun t => κ (some 0) ⟨.dead :: vI t :: dd 25 [], []⟩)
def yyi : Lp := lpC 5 (unG yw4 ybz) @ytk lpN
theorem yyj : LF yyh yyi 69 5 Tryz.f69 0 ybz @ytk fun t => t := fun R κ again t => by kernel_rfl
theorem yyk : LK yyh yyi 69 Tryz.f69 0 := lkN (u := (unG yw4 ybz)) (ya fun t => by kernel_rfl) yyj
theorem yFm : EV yyh yyi 69 Tryz.f69 yCE ywl [(.int .i64)] jG := fun x => by kernel_rfl
def q69 : QF := ⟨69, jG, okN (n := 1) Tryz.func69 ⟨yyk, trivial⟩ yFm⟩
def jH (x : yEg) : Option Int :=
 Option.bind (Ya x.2) fun r1 => bif (decide (r1 < (0 : Int))) then some (-1 : Int) else some r1
theorem yyl : EV [yD8] lpN 148 Tryz.f148 yqT yEh [(.int .i64)] jH := fun x => by kernel_rfl
def yFn : QF := ⟨148, jH, okN (n := 0) Tryz.func148 trivial yyl⟩
abbrev qi : Type := yBZ
def YJ (k0 : y4Q → Option R) (k1 : Int → Option R) (again : qi → Option R) (t5 : qi) : Option R :=
 bif (decide (t5.2.2 < (List.length t5.1 : Int))) then if (0 : Int) ≤ t5.2.2 then if t5.2.2 < (List.length t5.1 : Int) then Option.bind (jH ((y38 t5.1 t5.2.2).1, (y38 t5.1 t5.2.2).2, t5.2.1)) fun r1 => bif (decide (r1 < (0 : Int))) then k0 (r1, (-1 : Int)) else again (t5.1, r1, (Go.IntKind.wrap .i64 (t5.2.2 + (1 : Int)))) else none else none else k1 t5.2.1
def y18 k0 k1 := yS (@YJ R k0 k1) z3
def wy (x : yEi) : Option Int :=
 bif (decide ((Go.IntKind.wrap .i64 (x.2 - (List.length x.1 : Int))) < (0 : Int))) then some (-1 : Int) else y18 (fun x2 => some x2.2) (fun x3 => some x3) (x.1, (Go.IntKind.wrap .i64 (x.2 - (List.length x.1 : Int))), (0 : Int))
def yym : List QF := [yFn]
def ybA (t : yBZ) : St := ⟨yo5 t.1 :: vI t.2.1 :: dd 3 (vI t.2.2 :: dd 21 []), []⟩
def ytl : Gk qi := fun κ => YJ (fun t => κ none ⟨.dead :: vI t.1 :: dd 2 (vI t.2 :: dd 22 []), []⟩) (fun t => κ (some 0) ⟨.dead :: vI t :: dd 25 [], []⟩)
def yyn : Lp := lpC 5 (unG yC0 ybA) @ytl lpN
theorem yyo : LF yym yyn 70 5 Tryz.f70 0 ybA @ytl fun t => t := fun R κ again t => by kernel_rfl
theorem yyp : LK yym yyn 70 Tryz.f70 0 := lkN (u := (unG yC0 ybA)) (ya fun t => by kernel_rfl) yyo
theorem yFo : EV yym yyn 70 Tryz.f70 yCF yEj [(.int .i64)] wy := fun x => by kernel_rfl
def q70 : QF := ⟨70, wy, okN (n := 1) Tryz.func70 ⟨yyp, trivial⟩ yFo⟩
def wz (x : yEk) : Option Int :=
 Option.bind (jG (x.1, x.2.2.2.2)) fun r1 => bif (decide (r1 < (0 : Int))) then some (-1 : Int) else Option.bind (wy (x.2.1, r1)) fun r2 => bif (decide (r2 < (0 : Int))) then some (-1 : Int) else some r2
theorem yFp : EV [q69, q70] lpN 19 Tryz.f19 yCG yEl [(.int .i64)] wz := fun x => by kernel_rfl
def q19 : QF := ⟨19, wz, okN (n := 0) Tryz.func19 trivial yFp⟩
def Jw (x : yEm) : Option Int :=
 Option.bind (wz (x.1, x.2.1, x.2.2.1, x.2.2.2.1, x.2.2.2.2.2.2.2.2.2.2.2.2.2)) fun r1 => bif (decide (r1 < (0 : Int))) then some (-1 : Int) else Option.bind (W5 (x.2.2.2.2.1, x.2.2.2.2.2.1, x.2.2.2.2.2.2.1, x.2.2.2.2.2.2.2.1, x.2.2.2.2.2.2.2.2.1, x.2.2.2.2.2.2.2.2.2.1, r1)) fun r2 => bif (decide (r2 < (0 : Int))) then some (-1 : Int) else some r2
theorem yFq : EV [q10, q19] lpN 35 Tryz.f35 yCH yEn [(.int .i64)] Jw := fun x => by kernel_rfl
def q35 : QF := ⟨35, Jw, okN (n := 0) Tryz.func35 trivial yFq⟩
abbrev vY : Type := yC1
def W6 (k0 : List yp → Option R) (again : vY → Option R) (t3 : vY) : Option R :=
 bif (decide (t3.2.1 < (List.length t3.1 : Int))) then if (0 : Int) ≤ t3.2.1 then if t3.2.1 < (List.length t3.1 : Int) then if (0 : Int) ≤ t3.2.1 then if t3.2.1 < (List.length t3.2.2 : Int) then again (t3.1, (Go.IntKind.wrap .i64 (t3.2.1 + (1 : Int))), (List.set t3.2.2 (Int.toNat t3.2.1) (zy t3.1 t3.2.1))) else none else none else none else none else k0 t3.2.2
def y0c k0 := yS (@W6 R k0) z3
def W7 (x : List yp) : Option (List yp) :=
 if (0 : Int) ≤ (List.length x : Int) then if (List.length x : Int) ≤ (List.length x : Int) then if (List.length x : Int) * ((8 : Nat) : Int) ≤ 140737488351232 then y0c (fun x1 => some x1) (x, (0 : Int), (List.replicate (Int.toNat (List.length x : Int)) yfs)) else none else none else none
def ym7 : List QF := []
def y7D (t : yC1) : St := ⟨zi t.1 :: dd 2 (.own 10000000 :: vI t.2.1 :: dd 17 []), [(10000000, .root true 3 ye t.2.2)]⟩
def yjM : Gk vY := fun κ => W6 (fun t => κ (some 0) ⟨dd 3 (.own 10000000 :: dd 18 []), [(10000000, .root true 3 ye t)]⟩)
def ym8 : Lp := lpC 3 (unG yC2 y7D) @yjM lpN
theorem ytm : LF ym7 ym8 126 3 Tryz.f126 0 y7D @yjM fun t => t := fun R κ again t => by kernel_rfl
theorem ytn : LK ym7 ym8 126 Tryz.f126 0 := lkN (u := (unG yC2 y7D)) (ya fun t => by kernel_rfl) ytm
theorem yyq : EV ym7 ym8 126 Tryz.f126 yqU [(.sl 3 ye)] [(.sl 3 ye)] W7 := fun x => by kernel_rfl
def yFr : QF := ⟨126, W7, okN (n := 1) Tryz.func126 ⟨ytn, trivial⟩ yyq⟩
def VX (x : yhN) : Option yhN :=
 some x
theorem yyr : EV [] lpN 301 Tryz.f301 yqV y16 y16 VX := fun x => by kernel_rfl
def yFs : QF := ⟨301, VX, okN (n := 0) Tryz.func301 trivial yyr⟩
abbrev vZ : Type := yC3
def W8 (k0 : List y8 → Option R) (again : vZ → Option R) (t3 : vZ) : Option R :=
 bif (decide (t3.2.1 < (List.length t3.1 : Int))) then if (0 : Int) ≤ t3.2.1 then if t3.2.1 < (List.length t3.1 : Int) then Option.bind (VX ((y4O t3.1 t3.2.1).1, (y4O t3.1 t3.2.1).2.1, (y4O t3.1 t3.2.1).2.2.1, (y4O t3.1 t3.2.1).2.2.2.1, (y4O t3.1 t3.2.1).2.2.2.2)) fun r1 => if (0 : Int) ≤ t3.2.1 then if t3.2.1 < (List.length t3.2.2 : Int) then again (t3.1, (Go.IntKind.wrap .i64 (t3.2.1 + (1 : Int))), (List.set t3.2.2 (Int.toNat t3.2.1) r1)) else none else none else none else none else k0 t3.2.2
def y0d k0 := yS (@W8 R k0) z3
def ZD (x : List y37) : Option (List y8) :=
 if (0 : Int) ≤ (List.length x : Int) then if (List.length x : Int) ≤ (List.length x : Int) then if (List.length x : Int) * ((40 : Nat) : Int) ≤ 140737488351232 then y0d (fun x2 => some x2) (x, (0 : Int), (List.replicate (Int.toNat (List.length x : Int)) zv)) else none else none else none
def ym9 : List QF := [yFs]
def y7E (t : yC3) : St := ⟨yo3 t.1 :: dd 2 (.own 10000000 :: vI t.2.1 :: dd 18 []), [(10000000, .root true 106 yg t.2.2)]⟩
def yjN : Gk vZ := fun κ => W8 (fun t => κ (some 0) ⟨dd 3 (.own 10000000 :: dd 19 []), [(10000000, .root true 106 yg t)]⟩)
def yma : Lp := lpC 3 (unG yC4 y7E) @yjN lpN
theorem yto : LF ym9 yma 278 3 Tryz.f278 0 y7E @yjN fun t => t := fun R κ again t => by kernel_rfl
theorem ytp : LK ym9 yma 278 Tryz.f278 0 := lkN (u := (unG yC4 y7E)) (ya fun t => by kernel_rfl) yto
theorem yys : EV ym9 yma 278 Tryz.f278 yqW [(.sl 279 Q9)] [(.sl 106 yg)] ZD := fun x => by kernel_rfl
def yFt : QF := ⟨278, ZD, okN (n := 1) Tryz.func278 ⟨ytp, trivial⟩ yys⟩
abbrev KF : Type := yC5
def w7 (k0 : List y9 → Option R) (again : KF → Option R) (t3 : KF) : Option R :=
 bif (decide (t3.2.1 < (List.length t3.1 : Int))) then if (0 : Int) ≤ t3.2.1 then if t3.2.1 < (List.length t3.1 : Int) then Option.bind (ZD (y04 t3.1 t3.2.1)) fun r1 => if (0 : Int) ≤ t3.2.1 then if t3.2.1 < (List.length t3.2.2 : Int) then again (t3.1, (Go.IntKind.wrap .i64 (t3.2.1 + (1 : Int))), (List.set t3.2.2 (Int.toNat t3.2.1) r1)) else none else none else none else none else k0 t3.2.2
def Qx k0 := yS (@w7 R k0) z3
def Jx (x : List z4) : Option (List y9) :=
 if (0 : Int) ≤ (List.length x : Int) then if (List.length x : Int) ≤ (List.length x : Int) then if (List.length x : Int) * ((24 : Nat) : Int) ≤ 140737488351232 then Qx (fun x2 => some x2) (x, (0 : Int), (List.replicate (Int.toNat (List.length x : Int)) yT)) else none else none else none
def ymb : List QF := [yFt]
def y7F (t : yC5) : St := ⟨ycQ t.1 :: dd 2 (.own 10000000 :: vI t.2.1 :: dd 18 []), [(10000000, .deep false 0 100 yj t.2.2)]⟩
def yjO : Gk KF := fun κ => w7 (fun t => κ (some 0) ⟨dd 3 (.own 10000000 :: dd 19 []), [(10000000, .deep false 0 100 yj t)]⟩)
def ymc : Lp := lpC 3 (unG yC6 y7F) @yjO lpN
theorem ytq : LF ymb ymc 245 3 Tryz.f245 0 y7F @yjO fun t => t := fun R κ again t => by kernel_rfl
theorem ytr : LK ymb ymc 245 Tryz.f245 0 := lkN (u := (unG yC6 y7F)) (ya fun t => by kernel_rfl) ytq
theorem yyt : EV ymb ymc 245 Tryz.f245 yqX [(.sl 267 Ye)] [(.sl 100 yj)] Jx := fun x => by kernel_rfl
def yFu : QF := ⟨245, Jx, okN (n := 1) Tryz.func245 ⟨ytr, trivial⟩ yyt⟩
def Jc (x : List z4) : Option (List y9) :=
 Option.bind (Jx x) fun r1 => some r1
theorem yyu : EV [yFu] lpN 203 Tryz.f203 yqY [(.sl 267 Ye)] [(.sl 100 yj)] Jc := fun x => by kernel_rfl
def yFv : QF := ⟨203, Jc, okN (n := 0) Tryz.func203 trivial yyu⟩
abbrev KG : Type := yo8
def w8 (k0 : List y7 → Option R) (again : KG → Option R) (t3 : KG) : Option R :=
 bif (decide (t3.2.1 < (List.length t3.1 : Int))) then if (0 : Int) ≤ t3.2.1 then if t3.2.1 < (List.length t3.1 : Int) then Option.bind (Jc (y21 t3.1 t3.2.1)) fun r1 => if (0 : Int) ≤ t3.2.1 then if t3.2.1 < (List.length t3.2.2 : Int) then again (t3.1, (Go.IntKind.wrap .i64 (t3.2.1 + (1 : Int))), (List.set t3.2.2 (Int.toNat t3.2.1) r1)) else none else none else none else none else k0 t3.2.2
def Qy k0 := yS (@w8 R k0) z3
def j9 (x : List zF) : Option (List y7) :=
 if (0 : Int) ≤ (List.length x : Int) then if (List.length x : Int) ≤ (List.length x : Int) then if (List.length x : Int) * ((24 : Nat) : Int) ≤ 140737488351232 then Qy (fun x2 => some x2) (x, (0 : Int), (List.replicate (Int.toNat (List.length x : Int)) zg)) else none else none else none
def ymd : List QF := [yFv]
def y7G (t : yo8) : St := ⟨yfu t.1 :: dd 2 (.own 10000000 :: vI t.2.1 :: dd 18 []), [(10000000, .deep false 0 98 yf t.2.2)]⟩
def yjP : Gk KG := fun κ => w8 (fun t => κ (some 0) ⟨dd 3 (.own 10000000 :: dd 19 []), [(10000000, .deep false 0 98 yf t)]⟩)
def yme : Lp := lpC 3 (unG yo9 y7G) @yjP lpN
theorem yts : LF ymd yme 127 3 Tryz.f127 0 y7G @yjP fun t => t := fun R κ again t => by kernel_rfl
theorem ytt : LK ymd yme 127 Tryz.f127 0 := lkN (u := (unG yo9 y7G)) (ya fun t => by kernel_rfl) yts
theorem yyv : EV ymd yme 127 Tryz.f127 yqZ [(.sl 216 zD)] [(.sl 98 yf)] j9 := fun x => by kernel_rfl
def yFw : QF := ⟨127, j9, okN (n := 1) Tryz.func127 ⟨ytt, trivial⟩ yyv⟩
def vo (x : ywo) : Option y3o :=
 Option.bind (W7 x.1) fun r1 => Option.bind (j9 x.2) fun r2 => some (r1, r2)
theorem yFx : EV [yFr, yFw] lpN 52 Tryz.f52 yCI yll vi vo := fun x => by kernel_rfl
def q52 : QF := ⟨52, vo, okN (n := 0) Tryz.func52 trivial yFx⟩
def VY (x : y4Q) : Option y4Q :=
 some x
theorem yyw : EV [] lpN 128 Tryz.f128 yr0 yeK yeK VY := fun x => by kernel_rfl
def yFy : QF := ⟨128, VY, okN (n := 0) Tryz.func128 trivial yyw⟩
abbrev V0 : Type := yoa
def W9 (k0 : List yo → Option R) (again : V0 → Option R) (t3 : V0) : Option R :=
 bif (decide (t3.2.1 < (List.length t3.1 : Int))) then if (0 : Int) ≤ t3.2.1 then if t3.2.1 < (List.length t3.1 : Int) then Option.bind (VY ((yfv t3.1 t3.2.1).1, (yfv t3.1 t3.2.1).2)) fun r1 => if (0 : Int) ≤ t3.2.1 then if t3.2.1 < (List.length t3.2.2 : Int) then again (t3.1, (Go.IntKind.wrap .i64 (t3.2.1 + (1 : Int))), (List.set t3.2.2 (Int.toNat t3.2.1) r1)) else none else none else none else none else k0 t3.2.2
def y0e k0 := yS (@W9 R k0) z3
def Wa (x : List WV) : Option (List yo) :=
 if (0 : Int) ≤ (List.length x : Int) then if (List.length x : Int) ≤ (List.length x : Int) then if (List.length x : Int) * ((16 : Nat) : Int) ≤ 140737488351232 then y0e (fun x2 => some x2) (x, (0 : Int), (List.replicate (Int.toNat (List.length x : Int)) WU)) else none else none else none
def yyx : List QF := [yFy]
def ybB (t : yoa) : St := ⟨yo4 t.1 :: dd 2 (.own 10000000 :: vI t.2.1 :: dd 18 []), [(10000000, .root true 89 yB t.2.2)]⟩
def ytu : Gk V0 := fun κ => W9 (fun t => κ (some 0) ⟨dd 3 (.own 10000000 :: dd 19 []), [(10000000, .root true 89 yB t)]⟩)
def yyy : Lp := lpC 3 (unG yob ybB) @ytu lpN
theorem yyz : LF yyx yyy 53 3 Tryz.f53 0 ybB @ytu fun t => t := fun R κ again t => by kernel_rfl
theorem yyA : LK yyx yyy 53 Tryz.f53 0 := lkN (u := (unG yob ybB)) (ya fun t => by kernel_rfl) yyz
theorem yFz : EV yyx yyy 53 Tryz.f53 yCJ [(.sl 166 jv)] [(.sl 89 yB)] Wa := fun x => by kernel_rfl
def q53 : QF := ⟨53, Wa, okN (n := 1) Tryz.func53 ⟨yyA, trivial⟩ yFz⟩
def vp (x : yoc) : Option yoc :=
 some x
theorem yyB : EV [] lpN 129 Tryz.f129 yr1 yeb yeb vp := fun x => by kernel_rfl
def yFA : QF := ⟨129, vp, okN (n := 0) Tryz.func129 trivial yyB⟩
abbrev KH : Type := yod
def w9 (k0 : List yb → Option R) (again : KH → Option R) (t3 : KH) : Option R :=
 bif (decide (t3.2.1 < (List.length t3.1 : Int))) then if (0 : Int) ≤ t3.2.1 then if t3.2.1 < (List.length t3.1 : Int) then Option.bind (vp ((y7h t3.1 t3.2.1).1, (y7h t3.1 t3.2.1).2.1, (y7h t3.1 t3.2.1).2.2)) fun r1 => if (0 : Int) ≤ t3.2.1 then if t3.2.1 < (List.length t3.2.2 : Int) then again (t3.1, (Go.IntKind.wrap .i64 (t3.2.1 + (1 : Int))), (List.set t3.2.2 (Int.toNat t3.2.1) r1)) else none else none else none else none else k0 t3.2.2
def Qz k0 := yS (@w9 R k0) z3
def Jy (x : List je) : Option (List yb) :=
 if (0 : Int) ≤ (List.length x : Int) then if (List.length x : Int) ≤ (List.length x : Int) then if (List.length x : Int) * ((24 : Nat) : Int) ≤ 140737488351232 then Qz (fun x2 => some x2) (x, (0 : Int), (List.replicate (Int.toNat (List.length x : Int)) wI)) else none else none else none
def yyC : List QF := [yFA]
def ybC (t : yod) : St := ⟨ylh t.1 :: dd 2 (.own 10000000 :: vI t.2.1 :: dd 18 []), [(10000000, .root true 95 yk t.2.2)]⟩
def ytv : Gk KH := fun κ => w9 (fun t => κ (some 0) ⟨dd 3 (.own 10000000 :: dd 19 []), [(10000000, .root true 95 yk t)]⟩)
def yyD : Lp := lpC 3 (unG yoe ybC) @ytv lpN
theorem yyE : LF yyC yyD 54 3 Tryz.f54 0 ybC @ytv fun t => t := fun R κ again t => by kernel_rfl
theorem yyF : LK yyC yyD 54 Tryz.f54 0 := lkN (u := (unG yoe ybC)) (ya fun t => by kernel_rfl) yyE
theorem yFB : EV yyC yyD 54 Tryz.f54 yCK [(.sl 168 Yz)] [(.sl 95 yk)] Jy := fun x => by kernel_rfl
def q54 : QF := ⟨54, Jy, okN (n := 1) Tryz.func54 ⟨yyF, trivial⟩ yFB⟩
def VZ (x : ylm) : Option ylm :=
 some x
theorem yyG : EV [] lpN 130 Tryz.f130 yr2 y4R y4R VZ := fun x => by kernel_rfl
def yFC : QF := ⟨130, VZ, okN (n := 0) Tryz.func130 trivial yyG⟩
abbrev V1 : Type := yof
def Wb (k0 : List yA → Option R) (again : V1 → Option R) (t3 : V1) : Option R :=
 bif (decide (t3.2.1 < (List.length t3.1 : Int))) then if (0 : Int) ≤ t3.2.1 then if t3.2.1 < (List.length t3.1 : Int) then Option.bind (VZ ((Kv t3.1 t3.2.1).1, (Kv t3.1 t3.2.1).2.1, (Kv t3.1 t3.2.1).2.2.1, (Kv t3.1 t3.2.1).2.2.2)) fun r1 => if (0 : Int) ≤ t3.2.1 then if t3.2.1 < (List.length t3.2.2 : Int) then again (t3.1, (Go.IntKind.wrap .i64 (t3.2.1 + (1 : Int))), (List.set t3.2.2 (Int.toNat t3.2.1) r1)) else none else none else none else none else k0 t3.2.2
def y0f k0 := yS (@Wb R k0) z3
def Wc (x : List jw) : Option (List yA) :=
 if (0 : Int) ≤ (List.length x : Int) then if (List.length x : Int) ≤ (List.length x : Int) then if (List.length x : Int) * ((40 : Nat) : Int) ≤ 140737488351232 then y0f (fun x2 => some x2) (x, (0 : Int), (List.replicate (Int.toNat (List.length x : Int)) qg)) else none else none else none
def yyH : List QF := [yFC]
def ybD (t : yof) : St := ⟨yjt t.1 :: dd 2 (.own 10000000 :: vI t.2.1 :: dd 18 []), [(10000000, .root true 91 yK t.2.2)]⟩
def ytw : Gk V1 := fun κ => Wb (fun t => κ (some 0) ⟨dd 3 (.own 10000000 :: dd 19 []), [(10000000, .root true 91 yK t)]⟩)
def yyI : Lp := lpC 3 (unG yog ybD) @ytw lpN
theorem yyJ : LF yyH yyI 55 3 Tryz.f55 0 ybD @ytw fun t => t := fun R κ again t => by kernel_rfl
theorem yyK : LK yyH yyI 55 Tryz.f55 0 := lkN (u := (unG yog ybD)) (ya fun t => by kernel_rfl) yyJ
theorem yFD : EV yyH yyI 55 Tryz.f55 yCL [(.sl 158 Zx)] [(.sl 91 yK)] Wc := fun x => by kernel_rfl
def q55 : QF := ⟨55, Wc, okN (n := 1) Tryz.func55 ⟨yyK, trivial⟩ yFD⟩
def Wd (x : ywp) : Option y05 :=
 Option.bind (vo (x.1, x.2.1)) fun r1 => Option.bind (Wa x.2.2.1) fun r2 => Option.bind (Jy x.2.2.2.1) fun r3 => Option.bind (Wc x.2.2.2.2.1) fun r4 => some (r1.1, r1.2, r2, r3, r4, x.2.2.2.2.2)
theorem yFE : EV [q52, q53, q54, q55] lpN 12 Tryz.f12 yCM yln wC Wd := fun x => by kernel_rfl
def q12 : QF := ⟨12, Wd, okN (n := 0) Tryz.func12 trivial yFE⟩
abbrev KI : Type := yoh
def KJ (k0 : List z0 → Option R) (again : KI → Option R) (t3 : KI) : Option R :=
 bif (decide (t3.2.1 < (List.length t3.1 : Int))) then if (0 : Int) ≤ t3.2.1 then if t3.2.1 < (List.length t3.1 : Int) then if (0 : Int) ≤ t3.2.1 then if t3.2.1 < (List.length t3.2.2 : Int) then again (t3.1, (Go.IntKind.wrap .i64 (t3.2.1 + (1 : Int))), (List.set t3.2.2 (Int.toNat t3.2.1) (ya6 t3.1 t3.2.1))) else none else none else none else none else k0 t3.2.2
def QA k0 := yS (@KJ R k0) z3
def zt (x : List z0) : Option (List z0) :=
 if (0 : Int) ≤ (List.length x : Int) then if (List.length x : Int) ≤ (List.length x : Int) then if (List.length x : Int) * ((1 : Nat) : Int) ≤ 140737488351232 then QA (fun x1 => some x1) (x, (0 : Int), (List.replicate (Int.toNat (List.length x : Int)) yDn)) else none else none else none
def yyL : List QF := []
def ybE (t : yoh) : St := ⟨yeJ t.1 :: dd 2 (.own 10000000 :: vI t.2.1 :: dd 17 []), [(10000000, .root true 5 yu t.2.2)]⟩
def ytx : Gk KI := fun κ => KJ (fun t => κ (some 0) ⟨dd 3 (.own 10000000 :: dd 18 []), [(10000000, .root true 5 yu t)]⟩)
def yyM : Lp := lpC 3 (unG yoi ybE) @ytx lpN
theorem yyN : LF yyL yyM 27 3 Tryz.f27 0 ybE @ytx fun t => t := fun R κ again t => by kernel_rfl
theorem yyO : LK yyL yyM 27 Tryz.f27 0 := lkN (u := (unG yoi ybE)) (ya fun t => by kernel_rfl) yyN
theorem yFF : EV yyL yyM 27 Tryz.f27 yCN [(.sl 5 yu)] [(.sl 5 yu)] zt := fun x => by kernel_rfl
def q27 : QF := ⟨27, zt, okN (n := 1) Tryz.func27 ⟨yyO, trivial⟩ yFF⟩
abbrev kq : Type := yoj
def Jd (k0 : List y6 → Option R) (again : kq → Option R) (t3 : kq) : Option R :=
 bif (decide (t3.2.1 < (List.length t3.1 : Int))) then if (0 : Int) ≤ t3.2.1 then if t3.2.1 < (List.length t3.1 : Int) then Option.bind (zt (zh t3.1 t3.2.1)) fun r1 => if (0 : Int) ≤ t3.2.1 then if t3.2.1 < (List.length t3.2.2 : Int) then again (t3.1, (Go.IntKind.wrap .i64 (t3.2.1 + (1 : Int))), (List.set t3.2.2 (Int.toNat t3.2.1) r1)) else none else none else none else none else k0 t3.2.2
def qQ k0 := yS (@Jd R k0) z3
def jI (x : List y6) : Option (List y6) :=
 if (0 : Int) ≤ (List.length x : Int) then if (List.length x : Int) ≤ (List.length x : Int) then if (List.length x : Int) * ((24 : Nat) : Int) ≤ 140737488351232 then qQ (fun x2 => some x2) (x, (0 : Int), (List.replicate (Int.toNat (List.length x : Int)) WW)) else none else none else none
def yyP : List QF := [q27]
def ybF (t : yoj) : St := ⟨Yf t.1 :: dd 2 (.own 10000000 :: vI t.2.1 :: dd 18 []), [(10000000, .deep false 0 32 yc t.2.2)]⟩
def yty : Gk kq := fun κ => Jd (fun t => κ (some 0) ⟨dd 3 (.own 10000000 :: dd 19 []), [(10000000, .deep false 0 32 yc t)]⟩)
def yyQ : Lp := lpC 3 (unG yok ybF) @yty lpN
theorem yyR : LF yyP yyQ 74 3 Tryz.f74 0 ybF @yty fun t => t := fun R κ again t => by kernel_rfl
theorem yyS : LK yyP yyQ 74 Tryz.f74 0 := lkN (u := (unG yok ybF)) (ya fun t => by kernel_rfl) yyR
theorem yFG : EV yyP yyQ 74 Tryz.f74 yCO [(.sl 32 yc)] [(.sl 32 yc)] jI := fun x => by kernel_rfl
def q74 : QF := ⟨74, jI, okN (n := 1) Tryz.func74 ⟨yyS, trivial⟩ yFG⟩
def Qb (x : yvY) : Option yvY :=
 Option.bind (zt x.2) fun r1 => some (x.1, r1)
theorem yyT : EV [q27] lpN 155 Tryz.f155 yr3 yju yju Qb := fun x => by kernel_rfl
def yFH : QF := ⟨155, Qb, okN (n := 0) Tryz.func155 trivial yyT⟩
abbrev qj : Type := yol
def K8 (k0 : List yQ → Option R) (again : qj → Option R) (t3 : qj) : Option R :=
 bif (decide (t3.2.1 < (List.length t3.1 : Int))) then if (0 : Int) ≤ t3.2.1 then if t3.2.1 < (List.length t3.1 : Int) then Option.bind (Qb ((y38 t3.1 t3.2.1).1, (y38 t3.1 t3.2.1).2)) fun r1 => if (0 : Int) ≤ t3.2.1 then if t3.2.1 < (List.length t3.2.2 : Int) then again (t3.1, (Go.IntKind.wrap .i64 (t3.2.1 + (1 : Int))), (List.set t3.2.2 (Int.toNat t3.2.1) r1)) else none else none else none else none else k0 t3.2.2
def y19 k0 := yS (@K8 R k0) z3
def Kj (x : List wK) : Option (List yQ) :=
 if (0 : Int) ≤ (List.length x : Int) then if (List.length x : Int) ≤ (List.length x : Int) then if (List.length x : Int) * ((32 : Nat) : Int) ≤ 140737488351232 then y19 (fun x2 => some x2) (x, (0 : Int), (List.replicate (Int.toNat (List.length x : Int)) y22)) else none else none else none
def yyU : List QF := [yFH]
def ybG (t : yol) : St := ⟨yo5 t.1 :: dd 2 (.own 10000000 :: vI t.2.1 :: dd 18 []), [(10000000, .deep false 0 186 z5 t.2.2)]⟩
def ytz : Gk qj := fun κ => K8 (fun t => κ (some 0) ⟨dd 3 (.own 10000000 :: dd 19 []), [(10000000, .deep false 0 186 z5 t)]⟩)
def yyV : Lp := lpC 3 (unG yom ybG) @ytz lpN
theorem yyW : LF yyU yyV 75 3 Tryz.f75 0 ybG @ytz fun t => t := fun R κ again t => by kernel_rfl
theorem yyX : LK yyU yyV 75 Tryz.f75 0 := lkN (u := (unG yom ybG)) (ya fun t => by kernel_rfl) yyW
theorem yFI : EV yyU yyV 75 Tryz.f75 yCP [(.sl 181 wJ)] [(.sl 186 z5)] Kj := fun x => by kernel_rfl
def q75 : QF := ⟨75, Kj, okN (n := 1) Tryz.func75 ⟨yyX, trivial⟩ yFI⟩
def Kl (x : ywq) : Option y1v :=
 Option.bind (jI x.1) fun r1 => Option.bind (Kj x.2.1) fun r2 => some (r1, r2, x.2.2)
theorem yFJ : EV [q74, q75] lpN 21 Tryz.f21 yCQ ylo wk Kl := fun x => by kernel_rfl
def q21 : QF := ⟨21, Kl, okN (n := 0) Tryz.func21 trivial yFJ⟩
def Yb (x : yon) : Option y06 :=
 Option.bind (Kl (x.1, x.2.1, x.2.2.1, x.2.2.2.1)) fun r1 => Option.bind (Wd (x.2.2.2.2.1, x.2.2.2.2.2.1, x.2.2.2.2.2.2.1, x.2.2.2.2.2.2.2.1, x.2.2.2.2.2.2.2.2.1, x.2.2.2.2.2.2.2.2.2.1)) fun r2 => some (r1.1, r1.2.1, r1.2.2.1, r1.2.2.2, r2.1, r2.2.1, r2.2.2.1, r2.2.2.2.1, r2.2.2.2.2.1, r2.2.2.2.2.2, x.2.2.2.2.2.2.2.2.2.2)
theorem yFK : EV [q12, q21] lpN 37 Tryz.f37 yCR yfz jg Yb := fun x => by kernel_rfl
def q37 : QF := ⟨37, Yb, okN (n := 0) Tryz.func37 trivial yFK⟩
abbrev V2 : Type := yh4 ⊕ yfA
def Yh (k0 : Unit → Option R) (k1 : List y9 → Option R) (again : V2 → Option R) : V2 → Option R
 | .inl t3 => bif (decide (t3.1 < (List.length t3.2 : Int))) then if (0 : Int) ≤ t3.1 then if t3.1 < (List.length t3.2 : Int) then if (List.length ([] : List y8) + List.length (yh t3.2 t3.1)) * 40 < 140737488355328 then if List.length ([(([] : List y8) ++ (yh t3.2 t3.1))] : List y9) * 24 < 140737488355328 then again (Sum.inr ((Go.IntKind.wrap .i64 (t3.1 + (1 : Int))), t3.2, ([(([] : List y8) ++ (yh t3.2 t3.1))] : List y9))) else none else none else none else none else k0 ()
 | .inr t3 => bif (decide (t3.1 < (List.length t3.2.1 : Int))) then if (0 : Int) ≤ t3.1 then if t3.1 < (List.length t3.2.1 : Int) then if (List.length ([] : List y8) + List.length (yh t3.2.1 t3.1)) * 40 < 140737488355328 then if (List.length t3.2.2 + List.length ([(([] : List y8) ++ (yh t3.2.1 t3.1))] : List y9)) * 24 < 140737488355328 then again (Sum.inr ((Go.IntKind.wrap .i64 (t3.1 + (1 : Int))), t3.2.1, (t3.2.2 ++ ([(([] : List y8) ++ (yh t3.2.1 t3.1))] : List y9)))) else none else none else none else none else k1 t3.2.2
def y0g k0 k1 := yS (@Yh R k0 k1) z3
def ZE (x : List y9) : Option (List y9) :=
 y0g (fun x1 => some ([] : List y9)) (fun x2 => some x2) (Sum.inl ((0 : Int), x))
def yfL : List QF := []
def y3H (t : yh4) : St := ⟨.dead :: .box 1 0 :: .box 2 0 :: .box 3 0 :: vI t.1 :: dd 21 [], [(1, .box [zC t.2]), (2, .box [.nils]), (3, .box [.nils])]⟩
theorem yi1 : ∀ s t, unG yo6 y3H s = some t → y3H t = s := ya fun t => by kernel_rfl
def y3I (t : yfA) : St := ⟨.dead :: .box 1 0 :: .box 2 0 :: .box 3 0 :: vI t.1 :: dd 21 [], [(1, .box [zC t.2.1]), (2, .box [.nils]), (3, .box [.own 10000000]), (10000000, .root true 100 yj t.2.2)]⟩
theorem yi2 : ∀ s t, unG yoo y3I s = some t → y3I t = s := ya fun t => by kernel_rfl
def y3J : (yh4 ⊕ yfA) → St := Sum.elim y3H y3I
def y7H (s : St) : Option (yh4 ⊕ yfA) := ((unG yo6 y3H s).map Sum.inl).or (((unG yoo y3I) s).map Sum.inr)
theorem yi3 : ∀ s t, y7H s = some t → y3J t = s := y2C yi1 yi2
def ycZ : Gk V2 := fun κ => Yh (fun t => κ (some 0) ⟨dd 2 (.box 2 0 :: .box 3 0 :: dd 22 []), [(2, .box [.nils]), (3, .box [.nils])]⟩) (fun t => κ (some 0) ⟨dd 2 (.box 2 0 :: .box 3 0 :: dd 22 []), [(2, .box [.nils]), (3, .box [.own 10000000]), (10000000, .root true 100 yj t)]⟩)
def yfM : Lp := lpC 3 y7H @ycZ lpN
theorem yi4 : LF yfL yfM 227 3 Tryz.f227 0 y3J @ycZ fun v : yh4 => .inl v := fun R κ again v => by kernel_rfl
theorem yi5 : LF yfL yfM 227 3 Tryz.f227 0 y3J @ycZ fun v : yfA => .inr v := fun R κ again v => by kernel_rfl
theorem ytA : LF yfL yfM 227 3 Tryz.f227 0 y3J @ycZ fun t => t := (LC.sum yi4 yi5)
theorem ytB : LK yfL yfM 227 Tryz.f227 0 := lkN (u := y7H) yi3 ytA
theorem yyY : EV yfL yfM 227 Tryz.f227 yr4 [(.sl 100 yj)] [(.sl 100 yj)] ZE := fun x => by kernel_rfl
def yFL : QF := ⟨227, ZE, okN (n := 1) Tryz.func227 ⟨ytB, trivial⟩ yyY⟩
abbrev V3 : Type := yfB ⊕ yfC
def Yi (k0 : List yp → Option R) (k1 : y3o → Option R) (again : V3 → Option R) : V3 → Option R
 | .inl t3 => bif (decide (t3.1 < (List.length t3.2.2.1 : Int))) then if (0 : Int) ≤ t3.1 then if t3.1 < (List.length t3.2.2.1 : Int) then Option.bind (ZE (ym t3.2.2.1 t3.1)) fun r1 => if List.length ([r1] : List y7) * 24 < 140737488355328 then again (Sum.inr ((Go.IntKind.wrap .i64 (t3.1 + (1 : Int))), t3.2.1, t3.2.2.1, t3.2.2.2, ([r1] : List y7))) else none else none else none else k0 t3.2.2.2
 | .inr t3 => bif (decide (t3.1 < (List.length t3.2.2.1 : Int))) then if (0 : Int) ≤ t3.1 then if t3.1 < (List.length t3.2.2.1 : Int) then Option.bind (ZE (ym t3.2.2.1 t3.1)) fun r2 => if (List.length t3.2.2.2.2 + List.length ([r2] : List y7)) * 24 < 140737488355328 then again (Sum.inr ((Go.IntKind.wrap .i64 (t3.1 + (1 : Int))), t3.2.1, t3.2.2.1, t3.2.2.2.1, (t3.2.2.2.2 ++ ([r2] : List y7)))) else none else none else none else k1 t3.2.2.2
def y0h k0 k1 := yS (@Yi R k0 k1) z3
def Je (x : y3o) : Option y3o :=
 if (List.length ([] : List yp) + List.length x.1) * 8 < 140737488355328 then y0h (fun x3 => some (x3, ([] : List y7))) (fun x4 => some x4) (Sum.inl ((0 : Int), x.1, x.2, (([] : List yp) ++ x.1))) else none
def yfN : List QF := [yFL]
def y3K (t : yfB) : St := ⟨.dead :: .box 1 0 :: .box 2 0 :: .box 3 0 :: vI t.1 :: dd 24 [], [(1, .box [zi t.2.1, yC t.2.2.1]), (2, .box [.nils, .nils]), (3, .box [.own 10000000, .nils]), (10000000, .root true 3 ye t.2.2.2)]⟩
theorem yi6 : ∀ s t, unG yop y3K s = some t → y3K t = s := ya fun t => by kernel_rfl
def y3L (t : yfC) : St := ⟨.dead :: .box 1 0 :: .box 2 0 :: .box 3 0 :: vI t.1 :: dd 24 [], [(1, .box [zi t.2.1, yC t.2.2.1]), (2, .box [.nils, .nils]), (3, .box [.own 10000000, .own 10000001]), (10000000, .root true 3 ye t.2.2.2.1), (10000001, .root true 98 yf t.2.2.2.2)]⟩
theorem yi7 : ∀ s t, unG yoq y3L s = some t → y3L t = s := ya fun t => by kernel_rfl
def y3M : (yfB ⊕ yfC) → St := Sum.elim y3K y3L
def y7I (s : St) : Option (yfB ⊕ yfC) := ((unG yop y3K s).map Sum.inl).or (((unG yoq y3L) s).map Sum.inr)
theorem yi8 : ∀ s t, y7I s = some t → y3M t = s := y2C yi6 yi7
def yd0 : Gk V3 := fun κ => Yi (fun t => κ (some 0) ⟨dd 2 (.box 2 0 :: .box 3 0 :: dd 25 []), [(2, .box [.nils, .nils]), (3, .box [.own 10000000, .nils]), (10000000, .root true 3 ye t)]⟩) (fun t => κ (some 0) ⟨dd 2 (.box 2 0 :: .box 3 0 :: dd 25 []), [(2, .box [.nils, .nils]), (3, .box [.own 10000000, .own 10000001]), (10000000, .root true 3 ye t.1), (10000001, .root true 98 yf t.2)]⟩)
def yfO : Lp := lpC 3 y7I @yd0 lpN
theorem yi9 : LF yfN yfO 185 3 Tryz.f185 0 y3M @yd0 fun v : yfB => .inl v := fun R κ again v => by kernel_rfl
theorem yia : LF yfN yfO 185 3 Tryz.f185 0 y3M @yd0 fun v : yfC => .inr v := fun R κ again v => by kernel_rfl
theorem ytC : LF yfN yfO 185 3 Tryz.f185 0 y3M @yd0 fun t => t := (LC.sum yi9 yia)
theorem ytD : LK yfN yfO 185 Tryz.f185 0 := lkN (u := y7I) yi8 ytC
theorem yyZ : EV yfN yfO 185 Tryz.f185 yr5 vi vi Je := fun x => by kernel_rfl
def yFM : QF := ⟨185, Je, okN (n := 1) Tryz.func185 ⟨ytD, trivial⟩ yyZ⟩
def vq (x : List yb) : Option (List yb) :=
 if (List.length ([] : List yb) + List.length x) * 24 < 140737488355328 then some (([] : List yb) ++ x) else none
theorem yz0 : EV [] lpN 186 Tryz.f186 yr6 [(.sl 95 yk)] [(.sl 95 yk)] vq := fun x => by kernel_rfl
def yFN : QF := ⟨186, vq, okN (n := 0) Tryz.func186 trivial yz0⟩
def Jz (x : y05) : Option y05 :=
 Option.bind (Je (x.1, x.2.1)) fun r1 => if (List.length ([] : List yo) + List.length x.2.2.1) * 16 < 140737488355328 then Option.bind (vq x.2.2.2.1) fun r2 => if (List.length ([] : List yA) + List.length x.2.2.2.2.1) * 40 < 140737488355328 then some (r1.1, r1.2, (([] : List yo) ++ x.2.2.1), r2, (([] : List yA) ++ x.2.2.2.2.1), x.2.2.2.2.2) else none else none
theorem yz1 : EV [yFM, yFN] lpN 114 Tryz.f114 yr7 wC wC Jz := fun x => by kernel_rfl
def yFO : QF := ⟨114, Jz, okN (n := 0) Tryz.func114 trivial yz1⟩
abbrev V4 : Type := y5C ⊕ y23
def Yj (k0 : yor → Option R) (k1 : yos → Option R) (again : V4 → Option R) : V4 → Option R
 | .inl t3 => bif (decide (t3.1 < (List.length t3.2.1 : Int))) then if (0 : Int) ≤ t3.1 then if t3.1 < (List.length t3.2.1 : Int) then if (List.length ([] : List z0) + List.length (zh t3.2.1 t3.1)) * 1 < 140737488355328 then if List.length ([(([] : List z0) ++ (zh t3.2.1 t3.1))] : List y6) * 24 < 140737488355328 then again (Sum.inr ((Go.IntKind.wrap .i64 (t3.1 + (1 : Int))), t3.2.1, t3.2.2.1, t3.2.2.2.1, t3.2.2.2.2.1, t3.2.2.2.2.2.1, t3.2.2.2.2.2.2.1, t3.2.2.2.2.2.2.2.1, t3.2.2.2.2.2.2.2.2, ([(([] : List z0) ++ (zh t3.2.1 t3.1))] : List y6))) else none else none else none else none else k0 t3.2
 | .inr t3 => bif (decide (t3.1 < (List.length t3.2.1 : Int))) then if (0 : Int) ≤ t3.1 then if t3.1 < (List.length t3.2.1 : Int) then if (List.length ([] : List z0) + List.length (zh t3.2.1 t3.1)) * 1 < 140737488355328 then if (List.length t3.2.2.2.2.2.2.2.2.2 + List.length ([(([] : List z0) ++ (zh t3.2.1 t3.1))] : List y6)) * 24 < 140737488355328 then again (Sum.inr ((Go.IntKind.wrap .i64 (t3.1 + (1 : Int))), t3.2.1, t3.2.2.1, t3.2.2.2.1, t3.2.2.2.2.1, t3.2.2.2.2.2.1, t3.2.2.2.2.2.2.1, t3.2.2.2.2.2.2.2.1, t3.2.2.2.2.2.2.2.2.1, (t3.2.2.2.2.2.2.2.2.2 ++ ([(([] : List z0) ++ (zh t3.2.1 t3.1))] : List y6)))) else none else none else none else none else k1 t3.2
def V5 k0 k1 := yS (@Yj R k0 k1) z3
abbrev V6 : Type := y5C ⊕ ybf ⊕ y23 ⊕ y7i
def z7 (k0 : yow → Option R) (k1 : yox → Option R) (k2 : yoy → Option R) (k3 : yhQ → Option R) (again : V6 → Option R) : V6 → Option R
 | .inl t7 => bif (decide (t7.1 < (List.length t7.2.2.1 : Int))) then if (0 : Int) ≤ t7.1 then if t7.1 < (List.length t7.2.2.1 : Int) then if (0 : Int) ≤ t7.1 then if t7.1 < (List.length t7.2.2.1 : Int) then if (List.length ([] : List z0) + List.length ((yV t7.2.2.1 t7.1).2)) * 1 < 140737488355328 then if List.length ([((yV t7.2.2.1 t7.1).1, (([] : List z0) ++ (yV t7.2.2.1 t7.1).2))] : List yQ) * 32 < 140737488355328 then again (Sum.inr (Sum.inl ((Go.IntKind.wrap .i64 (t7.1 + (1 : Int))), t7.2.1, t7.2.2.1, t7.2.2.2.1, t7.2.2.2.2.1, t7.2.2.2.2.2.1, t7.2.2.2.2.2.2.1, t7.2.2.2.2.2.2.2.1, t7.2.2.2.2.2.2.2.2, ([((yV t7.2.2.1 t7.1).1, (([] : List z0) ++ (yV t7.2.2.1 t7.1).2))] : List yQ)))) else none else none else none else none else none else none else k0 t7.2.2.2.2.2
 | .inr (.inl t7) => bif (decide (t7.1 < (List.length t7.2.2.1 : Int))) then if (0 : Int) ≤ t7.1 then if t7.1 < (List.length t7.2.2.1 : Int) then if (0 : Int) ≤ t7.1 then if t7.1 < (List.length t7.2.2.1 : Int) then if (List.length ([] : List z0) + List.length ((yV t7.2.2.1 t7.1).2)) * 1 < 140737488355328 then if (List.length t7.2.2.2.2.2.2.2.2.2 + List.length ([((yV t7.2.2.1 t7.1).1, (([] : List z0) ++ (yV t7.2.2.1 t7.1).2))] : List yQ)) * 32 < 140737488355328 then again (Sum.inr (Sum.inl ((Go.IntKind.wrap .i64 (t7.1 + (1 : Int))), t7.2.1, t7.2.2.1, t7.2.2.2.1, t7.2.2.2.2.1, t7.2.2.2.2.2.1, t7.2.2.2.2.2.2.1, t7.2.2.2.2.2.2.2.1, t7.2.2.2.2.2.2.2.2.1, (t7.2.2.2.2.2.2.2.2.2 ++ ([((yV t7.2.2.1 t7.1).1, (([] : List z0) ++ (yV t7.2.2.1 t7.1).2))] : List yQ))))) else none else none else none else none else none else none else k1 t7.2.2.2.2.2
 | .inr (.inr (.inl t7)) => bif (decide (t7.1 < (List.length t7.2.2.1 : Int))) then if (0 : Int) ≤ t7.1 then if t7.1 < (List.length t7.2.2.1 : Int) then if (0 : Int) ≤ t7.1 then if t7.1 < (List.length t7.2.2.1 : Int) then if (List.length ([] : List z0) + List.length ((yV t7.2.2.1 t7.1).2)) * 1 < 140737488355328 then if List.length ([((yV t7.2.2.1 t7.1).1, (([] : List z0) ++ (yV t7.2.2.1 t7.1).2))] : List yQ) * 32 < 140737488355328 then again (Sum.inr (Sum.inr (Sum.inr ((Go.IntKind.wrap .i64 (t7.1 + (1 : Int))), t7.2.1, t7.2.2.1, t7.2.2.2.1, t7.2.2.2.2.1, t7.2.2.2.2.2.1, t7.2.2.2.2.2.2.1, t7.2.2.2.2.2.2.2.1, t7.2.2.2.2.2.2.2.2.1, t7.2.2.2.2.2.2.2.2.2, ([((yV t7.2.2.1 t7.1).1, (([] : List z0) ++ (yV t7.2.2.1 t7.1).2))] : List yQ))))) else none else none else none else none else none else none else k2 t7.2.2.2.2.2
 | .inr (.inr (.inr t7)) => bif (decide (t7.1 < (List.length t7.2.2.1 : Int))) then if (0 : Int) ≤ t7.1 then if t7.1 < (List.length t7.2.2.1 : Int) then if (0 : Int) ≤ t7.1 then if t7.1 < (List.length t7.2.2.1 : Int) then if (List.length ([] : List z0) + List.length ((yV t7.2.2.1 t7.1).2)) * 1 < 140737488355328 then if (List.length t7.2.2.2.2.2.2.2.2.2.2 + List.length ([((yV t7.2.2.1 t7.1).1, (([] : List z0) ++ (yV t7.2.2.1 t7.1).2))] : List yQ)) * 32 < 140737488355328 then again (Sum.inr (Sum.inr (Sum.inr ((Go.IntKind.wrap .i64 (t7.1 + (1 : Int))), t7.2.1, t7.2.2.1, t7.2.2.2.1, t7.2.2.2.2.1, t7.2.2.2.2.2.1, t7.2.2.2.2.2.2.1, t7.2.2.2.2.2.2.2.1, t7.2.2.2.2.2.2.2.2.1, t7.2.2.2.2.2.2.2.2.2.1, (t7.2.2.2.2.2.2.2.2.2.2 ++ ([((yV t7.2.2.1 t7.1).1, (([] : List z0) ++ (yV t7.2.2.1 t7.1).2))] : List yQ)))))) else none else none else none else none else none else none else k3 t7.2.2.2.2.2
def YX k0 k1 k2 k3 := yS (@z7 R k0 k1 k2 k3) z3
def We (x : y1v) : Option y1v :=
 V5 (fun x1 => YX (fun x2 => some (([] : List y6), ([] : List yQ), x2.2.2.1, x2.2.2.2)) (fun x3 => some (([] : List y6), x3.2.2.2.2, x3.2.2.1, x3.2.2.2.1)) (fun x4 => some (x4.2.2.2.2, ([] : List yQ), x4.2.2.1, x4.2.2.2.1)) (fun x5 => some (x5.2.2.2.2.1, x5.2.2.2.2.2, x5.2.2.1, x5.2.2.2.1)) (Sum.inl ((0 : Int), x1.1, x1.2.1, x1.2.2.1, x1.2.2.2.1, x1.2.2.2.2.1, x1.2.2.2.2.2.1, x1.2.2.2.2.2.2.1, x1.2.2.2.2.2.2.2))) (fun x6 => YX (fun x7 => some (([] : List y6), ([] : List yQ), x7.2.2.1, x7.2.2.2)) (fun x8 => some (([] : List y6), x8.2.2.2.2, x8.2.2.1, x8.2.2.2.1)) (fun x9 => some (x9.2.2.2.2, ([] : List yQ), x9.2.2.1, x9.2.2.2.1)) (fun x10 => some (x10.2.2.2.2.1, x10.2.2.2.2.2, x10.2.2.1, x10.2.2.2.1)) (Sum.inr (Sum.inr (Sum.inl ((0 : Int), x6.1, x6.2.1, x6.2.2.1, x6.2.2.2.1, x6.2.2.2.2.1, x6.2.2.2.2.2.1, x6.2.2.2.2.2.2.1, x6.2.2.2.2.2.2.2.1, x6.2.2.2.2.2.2.2.2))))) (Sum.inl ((0 : Int), x.1, x.2.1, x.2.2.1, x.2.2.2, (0 : Int), false, x.2.2.1, x.2.2.2))
def y4S : List QF := []
def y3N (t : y5C) : St := ⟨.dead :: .box 1 0 :: .box 2 0 :: .box 3 0 :: vI t.1 :: dd 53 [], [(1, .box [Yf t.2.1, y10 t.2.2.1, vI t.2.2.2.1, vB t.2.2.2.2.1]), (2, .box [.nils, .nils, vI t.2.2.2.2.2.1, vB t.2.2.2.2.2.2.1]), (3, .box [.nils, .nils, vI t.2.2.2.2.2.2.2.1, vB t.2.2.2.2.2.2.2.2])]⟩
theorem yib : ∀ s t, unG yhO y3N s = some t → y3N t = s := ya fun t => by kernel_rfl
def y3O (t : y23) : St := ⟨.dead :: .box 1 0 :: .box 2 0 :: .box 3 0 :: vI t.1 :: dd 53 [], [(1, .box [Yf t.2.1, y10 t.2.2.1, vI t.2.2.2.1, vB t.2.2.2.2.1]), (2, .box [.nils, .nils, vI t.2.2.2.2.2.1, vB t.2.2.2.2.2.2.1]), (3, .box [.own 10000000, .nils, vI t.2.2.2.2.2.2.2.1, vB t.2.2.2.2.2.2.2.2.1]), (10000000, .root true 32 yc t.2.2.2.2.2.2.2.2.2)]⟩
theorem yic : ∀ s t, unG yhP y3O s = some t → y3O t = s := ya fun t => by kernel_rfl
def y3P : (y5C ⊕ y23) → St := Sum.elim y3N y3O
def y7J (s : St) : Option (y5C ⊕ y23) := ((unG yhO y3N s).map Sum.inl).or (((unG yhP y3O) s).map Sum.inr)
theorem yid : ∀ s t, y7J s = some t → y3P t = s := y2C yib yic
def yd1 : Gk V4 := fun κ => Yj (fun t => κ (some 0) ⟨.dead :: .box 1 0 :: .box 2 0 :: .box 3 0 :: dd 54 [], [(1, .box [Yf t.1, y10 t.2.1, vI t.2.2.1, vB t.2.2.2.1]), (2, .box [.nils, .nils, vI t.2.2.2.2.1, vB t.2.2.2.2.2.1]), (3, .box [.nils, .nils, vI t.2.2.2.2.2.2.1, vB t.2.2.2.2.2.2.2])]⟩) (fun t => κ (some 0) ⟨.dead :: .box 1 0 :: .box 2 0 :: .box 3 0 :: dd 54 [], [(1, .box [Yf t.1, y10 t.2.1, vI t.2.2.1, vB t.2.2.2.1]), (2, .box [.nils, .nils, vI t.2.2.2.2.1, vB t.2.2.2.2.2.1]), (3, .box [.own 10000000, .nils, vI t.2.2.2.2.2.2.1, vB t.2.2.2.2.2.2.2.1]), (10000000, .root true 32 yc t.2.2.2.2.2.2.2.2)]⟩)
def y3Q (t : y5C) : St := ⟨.dead :: .box 1 0 :: .box 2 0 :: .box 3 0 :: .dead :: vI t.1 :: dd 52 [], [(1, .box [Yf t.2.1, y10 t.2.2.1, vI t.2.2.2.1, vB t.2.2.2.2.1]), (2, .box [.nils, .nils, vI t.2.2.2.2.2.1, vB t.2.2.2.2.2.2.1]), (3, .box [.nils, .nils, vI t.2.2.2.2.2.2.2.1, vB t.2.2.2.2.2.2.2.2])]⟩
theorem yie : ∀ s t, unG yhO y3Q s = some t → y3Q t = s := ya fun t => by kernel_rfl
def y3R (t : ybf) : St := ⟨.dead :: .box 1 0 :: .box 2 0 :: .box 3 0 :: .dead :: vI t.1 :: dd 52 [], [(1, .box [Yf t.2.1, y10 t.2.2.1, vI t.2.2.2.1, vB t.2.2.2.2.1]), (2, .box [.nils, .nils, vI t.2.2.2.2.2.1, vB t.2.2.2.2.2.2.1]), (3, .box [.nils, .own 10000000, vI t.2.2.2.2.2.2.2.1, vB t.2.2.2.2.2.2.2.2.1]), (10000000, .root true 186 z5 t.2.2.2.2.2.2.2.2.2)]⟩
theorem yif : ∀ s t, unG yot y3R s = some t → y3R t = s := ya fun t => by kernel_rfl
def y3S (t : y23) : St := ⟨.dead :: .box 1 0 :: .box 2 0 :: .box 3 0 :: .dead :: vI t.1 :: dd 52 [], [(1, .box [Yf t.2.1, y10 t.2.2.1, vI t.2.2.2.1, vB t.2.2.2.2.1]), (2, .box [.nils, .nils, vI t.2.2.2.2.2.1, vB t.2.2.2.2.2.2.1]), (3, .box [.own 10000000, .nils, vI t.2.2.2.2.2.2.2.1, vB t.2.2.2.2.2.2.2.2.1]), (10000000, .root true 32 yc t.2.2.2.2.2.2.2.2.2)]⟩
theorem yig : ∀ s t, unG yhP y3S s = some t → y3S t = s := ya fun t => by kernel_rfl
def y3T (t : y7i) : St := ⟨.dead :: .box 1 0 :: .box 2 0 :: .box 3 0 :: .dead :: vI t.1 :: dd 52 [], [(1, .box [Yf t.2.1, y10 t.2.2.1, vI t.2.2.2.1, vB t.2.2.2.2.1]), (2, .box [.nils, .nils, vI t.2.2.2.2.2.1, vB t.2.2.2.2.2.2.1]), (3, .box [.own 10000000, .own 10000001, vI t.2.2.2.2.2.2.2.1, vB t.2.2.2.2.2.2.2.2.1]), (10000000, .root true 32 yc t.2.2.2.2.2.2.2.2.2.1), (10000001, .root true 186 z5 t.2.2.2.2.2.2.2.2.2.2)]⟩
theorem yih : ∀ s t, unG yov y3T s = some t → y3T t = s := ya fun t => by kernel_rfl
def yd2 : (y23 ⊕ y7i) → St := Sum.elim y3S y3T
def yd3 (s : St) : Option (y23 ⊕ y7i) := ((unG yhP y3S s).map Sum.inl).or (((unG yov y3T) s).map Sum.inr)
theorem yii : ∀ s t, yd3 s = some t → yd2 t = s := y2C yig yih
def yd4 : (ybf ⊕ y23 ⊕ y7i) → St := Sum.elim y3R yd2
def yd5 (s : St) : Option (ybf ⊕ y23 ⊕ y7i) := ((unG yot y3R s).map Sum.inl).or ((yd3 s).map Sum.inr)
theorem yij : ∀ s t, yd5 s = some t → yd4 t = s := y2C yif yii
def y0P : (y5C ⊕ ybf ⊕ y23 ⊕ y7i) → St := Sum.elim y3Q yd4
def y7K (s : St) : Option (y5C ⊕ ybf ⊕ y23 ⊕ y7i) := ((unG yhO y3Q s).map Sum.inl).or ((yd5 s).map Sum.inr)
theorem yik : ∀ s t, y7K s = some t → y0P t = s := y2C yie yij
def y6y : Gk V6 := fun κ => z7 (fun t => κ (some 2) ⟨dd 2 (.box 2 0 :: .box 3 0 :: dd 54 []), [(2, .box [.nils, .nils, vI t.1, vB t.2.1]), (3, .box [.nils, .nils, vI t.2.2.1, vB t.2.2.2])]⟩) (fun t => κ (some 2) ⟨dd 2 (.box 2 0 :: .box 3 0 :: dd 54 []), [(2, .box [.nils, .nils, vI t.1, vB t.2.1]), (3, .box [.nils, .own 10000000, vI t.2.2.1, vB t.2.2.2.1]), (10000000, .root true 186 z5 t.2.2.2.2)]⟩) (fun t => κ (some 2) ⟨dd 2 (.box 2 0 :: .box 3 0 :: dd 54 []), [(2, .box [.nils, .nils, vI t.1, vB t.2.1]), (3, .box [.own 10000000, .nils, vI t.2.2.1, vB t.2.2.2.1]), (10000000, .root true 32 yc t.2.2.2.2)]⟩) (fun t => κ (some 2) ⟨dd 2 (.box 2 0 :: .box 3 0 :: dd 54 []), [(2, .box [.nils, .nils, vI t.1, vB t.2.1]), (3, .box [.own 10000000, .own 10000001, vI t.2.2.1, vB t.2.2.2.1]), (10000000, .root true 32 yc t.2.2.2.2.1), (10000001, .root true 186 z5 t.2.2.2.2.2)]⟩)
def y4T : Lp := lpC 7 y7K @y6y (lpC 3 y7J @yd1 lpN)
theorem yil : LF y4S y4T 176 3 Tryz.f176 0 y3P @yd1 fun v : y5C => .inl v := fun R κ again v => by kernel_rfl
theorem yim : LF y4S y4T 176 3 Tryz.f176 0 y3P @yd1 fun v : y23 => .inr v := fun R κ again v => by kernel_rfl
theorem ytE : LF y4S y4T 176 3 Tryz.f176 0 y3P @yd1 fun t => t := (LC.sum yil yim)
theorem ytF : LK y4S y4T 176 Tryz.f176 0 := lkN (u := y7J) yid ytE
theorem yin : LF y4S y4T 176 7 Tryz.f176 1 y0P @y6y fun v : y5C => .inl v := fun R κ again v => by kernel_rfl
theorem yio : LF y4S y4T 176 7 Tryz.f176 1 y0P @y6y fun v : ybf => .inr (.inl v) := fun R κ again v => by kernel_rfl
theorem yip : LF y4S y4T 176 7 Tryz.f176 1 y0P @y6y fun v : y23 => .inr (.inr (.inl v)) := fun R κ again v => by kernel_rfl
theorem yiq : LF y4S y4T 176 7 Tryz.f176 1 y0P @y6y fun v : y7i => .inr (.inr (.inr v)) := fun R κ again v => by kernel_rfl
theorem ytG : LF y4S y4T 176 7 Tryz.f176 1 y0P @y6y fun t => t := (LC.sum yin (LC.sum yio (LC.sum yip yiq)))
theorem ytH : LK y4S y4T 176 Tryz.f176 1 := lkN (u := y7K) yik ytG
theorem yz2 : EV y4S y4T 176 Tryz.f176 yr8 wk wk We := fun x => by kernel_rfl
def yFP : QF := ⟨176, We, okN (n := 2) Tryz.func176 ⟨ytF, ytH, trivial⟩ yz2⟩
def JA (x : y06) : Option y06 :=
 Option.bind (We (x.1, x.2.1, x.2.2.1, x.2.2.2.1)) fun r1 => Option.bind (Jz (x.2.2.2.2.1, x.2.2.2.2.2.1, x.2.2.2.2.2.2.1, x.2.2.2.2.2.2.2.1, x.2.2.2.2.2.2.2.2.1, x.2.2.2.2.2.2.2.2.2.1)) fun r2 => some (r1.1, r1.2.1, r1.2.2.1, r1.2.2.2, r2.1, r2.2.1, r2.2.2.1, r2.2.2.2.1, r2.2.2.2.2.1, r2.2.2.2.2.2, x.2.2.2.2.2.2.2.2.2.2)
theorem yz3 : EV [yFO, yFP] lpN 100 Tryz.f100 yr9 jg jg JA := fun x => by kernel_rfl
def yFQ : QF := ⟨100, JA, okN (n := 0) Tryz.func100 trivial yz3⟩
def yr (x : ylp) : Option Bool :=
 Option.bind (bif (decide (x.1 ≥ x.2.1)) then some (decide (x.1 ≤ x.2.2)) else some false) fun u1 => some u1
theorem yz4 : EV [] lpN 107 Tryz.f107 yra ylq [.bool] yr := fun x => by kernel_rfl
def ybH : QF := ⟨107, yr, okN (n := 0) Tryz.func107 trivial yz4⟩
abbrev Qc : Type := yhR
def Wf (k0 : List y8 → Option R) (again : Qc → Option R) (t3 : Qc) : Option R :=
 bif (decide (t3.2.1 < (List.length t3.1 : Int))) then if (0 : Int) ≤ t3.2.1 then if t3.2.1 < (List.length t3.1 : Int) then bif ((y0 t3.1 t3.2.1).2.2.1 != (0 : Int)) then if (0 : Int) ≤ t3.2.1 then if t3.2.1 < (List.length t3.1 : Int) then if (List.length t3.2.2 + List.length ([((y0 t3.1 t3.2.1).1, (y0 t3.1 t3.2.1).2.1, (y0 t3.1 t3.2.1).2.2.1, (y0 t3.1 t3.2.1).2.2.2.1, (y0 t3.1 t3.2.1).2.2.2.2)] : List y8)) * 40 < 140737488355328 then again (t3.1, (Go.IntKind.wrap .i64 (t3.2.1 + (1 : Int))), (t3.2.2 ++ ([((y0 t3.1 t3.2.1).1, (y0 t3.1 t3.2.1).2.1, (y0 t3.1 t3.2.1).2.2.1, (y0 t3.1 t3.2.1).2.2.2.1, (y0 t3.1 t3.2.1).2.2.2.2)] : List y8))) else none else none else none else again (t3.1, (Go.IntKind.wrap .i64 (t3.2.1 + (1 : Int))), t3.2.2) else none else none else k0 t3.2.2
def y24 k0 := yS (@Wf R k0) z3
def kr (x : List y8) : Option (List y8) :=
 y24 (fun x1 => some x1) (x, (0 : Int), ([] : List y8))
def ymf : List QF := []
def y7L (t : yhR) : St := ⟨qE t.1 :: dd 2 (.own 10000000 :: vI t.2.1 :: dd 21 []), [(10000000, .root true 106 yg t.2.2)]⟩
def yjQ : Gk Qc := fun κ => Wf (fun t => κ (some 0) ⟨dd 3 (.own 10000000 :: dd 22 []), [(10000000, .root true 106 yg t)]⟩)
def ymg : Lp := lpC 3 (unG yhS y7L) @yjQ lpN
theorem ytI : LF ymf ymg 235 3 Tryz.f235 0 y7L @yjQ fun t => t := fun R κ again t => by kernel_rfl
theorem ytJ : LK ymf ymg 235 Tryz.f235 0 := lkN (u := (unG yhS y7L)) (ya fun t => by kernel_rfl) ytI
theorem yz5 : EV ymf ymg 235 Tryz.f235 yrb [(.sl 106 yg)] [(.sl 106 yg)] kr := fun x => by kernel_rfl
def yFR : QF := ⟨235, kr, okN (n := 1) Tryz.func235 ⟨ytJ, trivial⟩ yz5⟩
def ja (x : Qz2) : Option Bool :=
 bif (x.1 != x.2.2.2.2.2.1) then some (decide (x.1 < x.2.2.2.2.2.1)) else some (decide (x.2.1 < x.2.2.2.2.2.2.1))
theorem yz6 : EV [] lpN 266 Tryz.f266 yrc qz2 [.bool] ja := fun x => by kernel_rfl
def yD9 : QF := ⟨266, ja, okN (n := 0) Tryz.func266 trivial yz6⟩
def YY (x : Qz2) : Option Bool :=
 Option.bind (bif (x.1 == x.2.2.2.2.2.1) then some (x.2.1 == x.2.2.2.2.2.2.1) else some false) fun u1 => some u1
theorem yz7 : EV [] lpN 267 Tryz.f267 yrd qz2 [.bool] YY := fun x => by kernel_rfl
def yFS : QF := ⟨267, YY, okN (n := 0) Tryz.func267 trivial yz7⟩
abbrev Wg : Type := yoz
def Yk (k0 : yoB → Option R) (again : Wg → Option R) (t4 : Wg) : Option R :=
 bif (decide (t4.2.2.1 < (List.length t4.1 : Int))) then Option.bind (bif (!t4.2.1) then if (0 : Int) ≤ t4.2.2.1 then if t4.2.2.1 < (List.length t4.1 : Int) then Option.bind (ja ((y0 t4.1 t4.2.2.1).1, (y0 t4.1 t4.2.2.1).2.1, (y0 t4.1 t4.2.2.1).2.2.1, (y0 t4.1 t4.2.2.1).2.2.2.1, (y0 t4.1 t4.2.2.1).2.2.2.2, t4.2.2.2.1, t4.2.2.2.2.1, t4.2.2.2.2.2.1, t4.2.2.2.2.2.2.1, t4.2.2.2.2.2.2.2.1)) fun r2 => some (!r2) else none else none else some false) fun u1 => bif u1 then if (List.length t4.2.2.2.2.2.2.2.2 + List.length ([(t4.2.2.2.1, t4.2.2.2.2.1, t4.2.2.2.2.2.1, t4.2.2.2.2.2.2.1, t4.2.2.2.2.2.2.2.1)] : List y8)) * 40 < 140737488355328 then if (0 : Int) ≤ t4.2.2.1 then if t4.2.2.1 < (List.length t4.1 : Int) then Option.bind (YY ((y0 t4.1 t4.2.2.1).1, (y0 t4.1 t4.2.2.1).2.1, (y0 t4.1 t4.2.2.1).2.2.1, (y0 t4.1 t4.2.2.1).2.2.2.1, (y0 t4.1 t4.2.2.1).2.2.2.2, t4.2.2.2.1, t4.2.2.2.2.1, t4.2.2.2.2.2.1, t4.2.2.2.2.2.2.1, t4.2.2.2.2.2.2.2.1)) fun r3 => bif (!r3) then if (0 : Int) ≤ t4.2.2.1 then if t4.2.2.1 < (List.length t4.1 : Int) then if (List.length (t4.2.2.2.2.2.2.2.2 ++ ([(t4.2.2.2.1, t4.2.2.2.2.1, t4.2.2.2.2.2.1, t4.2.2.2.2.2.2.1, t4.2.2.2.2.2.2.2.1)] : List y8)) + List.length ([((y0 t4.1 t4.2.2.1).1, (y0 t4.1 t4.2.2.1).2.1, (y0 t4.1 t4.2.2.1).2.2.1, (y0 t4.1 t4.2.2.1).2.2.2.1, (y0 t4.1 t4.2.2.1).2.2.2.2)] : List y8)) * 40 < 140737488355328 then again (t4.1, true, (Go.IntKind.wrap .i64 (t4.2.2.1 + (1 : Int))), t4.2.2.2.1, t4.2.2.2.2.1, t4.2.2.2.2.2.1, t4.2.2.2.2.2.2.1, t4.2.2.2.2.2.2.2.1, ((t4.2.2.2.2.2.2.2.2 ++ ([(t4.2.2.2.1, t4.2.2.2.2.1, t4.2.2.2.2.2.1, t4.2.2.2.2.2.2.1, t4.2.2.2.2.2.2.2.1)] : List y8)) ++ ([((y0 t4.1 t4.2.2.1).1, (y0 t4.1 t4.2.2.1).2.1, (y0 t4.1 t4.2.2.1).2.2.1, (y0 t4.1 t4.2.2.1).2.2.2.1, (y0 t4.1 t4.2.2.1).2.2.2.2)] : List y8))) else none else none else none else again (t4.1, true, (Go.IntKind.wrap .i64 (t4.2.2.1 + (1 : Int))), t4.2.2.2.1, t4.2.2.2.2.1, t4.2.2.2.2.2.1, t4.2.2.2.2.2.2.1, t4.2.2.2.2.2.2.2.1, (t4.2.2.2.2.2.2.2.2 ++ ([(t4.2.2.2.1, t4.2.2.2.2.1, t4.2.2.2.2.2.1, t4.2.2.2.2.2.2.1, t4.2.2.2.2.2.2.2.1)] : List y8))) else none else none else none else if (0 : Int) ≤ t4.2.2.1 then if t4.2.2.1 < (List.length t4.1 : Int) then Option.bind (YY ((y0 t4.1 t4.2.2.1).1, (y0 t4.1 t4.2.2.1).2.1, (y0 t4.1 t4.2.2.1).2.2.1, (y0 t4.1 t4.2.2.1).2.2.2.1, (y0 t4.1 t4.2.2.1).2.2.2.2, t4.2.2.2.1, t4.2.2.2.2.1, t4.2.2.2.2.2.1, t4.2.2.2.2.2.2.1, t4.2.2.2.2.2.2.2.1)) fun r4 => bif (!r4) then if (0 : Int) ≤ t4.2.2.1 then if t4.2.2.1 < (List.length t4.1 : Int) then if (List.length t4.2.2.2.2.2.2.2.2 + List.length ([((y0 t4.1 t4.2.2.1).1, (y0 t4.1 t4.2.2.1).2.1, (y0 t4.1 t4.2.2.1).2.2.1, (y0 t4.1 t4.2.2.1).2.2.2.1, (y0 t4.1 t4.2.2.1).2.2.2.2)] : List y8)) * 40 < 140737488355328 then again (t4.1, t4.2.1, (Go.IntKind.wrap .i64 (t4.2.2.1 + (1 : Int))), t4.2.2.2.1, t4.2.2.2.2.1, t4.2.2.2.2.2.1, t4.2.2.2.2.2.2.1, t4.2.2.2.2.2.2.2.1, (t4.2.2.2.2.2.2.2.2 ++ ([((y0 t4.1 t4.2.2.1).1, (y0 t4.1 t4.2.2.1).2.1, (y0 t4.1 t4.2.2.1).2.2.1, (y0 t4.1 t4.2.2.1).2.2.2.1, (y0 t4.1 t4.2.2.1).2.2.2.2)] : List y8))) else none else none else none else again (t4.1, t4.2.1, (Go.IntKind.wrap .i64 (t4.2.2.1 + (1 : Int))), t4.2.2.2.1, t4.2.2.2.2.1, t4.2.2.2.2.2.1, t4.2.2.2.2.2.2.1, t4.2.2.2.2.2.2.2.1, t4.2.2.2.2.2.2.2.2) else none else none else k0 (t4.2.1, t4.2.2.2)
def V7 k0 := yS (@Yk R k0) z3
def Wh (x : yoC) : Option (List y8) :=
 V7 (fun x5 => bif (!x5.1) then if (List.length x5.2.2.2.2.2.2 + List.length ([(x5.2.1, x5.2.2.1, x5.2.2.2.1, x5.2.2.2.2.1, x5.2.2.2.2.2.1)] : List y8)) * 40 < 140737488355328 then some (x5.2.2.2.2.2.2 ++ ([(x5.2.1, x5.2.2.1, x5.2.2.2.1, x5.2.2.2.2.1, x5.2.2.2.2.2.1)] : List y8)) else none else some x5.2.2.2.2.2.2) (x.1, false, (0 : Int), x.2.1, x.2.2.1, x.2.2.2.1, x.2.2.2.2.1, x.2.2.2.2.2, ([] : List y8))
def ymh : List QF := [yD9, yFS]
def y7M (t : yoz) : St := ⟨qE t.1 :: dd 2 (.box 3 0 :: .dead :: .own 10000000 :: vB t.2.1 :: vI t.2.2.1 :: dd 43 []), [(3, .box [vI t.2.2.2.1, vI t.2.2.2.2.1, vI t.2.2.2.2.2.1, vI t.2.2.2.2.2.2.1, vI t.2.2.2.2.2.2.2.1]), (10000000, .root true 106 yg t.2.2.2.2.2.2.2.2)]⟩
def yjR : Gk Wg := fun κ => Yk (fun t => κ (some 0) ⟨dd 3 (.box 3 0 :: .dead :: .own 10000000 :: vB t.1 :: dd 44 []), [(3, .box [vI t.2.1, vI t.2.2.1, vI t.2.2.2.1, vI t.2.2.2.2.1, vI t.2.2.2.2.2.1]), (10000000, .root true 106 yg t.2.2.2.2.2.2)]⟩)
def ymi : Lp := lpC 4 (unG yoA y7M) @yjR lpN
theorem ytK : LF ymh ymi 236 4 Tryz.f236 0 y7M @yjR fun t => t := fun R κ again t => by kernel_rfl
theorem ytL : LK ymh ymi 236 Tryz.f236 0 := lkN (u := (unG yoA y7M)) (ya fun t => by kernel_rfl) ytK
theorem yz8 : EV ymh ymi 236 Tryz.f236 yre yoD [(.sl 106 yg)] Wh := fun x => by kernel_rfl
def yFT : QF := ⟨236, Wh, okN (n := 1) Tryz.func236 ⟨ytL, trivial⟩ yz8⟩
abbrev Wi : Type := yhR
def YD (k0 : List y8 → Option R) (again : Wi → Option R) (t3 : Wi) : Option R :=
 bif (decide (t3.2.1 < (List.length t3.1 : Int))) then if (0 : Int) ≤ t3.2.1 then if t3.2.1 < (List.length t3.1 : Int) then Option.bind (Wh (t3.2.2, (y0 t3.1 t3.2.1).1, (y0 t3.1 t3.2.1).2.1, (y0 t3.1 t3.2.1).2.2.1, (y0 t3.1 t3.2.1).2.2.2.1, (y0 t3.1 t3.2.1).2.2.2.2)) fun r1 => again (t3.1, (Go.IntKind.wrap .i64 (t3.2.1 + (1 : Int))), r1) else none else none else k0 t3.2.2
def q6 k0 := yS (@YD R k0) z3
def Yu (x : Qz4) : Option (List y8) :=
 if (List.length ([] : List y8) + List.length x.1) * 40 < 140737488355328 then q6 (fun x2 => some x2) (x.2, (0 : Int), (([] : List y8) ++ x.1)) else none
def ymj : List QF := [yFT]
def y7N (t : yhR) : St := ⟨.dead :: qE t.1 :: dd 3 (.own 10000000 :: vI t.2.1 :: dd 16 []), [(10000000, .root true 106 yg t.2.2)]⟩
def yjS : Gk Wi := fun κ => YD (fun t => κ (some 0) ⟨dd 5 (.own 10000000 :: dd 17 []), [(10000000, .root true 106 yg t)]⟩)
def ymk : Lp := lpC 3 (unG yhS y7N) @yjS lpN
theorem ytM : LF ymj ymk 261 3 Tryz.f261 0 y7N @yjS fun t => t := fun R κ again t => by kernel_rfl
theorem ytN : LK ymj ymk 261 Tryz.f261 0 := lkN (u := (unG yhS y7N)) (ya fun t => by kernel_rfl) ytM
theorem yz9 : EV ymj ymk 261 Tryz.f261 yrf qz4 [(.sl 106 yg)] Yu := fun x => by kernel_rfl
def yFU : QF := ⟨261, Yu, okN (n := 1) Tryz.func261 ⟨ytN, trivial⟩ yz9⟩
abbrev kt : Type := yoE
def YZ (k0 : List y8 → Option R) (again : kt → Option R) (t3 : kt) : Option R :=
 bif (decide (t3.1 < (List.length t3.2.1 : Int))) then if (0 : Int) ≤ t3.1 then if t3.1 < (List.length t3.2.1 : Int) then Option.bind (Yu (t3.2.2, (yh t3.2.1 t3.1))) fun r1 => again ((Go.IntKind.wrap .i64 (t3.1 + (1 : Int))), t3.2.1, r1) else none else none else k0 t3.2.2
def qR k0 := yS (@YZ R k0) z3
def zP (x : List y9) : Option (List y8) :=
 qR (fun x2 => Option.bind (kr x2) fun r3 => some r3) ((0 : Int), x, ([] : List y8))
def yml : List QF := [yFR, yFU]
def y7O (t : yoE) : St := ⟨.dead :: .box 1 0 :: .dead :: .own 10000000 :: vI t.1 :: dd 17 [], [(1, .box [zC t.2.1]), (10000000, .root true 106 yg t.2.2)]⟩
def yjT : Gk kt := fun κ => YZ (fun t => κ (some 0) ⟨dd 3 (.own 10000000 :: dd 18 []), [(10000000, .root true 106 yg t)]⟩)
def ymm : Lp := lpC 3 (unG yoF y7O) @yjT lpN
theorem ytO : LF yml ymm 230 3 Tryz.f230 0 y7O @yjT fun t => t := fun R κ again t => by kernel_rfl
theorem ytP : LK yml ymm 230 Tryz.f230 0 := lkN (u := (unG yoF y7O)) (ya fun t => by kernel_rfl) ytO
theorem yza : EV yml ymm 230 Tryz.f230 yrg [(.sl 100 yj)] [(.sl 106 yg)] zP := fun x => by kernel_rfl
def yDa : QF := ⟨230, zP, okN (n := 1) Tryz.func230 ⟨ytP, trivial⟩ yza⟩
abbrev ku : Type := yoG
def Z0 (k0 : List y8 → Option R) (again : ku → Option R) (t3 : ku) : Option R :=
 bif (decide (t3.1 < (List.length t3.2.2.1 : Int))) then if (0 : Int) ≤ t3.1 then if t3.1 < (List.length t3.2.2.1 : Int) then Option.bind (zP (ym t3.2.2.1 t3.1)) fun r1 => if (List.length t3.2.2.2 + List.length r1) * 40 < 140737488355328 then again ((Go.IntKind.wrap .i64 (t3.1 + (1 : Int))), t3.2.1, t3.2.2.1, (t3.2.2.2 ++ r1)) else none else none else none else k0 t3.2.2.2
def qS k0 := yS (@Z0 R k0) z3
def zQ (x : y3o) : Option (List y8) :=
 qS (fun x2 => some x2) ((0 : Int), x.1, x.2, ([] : List y8))
def ymn : List QF := [yDa]
def y7P (t : yoG) : St := ⟨.dead :: .box 1 0 :: .dead :: .own 10000000 :: vI t.1 :: dd 17 [], [(1, .box [zi t.2.1, yC t.2.2.1]), (10000000, .root true 106 yg t.2.2.2)]⟩
def yjU : Gk ku := fun κ => Z0 (fun t => κ (some 0) ⟨dd 3 (.own 10000000 :: dd 18 []), [(10000000, .root true 106 yg t)]⟩)
def ymo : Lp := lpC 3 (unG yoH y7P) @yjU lpN
theorem ytQ : LF ymn ymo 188 3 Tryz.f188 0 y7P @yjU fun t => t := fun R κ again t => by kernel_rfl
theorem ytR : LK ymn ymo 188 Tryz.f188 0 := lkN (u := (unG yoH y7P)) (ya fun t => by kernel_rfl) ytQ
theorem yzb : EV ymn ymo 188 Tryz.f188 yrh vi [(.sl 106 yg)] zQ := fun x => by kernel_rfl
def yDb : QF := ⟨188, zQ, okN (n := 1) Tryz.func188 ⟨ytR, trivial⟩ yzb⟩
def vr (x : y4Q) : Option Int :=
 some (Go.IntKind.wrap .i64 ((Go.IntKind.wrap .i64 ((64 : Int) * x.1)) + x.2))
theorem yzc : EV [] lpN 264 Tryz.f264 yri yeK [(.int .i64)] vr := fun x => by kernel_rfl
def yFV : QF := ⟨264, vr, okN (n := 0) Tryz.func264 trivial yzc⟩
def vt (x : yhN) : Option Int :=
 Option.bind (vr (x.1, x.2.1)) fun r1 => some r1
theorem yzd : EV [yFV] lpN 237 Tryz.f237 yrj y16 [(.int .i64)] vt := fun x => by kernel_rfl
def yFW : QF := ⟨237, vt, okN (n := 0) Tryz.func237 trivial yzd⟩
def wA (x : yhN) : Option Bool :=
 Option.bind (yr (x.1, (0 : Int), (15 : Int))) fun r1 => Option.bind (bif (!r1) then some true else Option.bind (yr (x.2.1, (1 : Int), (60 : Int))) fun r3 => some (!r3)) fun u2 => Option.bind (bif u2 then some true else Option.bind (yr (x.2.2.1, (0 : Int), (2 : Int))) fun r5 => some (!r5)) fun u4 => bif u4 then some false else bif (x.2.2.1 == (1 : Int)) then Option.bind (yr (x.2.2.2.1, (0 : Int), (23 : Int))) fun r6 => Option.bind (bif r6 then Option.bind (yr (x.2.2.2.2, (0 : Int), (999 : Int))) fun r8 => some r8 else some false) fun u7 => some u7 else Option.bind (bif (x.2.2.2.1 == (0 : Int)) then some (x.2.2.2.2 == (0 : Int)) else some false) fun u9 => some u9
theorem yze : EV [ybH] lpN 202 Tryz.f202 yrk y16 [.bool] wA := fun x => by kernel_rfl
def yDc : QF := ⟨202, wA, okN (n := 0) Tryz.func202 trivial yze⟩
abbrev KK : Type := ynH
def ZN (k0 : Bool → Option R) (k1 : Unit → Option R) (again : KK → Option R) (t2 : KK) : Option R :=
 bif (decide (t2.2 < (List.length t2.1 : Int))) then if (0 : Int) ≤ (Go.IntKind.wrap .i64 (t2.2 - (1 : Int))) then if (Go.IntKind.wrap .i64 (t2.2 - (1 : Int))) < (List.length t2.1 : Int) then if (0 : Int) ≤ t2.2 then if t2.2 < (List.length t2.1 : Int) then Option.bind (ja ((y0 t2.1 (Go.IntKind.wrap .i64 (t2.2 - (1 : Int)))).1, (y0 t2.1 (Go.IntKind.wrap .i64 (t2.2 - (1 : Int)))).2.1, (y0 t2.1 (Go.IntKind.wrap .i64 (t2.2 - (1 : Int)))).2.2.1, (y0 t2.1 (Go.IntKind.wrap .i64 (t2.2 - (1 : Int)))).2.2.2.1, (y0 t2.1 (Go.IntKind.wrap .i64 (t2.2 - (1 : Int)))).2.2.2.2, (y0 t2.1 t2.2).1, (y0 t2.1 t2.2).2.1, (y0 t2.1 t2.2).2.2.1, (y0 t2.1 t2.2).2.2.2.1, (y0 t2.1 t2.2).2.2.2.2)) fun r1 => bif (!r1) then k0 false else again (t2.1, (Go.IntKind.wrap .i64 (t2.2 + (1 : Int)))) else none else none else none else none else k1 ()
def QB k0 k1 := yS (@ZN R k0 k1) z3
def JB (x : List y8) : Option Bool :=
 QB (fun x2 => some x2) (fun x3 => some true) (x, (1 : Int))
def ymp : List QF := [yD9]
def y7Q (t : ynH) : St := ⟨qE t.1 :: dd 2 (vI t.2 :: dd 17 []), []⟩
def yjV : Gk KK := fun κ => ZN (fun t => κ none ⟨dd 2 (vB t :: dd 18 []), []⟩) (fun t => κ (some 0) ⟨dd 21 [], []⟩)
def ymq : Lp := lpC 2 (unG ynI y7Q) @yjV lpN
theorem ytS : LF ymp ymq 300 2 Tryz.f300 0 y7Q @yjV fun t => t := fun R κ again t => by kernel_rfl
theorem ytT : LK ymp ymq 300 Tryz.f300 0 := lkN (u := (unG ynI y7Q)) (ya fun t => by kernel_rfl) ytS
theorem yzf : EV ymp ymq 300 Tryz.f300 yrl [(.sl 106 yg)] [.bool] JB := fun x => by kernel_rfl
def yFX : QF := ⟨300, JB, okN (n := 1) Tryz.func300 ⟨ytT, trivial⟩ yzf⟩
abbrev qk : Type := ynH
def JC (k0 : yoI → Option R) (k1 : List y8 → Option R) (again : qk → Option R) (t2 : qk) : Option R :=
 bif (decide (t2.2 < (List.length t2.1 : Int))) then if (0 : Int) ≤ t2.2 then if t2.2 < (List.length t2.1 : Int) then Option.bind (wA ((y0 t2.1 t2.2).1, (y0 t2.1 t2.2).2.1, (y0 t2.1 t2.2).2.2.1, (y0 t2.1 t2.2).2.2.2.1, (y0 t2.1 t2.2).2.2.2.2)) fun r1 => bif (!r1) then k0 (t2.1, false) else again (t2.1, (Go.IntKind.wrap .i64 (t2.2 + (1 : Int)))) else none else none else k1 t2.1
def y1a k0 k1 := yS (@JC R k0 k1) z3
def Km (x : List y8) : Option Bool :=
 y1a (fun x2 => some x2.2) (fun x3 => Option.bind (JB x3) fun r4 => Option.bind (bif r4 then some (decide ((List.length x3 : Int) ≤ (60 : Int))) else some false) fun u5 => some u5) (x, (0 : Int))
def ymr : List QF := [yDc, yFX]
def y7R (t : ynH) : St := ⟨qE t.1 :: dd 2 (vI t.2 :: dd 19 []), []⟩
def yjW : Gk qk := fun κ => JC (fun t => κ none ⟨qE t.1 :: .dead :: vB t.2 :: dd 20 [], []⟩) (fun t => κ (some 0) ⟨qE t :: dd 22 [], []⟩)
def yms : Lp := lpC 2 (unG ynI y7R) @yjW lpN
theorem ytU : LF ymr yms 276 2 Tryz.f276 0 y7R @yjW fun t => t := fun R κ again t => by kernel_rfl
theorem ytV : LK ymr yms 276 Tryz.f276 0 := lkN (u := (unG ynI y7R)) (ya fun t => by kernel_rfl) ytU
theorem yzg : EV ymr yms 276 Tryz.f276 yrm [(.sl 106 yg)] [.bool] Km := fun x => by kernel_rfl
def yFY : QF := ⟨276, Km, okN (n := 1) Tryz.func276 ⟨ytV, trivial⟩ yzg⟩
abbrev KL : Type := yvS
def ZO (k0 : Int → Option R) (again : KL → Option R) (t3 : KL) : Option R :=
 bif (decide (t3.2.1 < (List.length t3.2.2 : Int))) then if (0 : Int) ≤ t3.2.1 then if t3.2.1 < (List.length t3.2.2 : Int) then again ((Go.IntKind.wrap .i64 (t3.1 + (List.length (yh t3.2.2 t3.2.1) : Int))), (Go.IntKind.wrap .i64 (t3.2.1 + (1 : Int))), t3.2.2) else none else none else k0 t3.1
def QC k0 := yS (@ZO R k0) z3
def JD (x : List y9) : Option Int :=
 QC (fun x1 => some x1) ((0 : Int), (0 : Int), x)
def ymt : List QF := []
def y7S (t : yvS) : St := ⟨.dead :: .box 1 0 :: .dead :: vI t.1 :: vI t.2.1 :: dd 16 [], [(1, .box [zC t.2.2])]⟩
def yjX : Gk KL := fun κ => ZO (fun t => κ (some 0) ⟨dd 3 (vI t :: dd 17 []), []⟩)
def ymu : Lp := lpC 3 (unG yvT y7S) @yjX lpN
theorem ytW : LF ymt ymu 277 3 Tryz.f277 0 y7S @yjX fun t => t := fun R κ again t => by kernel_rfl
theorem ytX : LK ymt ymu 277 Tryz.f277 0 := lkN (u := (unG yvT y7S)) (ya fun t => by kernel_rfl) ytW
theorem yzh : EV ymt ymu 277 Tryz.f277 yrn [(.sl 100 yj)] [(.int .i64)] JD := fun x => by kernel_rfl
def yFZ : QF := ⟨277, JD, okN (n := 1) Tryz.func277 ⟨ytX, trivial⟩ yzh⟩
abbrev V8 : Type := yh4
def jJ (k0 : ywr → Option R) (k1 : List y9 → Option R) (again : V8 → Option R) (t2 : V8) : Option R :=
 bif (decide (t2.1 < (List.length t2.2 : Int))) then if (0 : Int) ≤ t2.1 then if t2.1 < (List.length t2.2 : Int) then Option.bind (Km (yh t2.2 t2.1)) fun r1 => Option.bind (bif (!r1) then some true else if (0 : Int) ≤ t2.1 then if t2.1 < (List.length t2.2 : Int) then some ((List.length (yh t2.2 t2.1) : Int) == (0 : Int)) else none else none) fun u2 => bif u2 then k0 (false, t2.2) else again ((Go.IntKind.wrap .i64 (t2.1 + (1 : Int))), t2.2) else none else none else k1 t2.2
def y0i k0 k1 := yS (@jJ R k0 k1) z3
def Wj (x : List y9) : Option Bool :=
 y0i (fun x3 => some x3.1) (fun x4 => Option.bind (bif (decide ((List.length x4 : Int) ≤ (3 : Int))) then Option.bind (JD x4) fun r6 => some (decide (r6 ≤ (8 : Int))) else some false) fun u5 => some u5) ((0 : Int), x)
def ymv : List QF := [yFY, yFZ]
def y7T (t : yh4) : St := ⟨.dead :: .box 1 0 :: .dead :: vI t.1 :: dd 32 [], [(1, .box [zC t.2])]⟩
def yjY : Gk V8 := fun κ => jJ (fun t => κ none ⟨.dead :: .box 1 0 :: vB t.1 :: dd 33 [], [(1, .box [zC t.2])]⟩) (fun t => κ (some 0) ⟨.dead :: .box 1 0 :: dd 34 [], [(1, .box [zC t])]⟩)
def ymw : Lp := lpC 2 (unG yo6 y7T) @yjY lpN
theorem ytY : LF ymv ymw 244 2 Tryz.f244 0 y7T @yjY fun t => t := fun R κ again t => by kernel_rfl
theorem ytZ : LK ymv ymw 244 Tryz.f244 0 := lkN (u := (unG yo6 y7T)) (ya fun t => by kernel_rfl) ytY
theorem yzi : EV ymv ymw 244 Tryz.f244 yro [(.sl 100 yj)] [.bool] Wj := fun x => by kernel_rfl
def yG0 : QF := ⟨244, Wj, okN (n := 1) Tryz.func244 ⟨ytZ, trivial⟩ yzi⟩
abbrev V9 : Type := yoJ
def jK (k0 : yws → Option R) (k1 : ylr → Option R) (again : V9 → Option R) (t8 : V9) : Option R :=
 if (0 : Int) ≤ t8.2.1 then if t8.2.1 < (List.length t8.2.2.2.2.2 : Int) then bif (decide (t8.2.2.1 < (List.length (yh t8.2.2.2.2.2 t8.2.1) : Int))) then if (0 : Int) ≤ t8.2.1 then if t8.2.1 < (List.length t8.2.2.2.2.2 : Int) then if (0 : Int) ≤ t8.2.2.1 then if t8.2.2.1 < (List.length (yh t8.2.2.2.2.2 t8.2.1) : Int) then Option.bind (vt ((y0 (yh t8.2.2.2.2.2 t8.2.1) t8.2.2.1).1, (y0 (yh t8.2.2.2.2.2 t8.2.1) t8.2.2.1).2.1, (y0 (yh t8.2.2.2.2.2 t8.2.1) t8.2.2.1).2.2.1, (y0 (yh t8.2.2.2.2.2 t8.2.1) t8.2.2.1).2.2.2.1, (y0 (yh t8.2.2.2.2.2 t8.2.1) t8.2.2.1).2.2.2.2)) fun r5 => if (0 : Int) ≤ t8.1 then if t8.1 < (List.length t8.2.2.2.1 : Int) then Option.bind (bif (decide (r5 < (zy t8.2.2.2.1 t8.1))) then some true else Option.bind (bif (decide ((Go.IntKind.wrap .i64 (t8.1 + (1 : Int))) < (List.length t8.2.2.2.1 : Int))) then if (0 : Int) ≤ (Go.IntKind.wrap .i64 (t8.1 + (1 : Int))) then if (Go.IntKind.wrap .i64 (t8.1 + (1 : Int))) < (List.length t8.2.2.2.1 : Int) then some (decide (r5 ≥ (zy t8.2.2.2.1 (Go.IntKind.wrap .i64 (t8.1 + (1 : Int)))))) else none else none else some false) fun u7 => some u7) fun u6 => bif u6 then k0 (t8.1, false, t8.2.1, t8.2.2.2) else again (t8.1, t8.2.1, (Go.IntKind.wrap .i64 (t8.2.2.1 + (1 : Int))), t8.2.2.2.1, t8.2.2.2.2.1, t8.2.2.2.2.2) else none else none else none else none else none else none else k1 (t8.1, t8.2.1, t8.2.2.2) else none else none
def Va k0 k1 := yS (@jK R k0 k1) z3
abbrev Vb : Type := ylr
def jL (k0 : Bool → Option R) (k1 : Unit → Option R) (again : Vb → Option R) (t5 : Vb) : Option R :=
 bif (decide (t5.2.1 < (List.length t5.2.2.2.2 : Int))) then Va (fun x8 => k0 x8.2.1) (fun x9 => again (x9.1, (Go.IntKind.wrap .i64 (x9.2.1 + (1 : Int))), x9.2.2.1, x9.2.2.2.1, x9.2.2.2.2)) (t5.1, t5.2.1, (0 : Int), t5.2.2.1, t5.2.2.2.1, t5.2.2.2.2) else k1 ()
def Vc k0 k1 := yS (@jL R k0 k1) z3
def Wk (x : yvU) : Option Bool :=
 if (0 : Int) ≤ x.2.2 then if x.2.2 < (List.length x.2.1 : Int) then Option.bind (Wj (ym x.2.1 x.2.2)) fun r1 => Option.bind (bif (!r1) then some true else Option.bind (bif (decide (x.2.2 > (0 : Int))) then Option.bind (zP (ym x.2.1 x.2.2)) fun r4 => some ((List.length r4 : Int) == (0 : Int)) else some false) fun u3 => some u3) fun u2 => bif u2 then some false else Vc (fun x10 => some x10) (fun x11 => some true) (x.2.2, (0 : Int), x.1, x.2.1, (ym x.2.1 x.2.2)) else none else none
def yfP : List QF := [yDa, yFW, yG0]
def y7U (t : yoJ) : St := ⟨.dead :: vI t.1 :: .box 2 0 :: dd 2 (.box 5 0 :: vI t.2.1 :: vI t.2.2.1 :: dd 70 []), [(2, .box [zi t.2.2.2.1, yC t.2.2.2.2.1]), (5, .box [zC t.2.2.2.2.2])]⟩
def yjZ : Gk V9 := fun κ => jK (fun t => κ none ⟨.dead :: vI t.1 :: .box 2 0 :: .dead :: vB t.2.1 :: .box 5 0 :: vI t.2.2.1 :: dd 71 [], [(2, .box [zi t.2.2.2.1, yC t.2.2.2.2.1]), (5, .box [zC t.2.2.2.2.2])]⟩) (fun t => κ (some 2) ⟨.dead :: vI t.1 :: .box 2 0 :: dd 2 (.box 5 0 :: vI t.2.1 :: dd 71 []), [(2, .box [zi t.2.2.1, yC t.2.2.2.1]), (5, .box [zC t.2.2.2.2])]⟩)
def y7V (t : ylr) : St := ⟨.dead :: vI t.1 :: .box 2 0 :: dd 2 (.box 5 0 :: vI t.2.1 :: dd 71 []), [(2, .box [zi t.2.2.1, yC t.2.2.2.1]), (5, .box [zC t.2.2.2.2])]⟩
def yk0 : Gk Vb := fun κ => jL (fun t => κ none ⟨dd 4 (vB t :: dd 73 []), []⟩) (fun t => κ (some 0) ⟨dd 78 [], []⟩)
def yfQ : Lp := lpC 5 (unG yoL y7V) @yk0 (lpC 8 (unG yoK y7U) @yjZ lpN)
theorem yu0 : LF yfP yfQ 195 8 Tryz.f195 1 y7U @yjZ fun t => t := fun R κ again t => by kernel_rfl
theorem yu1 : LK yfP yfQ 195 Tryz.f195 1 := lkN (u := (unG yoK y7U)) (ya fun t => by kernel_rfl) yu0
theorem yu2 : LF yfP yfQ 195 5 Tryz.f195 0 y7V @yk0 fun t => t := fun R κ again t => by kernel_rfl
theorem yu3 : LK yfP yfQ 195 Tryz.f195 0 := lkN (u := (unG yoL y7V)) (ya fun t => by kernel_rfl) yu2
theorem yzj : EV yfP yfQ 195 Tryz.f195 yrp yvV [.bool] Wk := fun x => by kernel_rfl
def yG1 : QF := ⟨195, Wk, okN (n := 2) Tryz.func195 ⟨yu3, yu1, trivial⟩ yzj⟩
abbrev Vd : Type := ywi
def jM (k0 : ywt → Option R) (k1 : y3o → Option R) (again : Vd → Option R) (t4 : Vd) : Option R :=
 bif (decide (t4.1 < (List.length t4.2.2 : Int))) then Option.bind (bif (decide (t4.1 > (0 : Int))) then if (0 : Int) ≤ (Go.IntKind.wrap .i64 (t4.1 - (1 : Int))) then if (Go.IntKind.wrap .i64 (t4.1 - (1 : Int))) < (List.length t4.2.1 : Int) then if (0 : Int) ≤ t4.1 then if t4.1 < (List.length t4.2.1 : Int) then some (decide ((zy t4.2.1 (Go.IntKind.wrap .i64 (t4.1 - (1 : Int)))) ≥ (zy t4.2.1 t4.1))) else none else none else none else none else some false) fun u4 => Option.bind (bif u4 then some true else Option.bind (Wk (t4.2.1, t4.2.2, t4.1)) fun r6 => some (!r6)) fun u5 => bif u5 then k0 (false, t4.2) else again ((Go.IntKind.wrap .i64 (t4.1 + (1 : Int))), t4.2.1, t4.2.2) else k1 t4.2
def y0j k0 k1 := yS (@jM R k0 k1) z3
def Wl (x : y3o) : Option Bool :=
 Option.bind (yr ((List.length x.2 : Int), (1 : Int), (20 : Int))) fun r1 => Option.bind (bif (!r1) then some true else some ((List.length x.1 : Int) != (List.length x.2 : Int))) fun u2 => Option.bind (bif u2 then some true else if (0 : Int) ≤ (0 : Int) then if (0 : Int) < (List.length x.1 : Int) then some ((zy x.1 (0 : Int)) != (0 : Int)) else none else none) fun u3 => bif u3 then some false else y0j (fun x7 => some x7.1) (fun x8 => Option.bind (zQ x8) fun r9 => some (decide ((List.length r9 : Int) ≤ (60 : Int)))) ((0 : Int), x.1, x.2)
def ymx : List QF := [ybH, yDb, yG1]
def y7W (t : ywi) : St := ⟨.dead :: .box 1 0 :: .dead :: vI t.1 :: dd 54 [], [(1, .box [zi t.2.1, yC t.2.2])]⟩
def yk1 : Gk Vd := fun κ => jM (fun t => κ none ⟨.dead :: .box 1 0 :: vB t.1 :: dd 55 [], [(1, .box [zi t.2.1, yC t.2.2])]⟩) (fun t => κ (some 0) ⟨.dead :: .box 1 0 :: dd 56 [], [(1, .box [zi t.1, yC t.2])]⟩)
def ymy : Lp := lpC 4 (unG ywj y7W) @yk1 lpN
theorem yu4 : LF ymx ymy 120 4 Tryz.f120 0 y7W @yk1 fun t => t := fun R κ again t => by kernel_rfl
theorem yu5 : LK ymx ymy 120 Tryz.f120 0 := lkN (u := (unG ywj y7W)) (ya fun t => by kernel_rfl) yu4
theorem yzk : EV ymx ymy 120 Tryz.f120 yrq vi [.bool] Wl := fun x => by kernel_rfl
def yG2 : QF := ⟨120, Wl, okN (n := 1) Tryz.func120 ⟨yu5, trivial⟩ yzk⟩
abbrev qm : Type := yw0
def JE (k0 : Int → Option R) (k1 : Unit → Option R) (again : qm → Option R) (t2 : qm) : Option R :=
 bif (decide (t2.2.2 < (List.length t2.1 : Int))) then if (0 : Int) ≤ t2.2.2 then if t2.2.2 < (List.length t2.1 : Int) then bif ((z6 t2.1 t2.2.2).1 == t2.2.1) then k0 t2.2.2 else again (t2.1, t2.2.1, (Go.IntKind.wrap .i64 (t2.2.2 + (1 : Int)))) else none else none else k1 ()
def y1b k0 k1 := yS (@JE R k0 k1) z3
def Zp (x : yhL) : Option Int :=
 y1b (fun x1 => some x1) (fun x2 => some (-1 : Int)) (x.1, x.2, (0 : Int))
def ymz : List QF := []
def y7X (t : yw0) : St := ⟨zr t.1 :: vI t.2.1 :: dd 3 (vI t.2.2 :: dd 14 []), []⟩
def yk2 : Gk qm := fun κ => JE (fun t => κ none ⟨dd 4 (vI t :: dd 15 []), []⟩) (fun t => κ (some 0) ⟨dd 20 [], []⟩)
def ymA : Lp := lpC 2 (unG yw1 y7X) @yk2 lpN
theorem yu6 : LF ymz ymA 196 2 Tryz.f196 0 y7X @yk2 fun t => t := fun R κ again t => by kernel_rfl
theorem yu7 : LK ymz ymA 196 Tryz.f196 0 := lkN (u := (unG yw1 y7X)) (ya fun t => by kernel_rfl) yu6
theorem yzl : EV ymz ymA 196 Tryz.f196 yrr yhM [(.int .i64)] Zp := fun x => by kernel_rfl
def yzm : QF := ⟨196, Zp, okN (n := 1) Tryz.func196 ⟨yu7, trivial⟩ yzl⟩
abbrev Ve : Type := yhL
def jN (k0 : yoM → Option R) (k1 : List yo → Option R) (again : Ve → Option R) (t2 : Ve) : Option R :=
 bif (decide (t2.2 < (List.length t2.1 : Int))) then if (0 : Int) ≤ t2.2 then if t2.2 < (List.length t2.1 : Int) then Option.bind (yr ((z6 t2.1 t2.2).1, (1 : Int), (60 : Int))) fun r1 => Option.bind (bif (!r1) then some true else Option.bind (bif (decide (t2.2 > (0 : Int))) then if (0 : Int) ≤ (Go.IntKind.wrap .i64 (t2.2 - (1 : Int))) then if (Go.IntKind.wrap .i64 (t2.2 - (1 : Int))) < (List.length t2.1 : Int) then if (0 : Int) ≤ t2.2 then if t2.2 < (List.length t2.1 : Int) then some (decide ((z6 t2.1 (Go.IntKind.wrap .i64 (t2.2 - (1 : Int)))).1 ≥ (z6 t2.1 t2.2).1)) else none else none else none else none else some false) fun u3 => some u3) fun u2 => bif u2 then k0 (t2.1, false) else if (0 : Int) ≤ t2.2 then if t2.2 < (List.length t2.1 : Int) then Option.bind (bif ((z6 t2.1 t2.2).2 != (0 : Int)) then if (0 : Int) ≤ (0 : Int) then if (0 : Int) ≤ t2.2 then if t2.2 ≤ (List.length t2.1 : Int) then if (0 : Int) ≤ t2.2 then if t2.2 < (List.length t2.1 : Int) then Option.bind (Zp ((List.drop (Int.toNat (0 : Int)) (List.take (Int.toNat t2.2) t2.1)), (z6 t2.1 t2.2).2)) fun r5 => some (decide (r5 < (0 : Int))) else none else none else none else none else none else some false) fun u4 => bif u4 then k0 (t2.1, false) else again (t2.1, (Go.IntKind.wrap .i64 (t2.2 + (1 : Int)))) else none else none else none else none else k1 t2.1
def y0k k0 k1 := yS (@jN R k0 k1) z3
def Wm (x : List yo) : Option Bool :=
 y0k (fun x6 => some x6.2) (fun x7 => some (decide ((List.length x7 : Int) ≤ (16 : Int)))) (x, (0 : Int))
def ymB : List QF := [ybH, yzm]
def y7Y (t : yhL) : St := ⟨zr t.1 :: dd 2 (vI t.2 :: dd 52 []), []⟩
def yk3 : Gk Ve := fun κ => jN (fun t => κ none ⟨zr t.1 :: .dead :: vB t.2 :: dd 53 [], []⟩) (fun t => κ (some 0) ⟨zr t :: dd 55 [], []⟩)
def ymC : Lp := lpC 2 (unG yhM y7Y) @yk3 lpN
theorem yu8 : LF ymB ymC 121 2 Tryz.f121 0 y7Y @yk3 fun t => t := fun R κ again t => by kernel_rfl
theorem yu9 : LK ymB ymC 121 Tryz.f121 0 := lkN (u := (unG yhM y7Y)) (ya fun t => by kernel_rfl) yu8
theorem yzn : EV ymB ymC 121 Tryz.f121 yrs [(.sl 89 yB)] [.bool] Wm := fun x => by kernel_rfl
def yG3 : QF := ⟨121, Wm, okN (n := 1) Tryz.func121 ⟨yu9, trivial⟩ yzn⟩
def Wn (x : Int) : Option Bool :=
 Option.bind (yr (x, (0 : Int), (65535 : Int))) fun r1 => some r1
theorem yzo : EV [ybH] lpN 197 Tryz.f197 yrt [(.int .i64)] [.bool] Wn := fun x => by kernel_rfl
def yG4 : QF := ⟨197, Wn, okN (n := 0) Tryz.func197 trivial yzo⟩
abbrev KM : Type := yvW
def ZP (k0 : yoN → Option R) (k1 : List yb → Option R) (again : KM → Option R) (t2 : KM) : Option R :=
 bif (decide (t2.2 < (List.length t2.1 : Int))) then if (0 : Int) ≤ t2.2 then if t2.2 < (List.length t2.1 : Int) then Option.bind (yr ((yl t2.1 t2.2).1, (0 : Int), (999 : Int))) fun r1 => Option.bind (bif (!r1) then some true else if (0 : Int) ≤ t2.2 then if t2.2 < (List.length t2.1 : Int) then Option.bind (Wn ((yl t2.1 t2.2).2.2)) fun r3 => some (!r3) else none else none) fun u2 => Option.bind (bif u2 then some true else if (0 : Int) ≤ t2.2 then if t2.2 < (List.length t2.1 : Int) then Option.bind (bif (!((yl t2.1 t2.2).2.1)) then if (0 : Int) ≤ t2.2 then if t2.2 < (List.length t2.1 : Int) then some ((yl t2.1 t2.2).2.2 != (0 : Int)) else none else none else some false) fun u5 => some u5 else none else none) fun u4 => bif u4 then k0 (t2.1, false) else again (t2.1, (Go.IntKind.wrap .i64 (t2.2 + (1 : Int)))) else none else none else k1 t2.1
def QD k0 k1 := yS (@ZP R k0 k1) z3
def JF (x : List yb) : Option Bool :=
 QD (fun x6 => some x6.2) (fun x7 => some ((List.length x7 : Int) == (24 : Int))) (x, (0 : Int))
def ymD : List QF := [ybH, yG4]
def y7Z (t : yvW) : St := ⟨yU t.1 :: dd 2 (vI t.2 :: dd 41 []), []⟩
def yk4 : Gk KM := fun κ => ZP (fun t => κ none ⟨yU t.1 :: .dead :: vB t.2 :: dd 42 [], []⟩) (fun t => κ (some 0) ⟨yU t :: dd 44 [], []⟩)
def ymE : Lp := lpC 2 (unG yvX y7Z) @yk4 lpN
theorem yua : LF ymD ymE 122 2 Tryz.f122 0 y7Z @yk4 fun t => t := fun R κ again t => by kernel_rfl
theorem yub : LK ymD ymE 122 Tryz.f122 0 := lkN (u := (unG yvX y7Z)) (ya fun t => by kernel_rfl) yua
theorem yzp : EV ymD ymE 122 Tryz.f122 yru [(.sl 95 yk)] [.bool] JF := fun x => by kernel_rfl
def yG5 : QF := ⟨122, JF, okN (n := 1) Tryz.func122 ⟨yub, trivial⟩ yzp⟩
abbrev Vf : Type := yhT
def Vg (k0 : yoO → Option R) (k1 : ByteArray → Option R) (again : Vf → Option R) (t2 : Vf) : Option R :=
 bif (decide (t2.2 < ((ByteArray.size t2.1 : Nat) : Int))) then if (0 : Int) ≤ t2.2 then if h1 : Int.toNat t2.2 < ByteArray.size t2.1 then Option.bind (yr ((Go.IntKind.wrap .i64 ((UInt8.toNat (ByteArray.get t2.1 (Int.toNat t2.2) h1) : Nat) : Int)), (97 : Int), (122 : Int))) fun r2 => Option.bind (bif (!r2) then if (0 : Int) ≤ t2.2 then if h4 : Int.toNat t2.2 < ByteArray.size t2.1 then Option.bind (yr ((Go.IntKind.wrap .i64 ((UInt8.toNat (ByteArray.get t2.1 (Int.toNat t2.2) h4) : Nat) : Int)), (48 : Int), (57 : Int))) fun r5 => some (!r5) else none else none else some false) fun u3 => bif u3 then k0 (t2.1, false) else again (t2.1, (Go.IntKind.wrap .i64 (t2.2 + (1 : Int)))) else none else none else k1 t2.1
def y0l k0 k1 := yS (@Vg R k0 k1) z3
def Wo (x : ByteArray) : Option Bool :=
 y0l (fun x6 => some x6.2) (fun x7 => Option.bind (yr (((ByteArray.size x7 : Nat) : Int), (1 : Int), (6 : Int))) fun r8 => some r8) (x, (0 : Int))
def ymF : List QF := [ybH]
def y80 (t : yhT) : St := ⟨vS t.1 :: dd 2 (vI t.2 :: dd 23 []), []⟩
def yk5 : Gk Vf := fun κ => Vg (fun t => κ none ⟨vS t.1 :: .dead :: vB t.2 :: dd 24 [], []⟩) (fun t => κ (some 0) ⟨vS t :: dd 26 [], []⟩)
def ymG : Lp := lpC 2 (unG yhU y80) @yk5 lpN
theorem yuc : LF ymF ymG 198 2 Tryz.f198 0 y80 @yk5 fun t => t := fun R κ again t => by kernel_rfl
theorem yud : LK ymF ymG 198 Tryz.f198 0 := lkN (u := (unG yhU y80)) (ya fun t => by kernel_rfl) yuc
theorem yzq : EV ymF ymG 198 Tryz.f198 yrv [.str] [.bool] Wo := fun x => by kernel_rfl
def yG6 : QF := ⟨198, Wo, okN (n := 1) Tryz.func198 ⟨yud, trivial⟩ yzq⟩
abbrev Vh : Type := yoP
def jO (k0 : List yp → Option R) (again : Vh → Option R) (t3 : Vh) : Option R :=
 bif (decide (t3.2.2.1 < (List.length t3.1 : Int))) then if (0 : Int) ≤ t3.2.2.1 then if t3.2.2.1 < (List.length t3.1 : Int) then Option.bind (bif ((z6 t3.1 t3.2.2.1).2 == t3.2.1) then some (t3.2.1 != (0 : Int)) else some false) fun u1 => bif u1 then if (0 : Int) ≤ t3.2.2.1 then if t3.2.2.1 < (List.length t3.1 : Int) then if (List.length t3.2.2.2 + List.length ([(z6 t3.1 t3.2.2.1).1] : List yp)) * 8 < 140737488355328 then again (t3.1, t3.2.1, (Go.IntKind.wrap .i64 (t3.2.2.1 + (1 : Int))), (t3.2.2.2 ++ ([(z6 t3.1 t3.2.2.1).1] : List yp))) else none else none else none else again (t3.1, t3.2.1, (Go.IntKind.wrap .i64 (t3.2.2.1 + (1 : Int))), t3.2.2.2) else none else none else k0 t3.2.2.2
def y0m k0 := yS (@jO R k0) z3
def Wp (x : yhL) : Option (List yp) :=
 y0m (fun x2 => some x2) (x.1, x.2, (0 : Int), ([] : List yp))
def ymH : List QF := []
def y81 (t : yoP) : St := ⟨zr t.1 :: vI t.2.1 :: dd 3 (.own 10000000 :: vI t.2.2.1 :: dd 27 []), [(10000000, .root true 3 ye t.2.2.2)]⟩
def yk6 : Gk Vh := fun κ => jO (fun t => κ (some 0) ⟨dd 5 (.own 10000000 :: dd 28 []), [(10000000, .root true 3 ye t)]⟩)
def ymI : Lp := lpC 3 (unG yoQ y81) @yk6 lpN
theorem yue : LF ymH ymI 199 3 Tryz.f199 0 y81 @yk6 fun t => t := fun R κ again t => by kernel_rfl
theorem yuf : LK ymH ymI 199 Tryz.f199 0 := lkN (u := (unG yoQ y81)) (ya fun t => by kernel_rfl) yue
theorem yzr : EV ymH ymI 199 Tryz.f199 yrw yhM [(.sl 3 ye)] Wp := fun x => by kernel_rfl
def yG7 : QF := ⟨199, Wp, okN (n := 1) Tryz.func199 ⟨yuf, trivial⟩ yzr⟩
abbrev KN : Type := yoR
def ZQ (k0 : yls → Option R) (k1 : ybg → Option R) (again : KN → Option R) (t8 : KN) : Option R :=
 bif (decide (t8.2.1 < t8.1)) then if (0 : Int) ≤ t8.2.1 then if t8.2.1 < (List.length t8.2.2.2.2.2.2.1 : Int) then bif ((yn t8.2.2.2.2.2.2.1 t8.2.1).2.1 == t8.2.2.2.2.2.2.2.2.2.1) then k0 (false, t8.1, t8.2.2.1, t8.2.2.2.1, t8.2.2.2.2.1, t8.2.2.2.2.2.1, t8.2.2.2.2.2.2.1, t8.2.2.2.2.2.2.2.1) else again (t8.1, (Go.IntKind.wrap .i64 (t8.2.1 + (1 : Int))), t8.2.2.1, t8.2.2.2.1, t8.2.2.2.2.1, t8.2.2.2.2.2.1, t8.2.2.2.2.2.2.1, t8.2.2.2.2.2.2.2.1, t8.2.2.2.2.2.2.2.2.1, t8.2.2.2.2.2.2.2.2.2.1, t8.2.2.2.2.2.2.2.2.2.2.1, t8.2.2.2.2.2.2.2.2.2.2.2) else none else none else k1 (t8.1, t8.2.2.1, t8.2.2.2.1, t8.2.2.2.2.1, t8.2.2.2.2.2.1, t8.2.2.2.2.2.2.1, t8.2.2.2.2.2.2.2.1)
def KO k0 k1 := yS (@ZQ R k0 k1) z3
abbrev KP : Type := ybg
def ZR (k0 : yhW → Option R) (k1 : y05 → Option R) (again : KP → Option R) (t2 : KP) : Option R :=
 bif (decide (t2.1 < (List.length t2.2.2.2.2.2.1 : Int))) then if (0 : Int) ≤ t2.1 then if t2.1 < (List.length t2.2.2.2.2.2.1 : Int) then Option.bind (Wo ((yn t2.2.2.2.2.2.1 t2.1).1)) fun r1 => Option.bind (bif (!r1) then some true else Option.bind (yr ((yn t2.2.2.2.2.2.1 t2.1).2.2.1, (1 : Int), (12 : Int))) fun r3 => some (!r3)) fun u2 => Option.bind (bif u2 then some true else Option.bind (Zp (t2.2.2.2.1, (yn t2.2.2.2.2.2.1 t2.1).2.1)) fun r5 => some (decide (r5 < (0 : Int)))) fun u4 => Option.bind (bif u4 then some true else Option.bind (Wp (t2.2.2.2.1, (yn t2.2.2.2.2.2.1 t2.1).2.1)) fun r7 => some (decide ((List.length r7 : Int) > (0 : Int)))) fun u6 => Option.bind (bif u6 then some true else Option.bind (bif (decide (t2.1 > (0 : Int))) then if (0 : Int) ≤ (Go.IntKind.wrap .i64 (t2.1 - (1 : Int))) then if (Go.IntKind.wrap .i64 (t2.1 - (1 : Int))) < (List.length t2.2.2.2.2.2.1 : Int) then some (!Go.Op.bytesLess (ByteArray.toList ((yn t2.2.2.2.2.2.1 (Go.IntKind.wrap .i64 (t2.1 - (1 : Int)))).1)) (ByteArray.toList ((yn t2.2.2.2.2.2.1 t2.1).1))) else none else none else some false) fun u9 => some u9) fun u8 => bif u8 then k0 (false, t2.2) else KO (fun x10 => k0 (x10.1, x10.2.2)) (fun x11 => again ((Go.IntKind.wrap .i64 (x11.1 + (1 : Int))), x11.2.1, x11.2.2.1, x11.2.2.2.1, x11.2.2.2.2.1, x11.2.2.2.2.2.1, x11.2.2.2.2.2.2)) (t2.1, (0 : Int), t2.2.1, t2.2.2.1, t2.2.2.2.1, t2.2.2.2.2.1, t2.2.2.2.2.2.1, t2.2.2.2.2.2.2, (yn t2.2.2.2.2.2.1 t2.1).1, (yn t2.2.2.2.2.2.1 t2.1).2.1, (yn t2.2.2.2.2.2.1 t2.1).2.2.1, (yn t2.2.2.2.2.2.1 t2.1).2.2.2) else none else none else k1 t2.2
def QE k0 k1 := yS (@ZR R k0 k1) z3
def JG (x : y05) : Option Bool :=
 QE (fun x12 => some x12.1) (fun x13 => some (decide ((List.length x13.2.2.2.2.1 : Int) ≤ (6 : Int)))) ((0 : Int), x.1, x.2.1, x.2.2.1, x.2.2.2.1, x.2.2.2.2.1, x.2.2.2.2.2)
def yfR : List QF := [ybH, yzm, yG6, yG7]
def y82 (t : yoR) : St := ⟨.dead :: .box 1 0 :: .dead :: vI t.1 :: .box 4 0 :: vI t.2.1 :: dd 73 [], [(1, .box [zi t.2.2.1, yC t.2.2.2.1, zr t.2.2.2.2.1, yU t.2.2.2.2.2.1, Y4 t.2.2.2.2.2.2.1, vI t.2.2.2.2.2.2.2.1]), (4, .box [vS t.2.2.2.2.2.2.2.2.1, vI t.2.2.2.2.2.2.2.2.2.1, vI t.2.2.2.2.2.2.2.2.2.2.1, vB t.2.2.2.2.2.2.2.2.2.2.2])]⟩
def yk7 : Gk KN := fun κ => ZQ (fun t => κ none ⟨.dead :: .box 1 0 :: vB t.1 :: vI t.2.1 :: dd 75 [], [(1, .box [zi t.2.2.1, yC t.2.2.2.1, zr t.2.2.2.2.1, yU t.2.2.2.2.2.1, Y4 t.2.2.2.2.2.2.1, vI t.2.2.2.2.2.2.2])]⟩) (fun t => κ (some 2) ⟨.dead :: .box 1 0 :: .dead :: vI t.1 :: dd 75 [], [(1, .box [zi t.2.1, yC t.2.2.1, zr t.2.2.2.1, yU t.2.2.2.2.1, Y4 t.2.2.2.2.2.1, vI t.2.2.2.2.2.2])]⟩)
def y83 (t : ybg) : St := ⟨.dead :: .box 1 0 :: .dead :: vI t.1 :: dd 75 [], [(1, .box [zi t.2.1, yC t.2.2.1, zr t.2.2.2.1, yU t.2.2.2.2.1, Y4 t.2.2.2.2.2.1, vI t.2.2.2.2.2.2])]⟩
def yk8 : Gk KP := fun κ => ZR (fun t => κ none ⟨.dead :: .box 1 0 :: vB t.1 :: dd 76 [], [(1, .box [zi t.2.1, yC t.2.2.1, zr t.2.2.2.1, yU t.2.2.2.2.1, Y4 t.2.2.2.2.2.1, vI t.2.2.2.2.2.2])]⟩) (fun t => κ (some 0) ⟨.dead :: .box 1 0 :: dd 77 [], [(1, .box [zi t.1, yC t.2.1, zr t.2.2.1, yU t.2.2.2.1, Y4 t.2.2.2.2.1, vI t.2.2.2.2.2])]⟩)
def yfS : Lp := lpC 2 (unG yhV y83) @yk8 (lpC 8 (unG yoS y82) @yk7 lpN)
theorem yug : LF yfR yfS 123 8 Tryz.f123 1 y82 @yk7 fun t => t := fun R κ again t => by kernel_rfl
theorem yuh : LK yfR yfS 123 Tryz.f123 1 := lkN (u := (unG yoS y82)) (ya fun t => by kernel_rfl) yug
theorem yui : LF yfR yfS 123 2 Tryz.f123 0 y83 @yk8 fun t => t := fun R κ again t => by kernel_rfl
theorem yuj : LK yfR yfS 123 Tryz.f123 0 := lkN (u := (unG yhV y83)) (ya fun t => by kernel_rfl) yui
theorem yzs : EV yfR yfS 123 Tryz.f123 yrx wC [.bool] JG := fun x => by kernel_rfl
def yG8 : QF := ⟨123, JG, okN (n := 2) Tryz.func123 ⟨yuj, yuh, trivial⟩ yzs⟩
def Jf (x : ynJ) : Option yoT :=
 Option.bind (yr (x.2.1, (0 : Int), (Go.IntKind.wrap .i64 ((List.length x.1 : Int) - (1 : Int))))) fun r1 => Option.bind (bif (!r1) then some true else if (0 : Int) ≤ x.2.1 then if x.2.1 < (List.length x.1 : Int) then some (!((yl x.1 x.2.1).2.1)) else none else none) fun u2 => Option.bind (bif u2 then some true else if (0 : Int) ≤ x.2.1 then if x.2.1 < (List.length x.1 : Int) then some ((yl x.1 x.2.1).1 != x.2.2) else none else none) fun u3 => bif u3 then some ((0 : Int), false) else if (0 : Int) ≤ x.2.1 then if x.2.1 < (List.length x.1 : Int) then some ((yl x.1 x.2.1).2.2, true) else none else none
theorem yzt : EV [ybH] lpN 200 Tryz.f200 yry ynK yoU Jf := fun x => by kernel_rfl
def yG9 : QF := ⟨200, Jf, okN (n := 0) Tryz.func200 trivial yzt⟩
abbrev Wq : Type := ynJ
def YE (k0 : Int → Option R) (again : Wq → Option R) (t3 : Wq) : Option R :=
 bif (decide (t3.2.2 < (List.length t3.1 : Int))) then if (0 : Int) ≤ t3.2.2 then if t3.2.2 < (List.length t3.1 : Int) then bif (yl t3.1 t3.2.2).2.1 then again (t3.1, (Go.IntKind.wrap .i64 (t3.2.1 + (1 : Int))), (Go.IntKind.wrap .i64 (t3.2.2 + (1 : Int)))) else again (t3.1, t3.2.1, (Go.IntKind.wrap .i64 (t3.2.2 + (1 : Int)))) else none else none else k0 t3.2.1
def q9 k0 := yS (@YE R k0) z3
def ZS (x : List yb) : Option Int :=
 q9 (fun x1 => some x1) (x, (0 : Int), (0 : Int))
def ymJ : List QF := []
def y84 (t : ynJ) : St := ⟨yU t.1 :: dd 2 (vI t.2.1 :: vI t.2.2 :: dd 14 []), []⟩
def yk9 : Gk Wq := fun κ => YE (fun t => κ (some 0) ⟨dd 3 (vI t :: dd 15 []), []⟩)
def ymK : Lp := lpC 3 (unG ynK y84) @yk9 lpN
theorem yuk : LF ymJ ymK 201 3 Tryz.f201 0 y84 @yk9 fun t => t := fun R κ again t => by kernel_rfl
theorem yul : LK ymJ ymK 201 Tryz.f201 0 := lkN (u := (unG ynK y84)) (ya fun t => by kernel_rfl) yuk
theorem yzu : EV ymJ ymK 201 Tryz.f201 yrz [(.sl 95 yk)] [(.int .i64)] ZS := fun x => by kernel_rfl
def yGa : QF := ⟨201, ZS, okN (n := 1) Tryz.func201 ⟨yul, trivial⟩ yzu⟩
abbrev kv : Type := yoV
def Z1 (k0 : ywu → Option R) (k1 : ylt → Option R) (again : kv → Option R) (t14 : kv) : Option R :=
 bif (decide (t14.2.2.1 < t14.2.1)) then if (0 : Int) ≤ t14.2.2.1 then if t14.2.2.1 < (List.length t14.2.2.2.2.2.2.2.2.2 : Int) then Option.bind (bif ((y0 t14.2.2.2.2.2.2.2.2.2 t14.2.2.1).2.2.1 == (1 : Int)) then if (0 : Int) ≤ t14.2.2.1 then if t14.2.2.1 < (List.length t14.2.2.2.2.2.2.2.2.2 : Int) then if (0 : Int) ≤ t14.2.1 then if t14.2.1 < (List.length t14.2.2.2.2.2.2.2.2.2 : Int) then some ((y0 t14.2.2.2.2.2.2.2.2.2 t14.2.2.1).2.2.2.1 == (y0 t14.2.2.2.2.2.2.2.2.2 t14.2.1).2.2.2.1) else none else none else none else none else some false) fun u4 => bif u4 then k0 (false, t14.1, t14.2.1, t14.2.2.2) else again (t14.1, t14.2.1, (Go.IntKind.wrap .i64 (t14.2.2.1 + (1 : Int))), t14.2.2.2.1, t14.2.2.2.2.1, t14.2.2.2.2.2.1, t14.2.2.2.2.2.2.1, t14.2.2.2.2.2.2.2.1, t14.2.2.2.2.2.2.2.2.1, t14.2.2.2.2.2.2.2.2.2) else none else none else k1 (t14.1, t14.2.1, t14.2.2.2)
def kw k0 k1 := yS (@Z1 R k0 k1) z3
abbrev KQ : Type := ylt
def ZT (k0 : yls → Option R) (k1 : ybg → Option R) (again : KQ → Option R) (t4 : KQ) : Option R :=
 bif (decide (t4.2.1 < (List.length t4.2.2.2.2.2.2.2.2 : Int))) then if (0 : Int) ≤ t4.2.1 then if t4.2.1 < (List.length t4.2.2.2.2.2.2.2.2 : Int) then Option.bind (Zp (t4.2.2.2.2.1, (y0 t4.2.2.2.2.2.2.2.2 t4.2.1).2.1)) fun r2 => bif (decide (r2 < (0 : Int))) then k0 (false, t4.1, t4.2.2.1, t4.2.2.2.1, t4.2.2.2.2.1, t4.2.2.2.2.2.1, t4.2.2.2.2.2.2.1, t4.2.2.2.2.2.2.2.1) else if (0 : Int) ≤ t4.2.1 then if t4.2.1 < (List.length t4.2.2.2.2.2.2.2.2 : Int) then bif ((y0 t4.2.2.2.2.2.2.2.2 t4.2.1).2.2.1 != (1 : Int)) then again (t4.1, (Go.IntKind.wrap .i64 (t4.2.1 + (1 : Int))), t4.2.2.1, t4.2.2.2.1, t4.2.2.2.2.1, t4.2.2.2.2.2.1, t4.2.2.2.2.2.2.1, t4.2.2.2.2.2.2.2.1, t4.2.2.2.2.2.2.2.2) else if (0 : Int) ≤ t4.2.1 then if t4.2.1 < (List.length t4.2.2.2.2.2.2.2.2 : Int) then if (0 : Int) ≤ t4.2.1 then if t4.2.1 < (List.length t4.2.2.2.2.2.2.2.2 : Int) then Option.bind (Jf (t4.2.2.2.2.2.1, (y0 t4.2.2.2.2.2.2.2.2 t4.2.1).2.2.2.1, (y0 t4.2.2.2.2.2.2.2.2 t4.2.1).2.2.2.2)) fun r3 => bif (!r3.2) then k0 (false, (Go.IntKind.wrap .i64 (t4.1 + (1 : Int))), t4.2.2.1, t4.2.2.2.1, t4.2.2.2.2.1, t4.2.2.2.2.2.1, t4.2.2.2.2.2.2.1, t4.2.2.2.2.2.2.2.1) else kw (fun x5 => k0 (x5.1, x5.2.1, x5.2.2.2.1, x5.2.2.2.2.1, x5.2.2.2.2.2.1, x5.2.2.2.2.2.2.1, x5.2.2.2.2.2.2.2.1, x5.2.2.2.2.2.2.2.2.1)) (fun x6 => again (x6.1, (Go.IntKind.wrap .i64 (x6.2.1 + (1 : Int))), x6.2.2.1, x6.2.2.2.1, x6.2.2.2.2.1, x6.2.2.2.2.2.1, x6.2.2.2.2.2.2.1, x6.2.2.2.2.2.2.2.1, x6.2.2.2.2.2.2.2.2)) ((Go.IntKind.wrap .i64 (t4.1 + (1 : Int))), t4.2.1, (0 : Int), t4.2.2.1, t4.2.2.2.1, t4.2.2.2.2.1, t4.2.2.2.2.2.1, t4.2.2.2.2.2.2.1, t4.2.2.2.2.2.2.2.1, t4.2.2.2.2.2.2.2.2) else none else none else none else none else none else none else none else none else k1 (t4.1, t4.2.2.1, t4.2.2.2.1, t4.2.2.2.2.1, t4.2.2.2.2.2.1, t4.2.2.2.2.2.2.1, t4.2.2.2.2.2.2.2.1)
def QG k0 k1 := yS (@ZT R k0 k1) z3
def JH (x : y05) : Option Bool :=
 Option.bind (zQ (x.1, x.2.1)) fun r1 => QG (fun x7 => some x7.1) (fun x8 => Option.bind (ZS x8.2.2.2.2.1) fun r9 => some (x8.1 == r9)) ((0 : Int), (0 : Int), x.1, x.2.1, x.2.2.1, x.2.2.2.1, x.2.2.2.2.1, x.2.2.2.2.2, r1)
def yfT : List QF := [yDb, yzm, yG9, yGa]
def y4U (t : yoV) : St := ⟨.dead :: .box 1 0 :: .dead :: .own 10000000 :: vI t.1 :: vI t.2.1 :: dd 2 (vI t.2.2.1 :: dd 73 []), [(1, .box [zi t.2.2.2.1, yC t.2.2.2.2.1, zr t.2.2.2.2.2.1, yU t.2.2.2.2.2.2.1, Y4 t.2.2.2.2.2.2.2.1, vI t.2.2.2.2.2.2.2.2.1]), (10000000, .root true 106 yg t.2.2.2.2.2.2.2.2.2)]⟩
def yfU : Gk kv := fun κ => Z1 (fun t => κ none ⟨.dead :: .box 1 0 :: vB t.1 :: .own 10000000 :: vI t.2.1 :: vI t.2.2.1 :: dd 76 [], [(1, .box [zi t.2.2.2.1, yC t.2.2.2.2.1, zr t.2.2.2.2.2.1, yU t.2.2.2.2.2.2.1, Y4 t.2.2.2.2.2.2.2.1, vI t.2.2.2.2.2.2.2.2.1]), (10000000, .root true 106 yg t.2.2.2.2.2.2.2.2.2)]⟩) (fun t => κ (some 2) ⟨.dead :: .box 1 0 :: .dead :: .own 10000000 :: vI t.1 :: vI t.2.1 :: dd 76 [], [(1, .box [zi t.2.2.1, yC t.2.2.2.1, zr t.2.2.2.2.1, yU t.2.2.2.2.2.1, Y4 t.2.2.2.2.2.2.1, vI t.2.2.2.2.2.2.2.1]), (10000000, .root true 106 yg t.2.2.2.2.2.2.2.2)]⟩)
def y85 (t : ylt) : St := ⟨.dead :: .box 1 0 :: .dead :: .own 10000000 :: vI t.1 :: vI t.2.1 :: dd 76 [], [(1, .box [zi t.2.2.1, yC t.2.2.2.1, zr t.2.2.2.2.1, yU t.2.2.2.2.2.1, Y4 t.2.2.2.2.2.2.1, vI t.2.2.2.2.2.2.2.1]), (10000000, .root true 106 yg t.2.2.2.2.2.2.2.2)]⟩
def yka : Gk KQ := fun κ => ZT (fun t => κ none ⟨.dead :: .box 1 0 :: vB t.1 :: .dead :: vI t.2.1 :: dd 77 [], [(1, .box [zi t.2.2.1, yC t.2.2.2.1, zr t.2.2.2.2.1, yU t.2.2.2.2.2.1, Y4 t.2.2.2.2.2.2.1, vI t.2.2.2.2.2.2.2])]⟩) (fun t => κ (some 0) ⟨.dead :: .box 1 0 :: dd 2 (vI t.1 :: dd 77 []), [(1, .box [zi t.2.1, yC t.2.2.1, zr t.2.2.2.1, yU t.2.2.2.2.1, Y4 t.2.2.2.2.2.1, vI t.2.2.2.2.2.2])]⟩)
def yfV : Lp := lpC 4 (unG yoX y85) @yka (lpC 14 (unG yoW y4U) @yfU lpN)
theorem ymL : LF yfT yfV 124 14 Tryz.f124 1 y4U @yfU fun t => t := fun R κ again t => by kernel_rfl
theorem ymM : LK yfT yfV 124 Tryz.f124 1 := lkN (u := (unG yoW y4U)) (ya fun t => by kernel_rfl) ymL
theorem yum : LF yfT yfV 124 4 Tryz.f124 0 y85 @yka fun t => t := fun R κ again t => by kernel_rfl
theorem yun : LK yfT yfV 124 Tryz.f124 0 := lkN (u := (unG yoX y85)) (ya fun t => by kernel_rfl) yum
theorem yzv : EV yfT yfV 124 Tryz.f124 yrA wC [.bool] JH := fun x => by kernel_rfl
def yGb : QF := ⟨124, JH, okN (n := 2) Tryz.func124 ⟨yun, ymM, trivial⟩ yzv⟩
abbrev Vi : Type := ybg
def jP (k0 : yhW → Option R) (k1 : y05 → Option R) (again : Vi → Option R) (t2 : Vi) : Option R :=
 bif (decide (t2.1 < (List.length t2.2.2.2.1 : Int))) then if (0 : Int) ≤ t2.1 then if t2.1 < (List.length t2.2.2.2.1 : Int) then bif (decide ((z6 t2.2.2.2.1 t2.1).1 ≥ t2.2.2.2.2.2.2)) then k0 (false, t2.2) else again ((Go.IntKind.wrap .i64 (t2.1 + (1 : Int))), t2.2.1, t2.2.2.1, t2.2.2.2.1, t2.2.2.2.2.1, t2.2.2.2.2.2.1, t2.2.2.2.2.2.2) else none else none else k1 t2.2
def y0n k0 k1 := yS (@jP R k0 k1) z3
def Jg (x : y05) : Option Bool :=
 y0n (fun x1 => some x1.1) (fun x2 => Option.bind (Wl (x2.1, x2.2.1)) fun r3 => Option.bind (bif r3 then Option.bind (Wm x2.2.2.1) fun r5 => some r5 else some false) fun u4 => Option.bind (bif u4 then Option.bind (JF x2.2.2.2.1) fun r7 => some r7 else some false) fun u6 => Option.bind (bif u6 then Option.bind (yr (x2.2.2.2.2.2, (1 : Int), (61 : Int))) fun r9 => some r9 else some false) fun u8 => Option.bind (bif u8 then Option.bind (JG x2) fun r11 => some r11 else some false) fun u10 => Option.bind (bif u10 then Option.bind (JH x2) fun r13 => some r13 else some false) fun u12 => some u12) ((0 : Int), x.1, x.2.1, x.2.2.1, x.2.2.2.1, x.2.2.2.2.1, x.2.2.2.2.2)
def yzw : List QF := [ybH, yG2, yG3, yG5, yG8, yGb]
def ybI (t : ybg) : St := ⟨.dead :: .box 1 0 :: .dead :: vI t.1 :: dd 42 [], [(1, .box [zi t.2.1, yC t.2.2.1, zr t.2.2.2.1, yU t.2.2.2.2.1, Y4 t.2.2.2.2.2.1, vI t.2.2.2.2.2.2])]⟩
def yuo : Gk Vi := fun κ => jP (fun t => κ none ⟨.dead :: .box 1 0 :: vB t.1 :: dd 43 [], [(1, .box [zi t.2.1, yC t.2.2.1, zr t.2.2.2.1, yU t.2.2.2.2.1, Y4 t.2.2.2.2.2.1, vI t.2.2.2.2.2.2])]⟩) (fun t => κ (some 0) ⟨.dead :: .box 1 0 :: dd 44 [], [(1, .box [zi t.1, yC t.2.1, zr t.2.2.1, yU t.2.2.2.1, Y4 t.2.2.2.2.1, vI t.2.2.2.2.2])]⟩)
def yzx : Lp := lpC 2 (unG yhV ybI) @yuo lpN
theorem yzy : LF yzw yzx 47 2 Tryz.f47 0 ybI @yuo fun t => t := fun R κ again t => by kernel_rfl
theorem yzz : LK yzw yzx 47 Tryz.f47 0 := lkN (u := (unG yhV ybI)) (ya fun t => by kernel_rfl) yzy
theorem yGc : EV yzw yzx 47 Tryz.f47 yCS wC [.bool] Jg := fun x => by kernel_rfl
def q47 : QF := ⟨47, Jg, okN (n := 1) Tryz.func47 ⟨yzz, trivial⟩ yGc⟩
abbrev qn : Type := yhX
def JI (k0 : ylu → Option R) (k1 : y1v → Option R) (again : qn → Option R) (t2 : qn) : Option R :=
 bif (decide (t2.1 < (List.length t2.2.1 : Int))) then if (0 : Int) ≤ t2.1 then if t2.1 < (List.length t2.2.1 : Int) then bif (decide ((List.length (zh t2.2.1 t2.1) : Int) > (80 : Int))) then k0 (false, t2.2) else again ((Go.IntKind.wrap .i64 (t2.1 + (1 : Int))), t2.2.1, t2.2.2.1, t2.2.2.2.1, t2.2.2.2.2) else none else none else k1 t2.2
def y1c k0 k1 := yS (@JI R k0 k1) z3
abbrev qp : Type := yhX
def JJ (k0 : ylu → Option R) (k1 : y1v → Option R) (again : qp → Option R) (t7 : qp) : Option R :=
 bif (decide (t7.1 < (List.length t7.2.2.1 : Int))) then if (0 : Int) ≤ t7.1 then if t7.1 < (List.length t7.2.2.1 : Int) then Option.bind (yr ((yV t7.2.2.1 t7.1).1, (0 : Int), (Go.IntKind.wrap .i64 ((List.length t7.2.1 : Int) - (1 : Int))))) fun r3 => Option.bind (bif (!r3) then some true else if (0 : Int) ≤ t7.1 then if t7.1 < (List.length t7.2.2.1 : Int) then some (decide (((List.length ((yV t7.2.2.1 t7.1).2) : Nat) : Int) > (80 : Int))) else none else none) fun u4 => bif u4 then k0 (false, t7.2) else again ((Go.IntKind.wrap .i64 (t7.1 + (1 : Int))), t7.2.1, t7.2.2.1, t7.2.2.2.1, t7.2.2.2.2) else none else none else k1 t7.2
def y1d k0 k1 := yS (@JJ R k0 k1) z3
def Kn (x : y1v) : Option Bool :=
 y1c (fun x1 => some x1.1) (fun x2 => y1d (fun x5 => some x5.1) (fun x6 => Option.bind (yr ((List.length x6.1 : Int), (1 : Int), (60 : Int))) fun r7 => Option.bind (bif r7 then some (decide ((List.length x6.2.1 : Int) ≤ (60 : Int))) else some false) fun u8 => Option.bind (bif u8 then Option.bind (yr (x6.2.2.1, (-1 : Int), (1000 : Int))) fun r10 => some r10 else some false) fun u9 => some u9) ((0 : Int), x2.1, x2.2.1, x2.2.2.1, x2.2.2.2)) ((0 : Int), x.1, x.2.1, x.2.2.1, x.2.2.2)
def yfW : List QF := [ybH]
def y86 (t : yhX) : St := ⟨.dead :: .box 1 0 :: .dead :: vI t.1 :: dd 59 [], [(1, .box [Yf t.2.1, y10 t.2.2.1, vI t.2.2.2.1, vB t.2.2.2.2])]⟩
def ykb : Gk qn := fun κ => JI (fun t => κ none ⟨.dead :: .box 1 0 :: vB t.1 :: dd 60 [], [(1, .box [Yf t.2.1, y10 t.2.2.1, vI t.2.2.2.1, vB t.2.2.2.2])]⟩) (fun t => κ (some 0) ⟨.dead :: .box 1 0 :: dd 61 [], [(1, .box [Yf t.1, y10 t.2.1, vI t.2.2.1, vB t.2.2.2])]⟩)
def y87 (t : yhX) : St := ⟨.dead :: .box 1 0 :: dd 2 (vI t.1 :: dd 58 []), [(1, .box [Yf t.2.1, y10 t.2.2.1, vI t.2.2.2.1, vB t.2.2.2.2])]⟩
def ykc : Gk qp := fun κ => JJ (fun t => κ none ⟨.dead :: .box 1 0 :: vB t.1 :: dd 60 [], [(1, .box [Yf t.2.1, y10 t.2.2.1, vI t.2.2.2.1, vB t.2.2.2.2])]⟩) (fun t => κ (some 2) ⟨.dead :: .box 1 0 :: dd 61 [], [(1, .box [Yf t.1, y10 t.2.1, vI t.2.2.1, vB t.2.2.2])]⟩)
def yfX : Lp := lpC 7 (unG yhY y87) @ykc (lpC 2 (unG yhY y86) @ykb lpN)
theorem yup : LF yfW yfX 153 2 Tryz.f153 0 y86 @ykb fun t => t := fun R κ again t => by kernel_rfl
theorem yuq : LK yfW yfX 153 Tryz.f153 0 := lkN (u := (unG yhY y86)) (ya fun t => by kernel_rfl) yup
theorem yur : LF yfW yfX 153 7 Tryz.f153 1 y87 @ykc fun t => t := fun R κ again t => by kernel_rfl
theorem yus : LK yfW yfX 153 Tryz.f153 1 := lkN (u := (unG yhY y87)) (ya fun t => by kernel_rfl) yur
theorem yzA : EV yfW yfX 153 Tryz.f153 yrB wk [.bool] Kn := fun x => by kernel_rfl
def yGd : QF := ⟨153, Kn, okN (n := 2) Tryz.func153 ⟨yuq, yus, trivial⟩ yzA⟩
def ZU (x : y06) : Option Bool :=
 Option.bind (Kn (x.1, x.2.1, x.2.2.1, x.2.2.2.1)) fun r1 => Option.bind (bif r1 then some ((List.length x.1 : Int) == (60 : Int)) else some false) fun u2 => Option.bind (bif u2 then Option.bind (Jg (x.2.2.2.2.1, x.2.2.2.2.2.1, x.2.2.2.2.2.2.1, x.2.2.2.2.2.2.2.1, x.2.2.2.2.2.2.2.2.1, x.2.2.2.2.2.2.2.2.2.1)) fun r4 => some r4 else some false) fun u3 => Option.bind (bif u3 then Option.bind (yr (x.2.2.2.2.2.2.2.2.2.2.2.1, (1 : Int), (50000 : Int))) fun r6 => some r6 else some false) fun u5 => Option.bind (bif u5 then Option.bind (yr (x.2.2.2.2.2.2.2.2.2.2.2.2, x.2.2.2.2.2.2.2.2.2.2.2.1, (Go.IntKind.wrap .i64 (x.2.2.2.2.2.2.2.2.2.2.2.1 + (6 : Int))))) fun r8 => some r8 else some false) fun u7 => Option.bind (bif u7 then Option.bind (yr (x.2.2.2.2.2.2.2.2.2.2.2.2, (1 : Int), (50000 : Int))) fun r10 => some r10 else some false) fun u9 => some u9
theorem yzB : EV [q47, ybH, yGd] lpN 106 Tryz.f106 yrC jg [.bool] ZU := fun x => by kernel_rfl
def yGe : QF := ⟨106, ZU, okN (n := 0) Tryz.func106 trivial yzB⟩
def zH (x : yli) : Option (List z0) :=
 if (List.length ([] : List z0) + List.length x.1) * 1 < 140737488355328 then if (List.length (([] : List z0) ++ x.1) + List.length ([(Go.IntKind.wrap .u8 (Int.fdiv x.2 (2 ^ (min (Int.toNat (8 : Int)) (Go.IntKind.bits .i64))))), (Go.IntKind.wrap .u8 x.2)] : List z0)) * 1 < 140737488355328 then some ((([] : List z0) ++ x.1) ++ ([(Go.IntKind.wrap .u8 (Int.fdiv x.2 (2 ^ (min (Int.toNat (8 : Int)) (Go.IntKind.bits .i64))))), (Go.IntKind.wrap .u8 x.2)] : List z0)) else none else none
theorem yGf : EV [] lpN 48 Tryz.f48 yCT ylj [(.sl 5 yu)] zH := fun x => by kernel_rfl
def q48 : QF := ⟨48, zH, okN (n := 0) Tryz.func48 trivial yGf⟩
def JK (x : yoY) : Option (List z0) :=
 bif (decide (((ByteArray.size x.2 : Nat) : Int) > (60 : Int))) then if (List.length ([] : List z0) + List.length x.1) * 1 < 140737488355328 then some (([] : List z0) ++ x.1) else none else Option.bind (zH (x.1, ((ByteArray.size x.2 : Nat) : Int))) fun r1 => if (List.length r1 + List.length (jp x.2)) * 1 < 140737488355328 then some (r1 ++ (jp x.2)) else none
theorem yGg : EV [q48] lpN 49 Tryz.f49 yCU yoZ [(.sl 5 yu)] JK := fun x => by kernel_rfl
def q49 : QF := ⟨49, JK, okN (n := 0) Tryz.func49 trivial yGg⟩
def Wr (x : Bool) : Option Int :=
 bif x then some (1 : Int) else some (0 : Int)
theorem yGh : EV [] lpN 50 Tryz.f50 yCV [.bool] [(.int .u8)] Wr := fun x => by kernel_rfl
def q50 : QF := ⟨50, Wr, okN (n := 0) Tryz.func50 trivial yGh⟩
def Ws (x : yp0) : Option (List z0) :=
 if (List.length ([] : List z0) + List.length x.1) * 1 < 140737488355328 then Option.bind (wA x.2) fun r1 => bif (!r1) then some (([] : List z0) ++ x.1) else if (List.length (([] : List z0) ++ x.1) + List.length ([(Go.IntKind.wrap .u8 x.2.1), (Go.IntKind.wrap .u8 x.2.2.1), (Go.IntKind.wrap .u8 x.2.2.2.1), (Go.IntKind.wrap .u8 x.2.2.2.2.1)] : List z0)) * 1 < 140737488355328 then Option.bind (zH (((([] : List z0) ++ x.1) ++ ([(Go.IntKind.wrap .u8 x.2.1), (Go.IntKind.wrap .u8 x.2.2.1), (Go.IntKind.wrap .u8 x.2.2.2.1), (Go.IntKind.wrap .u8 x.2.2.2.2.1)] : List z0)), x.2.2.2.2.2)) fun r2 => some r2 else none else none
theorem yzC : EV [q48, yDc] lpN 125 Tryz.f125 yrD yp1 [(.sl 5 yu)] Ws := fun x => by kernel_rfl
def yGi : QF := ⟨125, Ws, okN (n := 0) Tryz.func125 trivial yzC⟩
abbrev Vj : Type := yp2
def jQ (k0 : List z0 → Option R) (again : Vj → Option R) (t3 : Vj) : Option R :=
 bif (decide (t3.2.1 < (List.length t3.1 : Int))) then if (0 : Int) ≤ t3.2.1 then if t3.2.1 < (List.length t3.1 : Int) then Option.bind (Ws (t3.2.2, (y0 t3.1 t3.2.1).1, (y0 t3.1 t3.2.1).2.1, (y0 t3.1 t3.2.1).2.2.1, (y0 t3.1 t3.2.1).2.2.2.1, (y0 t3.1 t3.2.1).2.2.2.2)) fun r1 => again (t3.1, (Go.IntKind.wrap .i64 (t3.2.1 + (1 : Int))), r1) else none else none else k0 t3.2.2
def y0o k0 := yS (@jQ R k0) z3
def Wt (x : ywv) : Option (List z0) :=
 if (List.length x.1 + List.length ([(Go.IntKind.wrap .u8 (List.length x.2 : Int))] : List z0)) * 1 < 140737488355328 then y0o (fun x2 => some x2) (x.2, (0 : Int), (x.1 ++ ([(Go.IntKind.wrap .u8 (List.length x.2 : Int))] : List z0))) else none
def yzD : List QF := [yGi]
def ybJ (t : yp2) : St := ⟨.own 10000000 :: qE t.1 :: dd 3 (vI t.2.1 :: dd 19 []), [(10000000, .root true 5 yu t.2.2)]⟩
def yut : Gk Vj := fun κ => jQ (fun t => κ (some 0) ⟨.own 10000000 :: dd 24 [], [(10000000, .root true 5 yu t)]⟩)
def yzE : Lp := lpC 3 (unG yp3 ybJ) @yut lpN
theorem yzF : LF yzD yzE 51 3 Tryz.f51 0 ybJ @yut fun t => t := fun R κ again t => by kernel_rfl
theorem yzG : LK yzD yzE 51 Tryz.f51 0 := lkN (u := (unG yp3 ybJ)) (ya fun t => by kernel_rfl) yzF
theorem yGj : EV yzD yzE 51 Tryz.f51 yCW yww [(.sl 5 yu)] Wt := fun x => by kernel_rfl
def q51 : QF := ⟨51, Wt, okN (n := 1) Tryz.func51 ⟨yzG, trivial⟩ yGj⟩
abbrev KR : Type := y7j
def ZV (k0 : yec → Option R) (again : KR → Option R) (t6 : KR) : Option R :=
 bif (decide (t6.1 < (List.length t6.2.2.2.1 : Int))) then if (0 : Int) ≤ t6.1 then if t6.1 < (List.length t6.2.2.2.1 : Int) then if (0 : Int) ≤ t6.1 then if t6.1 < (List.length t6.2.2.2.1 : Int) then if (List.length t6.2.2.2.2.2.2.2 + List.length ([(Go.IntKind.wrap .u8 ((z6 t6.2.2.2.1 t6.1).1)), (Go.IntKind.wrap .u8 ((z6 t6.2.2.2.1 t6.1).2))] : List z0)) * 1 < 140737488355328 then again ((Go.IntKind.wrap .i64 (t6.1 + (1 : Int))), t6.2.1, t6.2.2.1, t6.2.2.2.1, t6.2.2.2.2.1, t6.2.2.2.2.2.1, t6.2.2.2.2.2.2.1, (t6.2.2.2.2.2.2.2 ++ ([(Go.IntKind.wrap .u8 ((z6 t6.2.2.2.1 t6.1).1)), (Go.IntKind.wrap .u8 ((z6 t6.2.2.2.1 t6.1).2))] : List z0))) else none else none else none else none else none else k0 t6.2
def KS k0 := yS (@ZV R k0) z3
abbrev kx : Type := y7j
def Z2 (k0 : yec → Option R) (again : kx → Option R) (t11 : kx) : Option R :=
 bif (decide (t11.1 < (List.length t11.2.2.2.2.2.1 : Int))) then if (0 : Int) ≤ t11.1 then if t11.1 < (List.length t11.2.2.2.2.2.1 : Int) then Option.bind (JK (t11.2.2.2.2.2.2.2, (yn t11.2.2.2.2.2.1 t11.1).1)) fun r4 => Option.bind (Wr ((yn t11.2.2.2.2.2.1 t11.1).2.2.2)) fun r5 => if (List.length r4 + List.length ([(Go.IntKind.wrap .u8 ((yn t11.2.2.2.2.2.1 t11.1).2.1)), (Go.IntKind.wrap .u8 ((yn t11.2.2.2.2.2.1 t11.1).2.2.1)), r5] : List z0)) * 1 < 140737488355328 then again ((Go.IntKind.wrap .i64 (t11.1 + (1 : Int))), t11.2.1, t11.2.2.1, t11.2.2.2.1, t11.2.2.2.2.1, t11.2.2.2.2.2.1, t11.2.2.2.2.2.2.1, (r4 ++ ([(Go.IntKind.wrap .u8 ((yn t11.2.2.2.2.2.1 t11.1).2.1)), (Go.IntKind.wrap .u8 ((yn t11.2.2.2.2.2.1 t11.1).2.2.1)), r5] : List z0))) else none else none else none else k0 t11.2
def ky k0 := yS (@Z2 R k0) z3
abbrev kz : Type := y7j
def Z3 (k0 : yec → Option R) (again : kz → Option R) (t16 : kz) : Option R :=
 bif (decide (t16.1 < (List.length t16.2.2.2.2.1 : Int))) then if (0 : Int) ≤ t16.1 then if t16.1 < (List.length t16.2.2.2.2.1 : Int) then Option.bind (zH (t16.2.2.2.2.2.2.2, (yl t16.2.2.2.2.1 t16.1).1)) fun r7 => if (0 : Int) ≤ t16.1 then if t16.1 < (List.length t16.2.2.2.2.1 : Int) then Option.bind (Wr ((yl t16.2.2.2.2.1 t16.1).2.1)) fun r8 => if (List.length r7 + List.length ([r8] : List z0)) * 1 < 140737488355328 then if (0 : Int) ≤ t16.1 then if t16.1 < (List.length t16.2.2.2.2.1 : Int) then Option.bind (zH ((r7 ++ ([r8] : List z0)), (yl t16.2.2.2.2.1 t16.1).2.2)) fun r9 => again ((Go.IntKind.wrap .i64 (t16.1 + (1 : Int))), t16.2.1, t16.2.2.1, t16.2.2.2.1, t16.2.2.2.2.1, t16.2.2.2.2.2.1, t16.2.2.2.2.2.2.1, r9) else none else none else none else none else none else none else none else k0 t16.2
def kA k0 := yS (@Z3 R k0) z3
abbrev kB : Type := yp4
def Z4 (k0 : y7j → Option R) (again : kB → Option R) (t25 : kB) : Option R :=
 if (0 : Int) ≤ t25.1 then if t25.1 < (List.length t25.2.2.2.1 : Int) then bif (decide (t25.2.1 < (List.length (ym t25.2.2.2.1 t25.1) : Int))) then if (0 : Int) ≤ t25.1 then if t25.1 < (List.length t25.2.2.2.1 : Int) then if (0 : Int) ≤ t25.2.1 then if t25.2.1 < (List.length (ym t25.2.2.2.1 t25.1) : Int) then Option.bind (Wt (t25.2.2.2.2.2.2.2.2, (yh (ym t25.2.2.2.1 t25.1) t25.2.1))) fun r12 => again (t25.1, (Go.IntKind.wrap .i64 (t25.2.1 + (1 : Int))), t25.2.2.1, t25.2.2.2.1, t25.2.2.2.2.1, t25.2.2.2.2.2.1, t25.2.2.2.2.2.2.1, t25.2.2.2.2.2.2.2.1, r12) else none else none else none else none else k0 (t25.1, t25.2.2) else none else none
def kC k0 := yS (@Z4 R k0) z3
abbrev kD : Type := y7j
def Z5 (k0 : List z0 → Option R) (again : kD → Option R) (t21 : kD) : Option R :=
 bif (decide (t21.1 < (List.length t21.2.2.1 : Int))) then if (0 : Int) ≤ t21.1 then if t21.1 < (List.length t21.2.1 : Int) then Option.bind (zH (t21.2.2.2.2.2.2.2, (zy t21.2.1 t21.1))) fun r11 => if (0 : Int) ≤ t21.1 then if t21.1 < (List.length t21.2.2.1 : Int) then if (List.length r11 + List.length ([(Go.IntKind.wrap .u8 (List.length (ym t21.2.2.1 t21.1) : Int))] : List z0)) * 1 < 140737488355328 then kC (fun x13 => again ((Go.IntKind.wrap .i64 (x13.1 + (1 : Int))), x13.2.1, x13.2.2.1, x13.2.2.2.1, x13.2.2.2.2.1, x13.2.2.2.2.2.1, x13.2.2.2.2.2.2.1, x13.2.2.2.2.2.2.2)) (t21.1, (0 : Int), t21.2.1, t21.2.2.1, t21.2.2.2.1, t21.2.2.2.2.1, t21.2.2.2.2.2.1, t21.2.2.2.2.2.2.1, (r11 ++ ([(Go.IntKind.wrap .u8 (List.length (ym t21.2.2.1 t21.1) : Int))] : List z0))) else none else none else none else none else none else k0 t21.2.2.2.2.2.2.2
def kE k0 := yS (@Z5 R k0) z3
def JL (x : y05) : Option (List z0) :=
 Option.bind (Jg x) fun r1 => bif (!r1) then some ([] : List z0) else Option.bind (zH (([] : List z0), x.2.2.2.2.2)) fun r2 => if (List.length r2 + List.length ([(Go.IntKind.wrap .u8 (List.length x.2.2.1 : Int))] : List z0)) * 1 < 140737488355328 then KS (fun x3 => if (List.length x3.2.2.2.2.2.2 + List.length ([(Go.IntKind.wrap .u8 (List.length x3.2.2.2.2.1 : Int))] : List z0)) * 1 < 140737488355328 then ky (fun x6 => kA (fun x10 => if (List.length x10.2.2.2.2.2.2 + List.length ([(Go.IntKind.wrap .u8 (List.length x10.2.1 : Int))] : List z0)) * 1 < 140737488355328 then kE (fun x14 => some x14) ((0 : Int), x10.1, x10.2.1, x10.2.2.1, x10.2.2.2.1, x10.2.2.2.2.1, x10.2.2.2.2.2.1, (x10.2.2.2.2.2.2 ++ ([(Go.IntKind.wrap .u8 (List.length x10.2.1 : Int))] : List z0))) else none) ((0 : Int), x6.1, x6.2.1, x6.2.2.1, x6.2.2.2.1, x6.2.2.2.2.1, x6.2.2.2.2.2.1, x6.2.2.2.2.2.2)) ((0 : Int), x3.1, x3.2.1, x3.2.2.1, x3.2.2.2.1, x3.2.2.2.2.1, x3.2.2.2.2.2.1, (x3.2.2.2.2.2.2 ++ ([(Go.IntKind.wrap .u8 (List.length x3.2.2.2.2.1 : Int))] : List z0))) else none) ((0 : Int), x.1, x.2.1, x.2.2.1, x.2.2.2.1, x.2.2.2.2.1, x.2.2.2.2.2, (r2 ++ ([(Go.IntKind.wrap .u8 (List.length x.2.2.1 : Int))] : List z0))) else none
def yfY : List QF := [q47, q48, q49, q50, q51]
def ybK (t : y7j) : St := ⟨.dead :: .box 1 0 :: .dead :: .own 10000000 :: vI t.1 :: dd 169 [], [(1, .box [zi t.2.1, yC t.2.2.1, zr t.2.2.2.1, yU t.2.2.2.2.1, Y4 t.2.2.2.2.2.1, vI t.2.2.2.2.2.2.1]), (10000000, .root true 5 yu t.2.2.2.2.2.2.2)]⟩
def yuu : Gk KR := fun κ => ZV (fun t => κ (some 0) ⟨.dead :: .box 1 0 :: .dead :: .own 10000000 :: dd 170 [], [(1, .box [zi t.1, yC t.2.1, zr t.2.2.1, yU t.2.2.2.1, Y4 t.2.2.2.2.1, vI t.2.2.2.2.2.1]), (10000000, .root true 5 yu t.2.2.2.2.2.2)]⟩)
def y88 (t : y7j) : St := ⟨.dead :: .box 1 0 :: .dead :: .own 10000000 :: .dead :: vI t.1 :: dd 168 [], [(1, .box [zi t.2.1, yC t.2.2.1, zr t.2.2.2.1, yU t.2.2.2.2.1, Y4 t.2.2.2.2.2.1, vI t.2.2.2.2.2.2.1]), (10000000, .root true 5 yu t.2.2.2.2.2.2.2)]⟩
def ykd : Gk kx := fun κ => Z2 (fun t => κ (some 2) ⟨.dead :: .box 1 0 :: .dead :: .own 10000000 :: dd 170 [], [(1, .box [zi t.1, yC t.2.1, zr t.2.2.1, yU t.2.2.2.1, Y4 t.2.2.2.2.1, vI t.2.2.2.2.2.1]), (10000000, .root true 5 yu t.2.2.2.2.2.2)]⟩)
def y89 (t : y7j) : St := ⟨.dead :: .box 1 0 :: .dead :: .own 10000000 :: dd 3 (vI t.1 :: dd 166 []), [(1, .box [zi t.2.1, yC t.2.2.1, zr t.2.2.2.1, yU t.2.2.2.2.1, Y4 t.2.2.2.2.2.1, vI t.2.2.2.2.2.2.1]), (10000000, .root true 5 yu t.2.2.2.2.2.2.2)]⟩
def yke : Gk kz := fun κ => Z3 (fun t => κ (some 4) ⟨.dead :: .box 1 0 :: .dead :: .own 10000000 :: dd 170 [], [(1, .box [zi t.1, yC t.2.1, zr t.2.2.1, yU t.2.2.2.1, Y4 t.2.2.2.2.1, vI t.2.2.2.2.2.1]), (10000000, .root true 5 yu t.2.2.2.2.2.2)]⟩)
def y8a (t : yp4) : St := ⟨.dead :: .box 1 0 :: .dead :: .own 10000000 :: dd 4 (vI t.1 :: vI t.2.1 :: dd 164 []), [(1, .box [zi t.2.2.1, yC t.2.2.2.1, zr t.2.2.2.2.1, yU t.2.2.2.2.2.1, Y4 t.2.2.2.2.2.2.1, vI t.2.2.2.2.2.2.2.1]), (10000000, .root true 5 yu t.2.2.2.2.2.2.2.2)]⟩
def ykf : Gk kB := fun κ => Z4 (fun t => κ (some 8) ⟨.dead :: .box 1 0 :: .dead :: .own 10000000 :: dd 4 (vI t.1 :: dd 165 []), [(1, .box [zi t.2.1, yC t.2.2.1, zr t.2.2.2.1, yU t.2.2.2.2.1, Y4 t.2.2.2.2.2.1, vI t.2.2.2.2.2.2.1]), (10000000, .root true 5 yu t.2.2.2.2.2.2.2)]⟩)
def y8b (t : y7j) : St := ⟨.dead :: .box 1 0 :: .dead :: .own 10000000 :: dd 4 (vI t.1 :: dd 165 []), [(1, .box [zi t.2.1, yC t.2.2.1, zr t.2.2.2.1, yU t.2.2.2.2.1, Y4 t.2.2.2.2.2.1, vI t.2.2.2.2.2.2.1]), (10000000, .root true 5 yu t.2.2.2.2.2.2.2)]⟩
def ykg : Gk kD := fun κ => Z5 (fun t => κ (some 6) ⟨dd 3 (.own 10000000 :: dd 170 []), [(10000000, .root true 5 yu t)]⟩)
def yfZ : Lp := lpC 21 (unG ya7 y8b) @ykg (lpC 25 (unG yp5 y8a) @ykf (lpC 16 (unG ya7 y89) @yke (lpC 11 (unG ya7 y88) @ykd (lpC 6 (unG ya7 ybK) @yuu lpN))))
theorem yzH : LF yfY yfZ 11 6 Tryz.f11 0 ybK @yuu fun t => t := fun R κ again t => by kernel_rfl
theorem yzI : LK yfY yfZ 11 Tryz.f11 0 := lkN (u := (unG ya7 ybK)) (ya fun t => by kernel_rfl) yzH
theorem yuv : LF yfY yfZ 11 11 Tryz.f11 1 y88 @ykd fun t => t := fun R κ again t => by kernel_rfl
theorem yuw : LK yfY yfZ 11 Tryz.f11 1 := lkN (u := (unG ya7 y88)) (ya fun t => by kernel_rfl) yuv
theorem yux : LF yfY yfZ 11 16 Tryz.f11 2 y89 @yke fun t => t := fun R κ again t => by kernel_rfl
theorem yuy : LK yfY yfZ 11 Tryz.f11 2 := lkN (u := (unG ya7 y89)) (ya fun t => by kernel_rfl) yux
theorem yuz : LF yfY yfZ 11 25 Tryz.f11 4 y8a @ykf fun t => t := fun R κ again t => by kernel_rfl
theorem yuA : LK yfY yfZ 11 Tryz.f11 4 := lkN (u := (unG yp5 y8a)) (ya fun t => by kernel_rfl) yuz
theorem yuB : LF yfY yfZ 11 21 Tryz.f11 3 y8b @ykg fun t => t := fun R κ again t => by kernel_rfl
theorem yuC : LK yfY yfZ 11 Tryz.f11 3 := lkN (u := (unG ya7 y8b)) (ya fun t => by kernel_rfl) yuB
theorem yGk : EV yfY yfZ 11 Tryz.f11 yCX wC [(.sl 5 yu)] JL := fun x => by kernel_rfl
def q11 : QF := ⟨11, JL, okN (n := 5) Tryz.func11 ⟨yzI, yuw, yuy, yuC, yuA, trivial⟩ yGk⟩
abbrev y0p : Type := yp6
def qa (k0 : yo7 → Option R) (again : y0p → Option R) (t7 : y0p) : Option R :=
 bif (decide (t7.2.2.2 < (8 : Int))) then bif ((Go.bits .and .i64 t7.2.1 (1 : Int)) == (1 : Int)) then again (t7.1, (Go.bits .xor .i64 (Int.fdiv t7.2.1 (2 ^ (min (Int.toNat (1 : Int)) (Go.IntKind.bits .i64)))) (2197175160 : Int)), t7.2.2.1, (Go.IntKind.wrap .i64 (t7.2.2.2 + (1 : Int)))) else again (t7.1, (Int.fdiv t7.2.1 (2 ^ (min (Int.toNat (1 : Int)) (Go.IntKind.bits .i64)))), t7.2.2.1, (Go.IntKind.wrap .i64 (t7.2.2.2 + (1 : Int)))) else k0 (t7.1, t7.2.1, t7.2.2.1)
def y0q k0 := yS (@qa R k0) z3
abbrev y0r : Type := yo7
def y0s (k0 : Int → Option R) (again : y0r → Option R) (t3 : y0r) : Option R :=
 bif (decide (t3.2.2 < (List.length t3.1 : Int))) then if (0 : Int) ≤ t3.2.2 then if t3.2.2 < (List.length t3.1 : Int) then y0q (fun x1 => again (x1.1, x1.2.1, (Go.IntKind.wrap .i64 (x1.2.2 + (1 : Int))))) (t3.1, (Go.bits .xor .i64 t3.2.1 (Go.IntKind.wrap .i64 (ya6 t3.1 t3.2.2))), t3.2.2, (0 : Int)) else none else none else k0 t3.2.1
def y39 k0 := yS (@y0s R k0) z3
def vC (x : List z0) : Option Int :=
 y39 (fun x2 => some (Go.bits .xor .i64 x2 (4294967295 : Int))) (x, (4294967295 : Int), (0 : Int))
def yg0 : List QF := []
def y8c (t : yp6) : St := ⟨yeJ t.1 :: dd 2 (vI t.2.1 :: vI t.2.2.1 :: vI t.2.2.2 :: dd 27 []), []⟩
def ykh : Gk y0p := fun κ => qa (fun t => κ (some 2) ⟨yeJ t.1 :: dd 2 (vI t.2.1 :: vI t.2.2 :: dd 28 []), []⟩)
def y8d (t : yo7) : St := ⟨yeJ t.1 :: dd 2 (vI t.2.1 :: vI t.2.2 :: dd 28 []), []⟩
def yki : Gk y0r := fun κ => y0s (fun t => κ (some 0) ⟨dd 3 (vI t :: dd 29 []), []⟩)
def yg1 : Lp := lpC 3 (unG yw2 y8d) @yki (lpC 7 (unG yp7 y8c) @ykh lpN)
theorem yuD : LF yg0 yg1 150 7 Tryz.f150 1 y8c @ykh fun t => t := fun R κ again t => by kernel_rfl
theorem yuE : LK yg0 yg1 150 Tryz.f150 1 := lkN (u := (unG yp7 y8c)) (ya fun t => by kernel_rfl) yuD
theorem yuF : LF yg0 yg1 150 3 Tryz.f150 0 y8d @yki fun t => t := fun R κ again t => by kernel_rfl
theorem yuG : LK yg0 yg1 150 Tryz.f150 0 := lkN (u := (unG yw2 y8d)) (ya fun t => by kernel_rfl) yuF
theorem yzJ : EV yg0 yg1 150 Tryz.f150 yrE [(.sl 5 yu)] [(.int .i64)] vC := fun x => by kernel_rfl
def yDd : QF := ⟨150, vC, okN (n := 2) Tryz.func150 ⟨yuG, yuE, trivial⟩ yzJ⟩
def Jh (x : y4Q) : Option Int :=
 Option.bind (yr (x.1, (0 : Int), (1 : Int))) fun r1 => Option.bind (bif (!r1) then some true else Option.bind (yr (x.2, (0 : Int), (23 : Int))) fun r3 => some (!r3)) fun u2 => bif u2 then some (-1 : Int) else some (Go.IntKind.wrap .i64 ((Go.IntKind.wrap .i64 ((8 : Int) + (Go.IntKind.wrap .i64 (x.1 * (24 : Int))))) + x.2))
theorem yzK : EV [ybH] lpN 154 Tryz.f154 yrF yeK [(.int .i64)] Jh := fun x => by kernel_rfl
def yGl : QF := ⟨154, Jh, okN (n := 0) Tryz.func154 trivial yzK⟩
def JM (x : yhN) : Option Bool :=
 Option.bind (yr (x.1, (1 : Int), (60000 : Int))) fun r1 => Option.bind (bif r1 then Option.bind (yr (x.2.1, (0 : Int), (1 : Int))) fun r3 => some r3 else some false) fun u2 => Option.bind (bif u2 then Option.bind (yr (x.2.2.1, (0 : Int), (1680 : Int))) fun r5 => some r5 else some false) fun u4 => Option.bind (bif u4 then Option.bind (yr (x.2.2.2.1, (0 : Int), (4294967295 : Int))) fun r7 => some r7 else some false) fun u6 => Option.bind (bif u6 then Option.bind (yr (x.2.2.2.2, (1 : Int), (60000 : Int))) fun r9 => some r9 else some false) fun u8 => some u8
theorem yzL : EV [ybH] lpN 152 Tryz.f152 yrG y16 [.bool] JM := fun x => by kernel_rfl
def yGm : QF := ⟨152, JM, okN (n := 0) Tryz.func152 trivial yzL⟩
def jb (x : yli) : Option (List z0) :=
 if (List.length ([] : List z0) + List.length x.1) * 1 < 140737488355328 then if (List.length (([] : List z0) ++ x.1) + List.length ([(Go.IntKind.wrap .u8 (Int.fdiv x.2 (2 ^ (min (Int.toNat (24 : Int)) (Go.IntKind.bits .i64))))), (Go.IntKind.wrap .u8 (Int.fdiv x.2 (2 ^ (min (Int.toNat (16 : Int)) (Go.IntKind.bits .i64))))), (Go.IntKind.wrap .u8 (Int.fdiv x.2 (2 ^ (min (Int.toNat (8 : Int)) (Go.IntKind.bits .i64))))), (Go.IntKind.wrap .u8 x.2)] : List z0)) * 1 < 140737488355328 then some ((([] : List z0) ++ x.1) ++ ([(Go.IntKind.wrap .u8 (Int.fdiv x.2 (2 ^ (min (Int.toNat (24 : Int)) (Go.IntKind.bits .i64))))), (Go.IntKind.wrap .u8 (Int.fdiv x.2 (2 ^ (min (Int.toNat (16 : Int)) (Go.IntKind.bits .i64))))), (Go.IntKind.wrap .u8 (Int.fdiv x.2 (2 ^ (min (Int.toNat (8 : Int)) (Go.IntKind.bits .i64))))), (Go.IntKind.wrap .u8 x.2)] : List z0)) else none else none
theorem yzM : EV [] lpN 226 Tryz.f226 yrH ylj [(.sl 5 yu)] jb := fun x => by kernel_rfl
def yGn : QF := ⟨226, jb, okN (n := 0) Tryz.func226 trivial yzM⟩
def jR (x : yhN) : Option (List z0) :=
 Option.bind (JM x) fun r1 => bif (!r1) then some ([] : List z0) else Option.bind (zH (([] : List z0), x.1)) fun r2 => if (List.length r2 + List.length ([(Go.IntKind.wrap .u8 x.2.1)] : List z0)) * 1 < 140737488355328 then Option.bind (zH ((r2 ++ ([(Go.IntKind.wrap .u8 x.2.1)] : List z0)), x.2.2.1)) fun r3 => Option.bind (jb (r3, x.2.2.2.1)) fun r4 => Option.bind (zH (r4, x.2.2.2.2)) fun r5 => Option.bind (vC r5) fun r6 => Option.bind (jb (r5, r6)) fun r7 => some r7 else none
theorem yzN : EV [q48, yDd, yGm, yGn] lpN 183 Tryz.f183 yrI y16 [(.sl 5 yu)] jR := fun x => by kernel_rfl
def yGo : QF := ⟨183, jR, okN (n := 0) Tryz.func183 trivial yzN⟩
def Yd (x : y06) : Option ywx :=
 bif (x.2.2.1 == (0 : Int)) then some (false, x.1, x.2.1, (-1 : Int), true, x.2.2.2.2.1, x.2.2.2.2.2.1, x.2.2.2.2.2.2.1, x.2.2.2.2.2.2.2.1, x.2.2.2.2.2.2.2.2.1, x.2.2.2.2.2.2.2.2.2.1, x.2.2.2.2.2.2.2.2.2.2.1, x.2.2.2.2.2.2.2.2.2.2.2.1, x.2.2.2.2.2.2.2.2.2.2.2.2) else bif (decide (x.2.2.1 > (0 : Int))) then some (true, x.1, x.2.1, (Go.IntKind.wrap .i64 (x.2.2.1 - (1 : Int))), x.2.2.2.1, x.2.2.2.2.1, x.2.2.2.2.2.1, x.2.2.2.2.2.2.1, x.2.2.2.2.2.2.2.1, x.2.2.2.2.2.2.2.2.1, x.2.2.2.2.2.2.2.2.2.1, x.2.2.2.2.2.2.2.2.2.2.1, x.2.2.2.2.2.2.2.2.2.2.2.1, x.2.2.2.2.2.2.2.2.2.2.2.2) else some (true, x)
theorem yir : EV [] lpN 100001 Tryz.f177 ycS jg ywy Yd := fun x => by kernel_rfl
def yg2 : QF := ⟨100001, Yd, okN (n := 0) Tryz.func177 trivial yir⟩
abbrev jh : Type := yp8
def za (k0 : ypa → Option R) (again : jh → Option R) (t2 : jh) : Option R :=
 bif (decide (t2.1 < (List.length t2.2.2.2.2.2.2.2.2.1 : Int))) then if (0 : Int) ≤ t2.1 then if t2.1 < (List.length t2.2.2.2.2.2.2.2.2.1 : Int) then if (0 : Int) ≤ t2.1 then if t2.1 < (List.length t2.2.2.2.2.2.2.2.2.1 : Int) then if (0 : Int) ≤ (yV t2.2.2.2.2.2.2.2.2.1 t2.1).1 then if (yV t2.2.2.2.2.2.2.2.2.1 t2.1).1 < (List.length t2.2.2.2.2.2.2.2.1 : Int) then again ((Go.IntKind.wrap .i64 (t2.1 + (1 : Int))), t2.2.1, t2.2.2.1, t2.2.2.2.1, t2.2.2.2.2.1, t2.2.2.2.2.2.1, t2.2.2.2.2.2.2.1, (List.set t2.2.2.2.2.2.2.2.1 (Int.toNat ((yV t2.2.2.2.2.2.2.2.2.1 t2.1).1)) ((yV t2.2.2.2.2.2.2.2.2.1 t2.1).2)), t2.2.2.2.2.2.2.2.2.1, t2.2.2.2.2.2.2.2.2.2.1, t2.2.2.2.2.2.2.2.2.2.2.1, t2.2.2.2.2.2.2.2.2.2.2.2.1, t2.2.2.2.2.2.2.2.2.2.2.2.2.1, t2.2.2.2.2.2.2.2.2.2.2.2.2.2) else none else none else none else none else none else none else k0 t2.2
def ji k0 := yS (@za R k0) z3
def zd (x : y06) : Option y06 :=
 bif x.2.2.2.1 then some x else Option.bind (Yd x) fun r1 => bif (!r1.1) then some r1.2 else ji (fun x2 => some (x2.2.2.2.2.2.2.1, ([] : List yQ), x2.1, x2.2.1, x2.2.2.2.2.2.2.2.2.1, x2.2.2.2.2.2.2.2.2.2.1, x2.2.2.2.2.2.2.2.2.2.2.1, x2.2.2.2.2.2.2.2.2.2.2.2.1, x2.2.2.2.2.2.2.2.2.2.2.2.2, x2.2.2.1, x2.2.2.2.1, x2.2.2.2.2.1, x2.2.2.2.2.2.1)) ((0 : Int), r1.2.2.2.1, r1.2.2.2.2.1, r1.2.2.2.2.2.2.2.2.2.2.1, r1.2.2.2.2.2.2.2.2.2.2.2.1, r1.2.2.2.2.2.2.2.2.2.2.2.2.1, r1.2.2.2.2.2.2.2.2.2.2.2.2.2, r1.2.1, r1.2.2.1, r1.2.2.2.2.2.1, r1.2.2.2.2.2.2.1, r1.2.2.2.2.2.2.2.1, r1.2.2.2.2.2.2.2.2.1, r1.2.2.2.2.2.2.2.2.2.1)
def y8e : List QF := [yg2]
def y1w (t : yp8) : St := ⟨.box 900 0 :: .dead :: vI t.1 :: dd 43 [], [(900, .box [.own 10000000, .own 10000001, vI t.2.1, vB t.2.2.1, .own 10000002, .own 10000003, .own 10000004, .own 10000005, .own 10000006, vI t.2.2.2.1, vI t.2.2.2.2.1, vI t.2.2.2.2.2.1, vI t.2.2.2.2.2.2.1]), (10000000, .root true 32 yc t.2.2.2.2.2.2.2.1), (10000001, .root true 186 z5 t.2.2.2.2.2.2.2.2.1), (10000002, .root true 3 ye t.2.2.2.2.2.2.2.2.2.1), (10000003, .root true 98 yf t.2.2.2.2.2.2.2.2.2.2.1), (10000004, .root true 89 yB t.2.2.2.2.2.2.2.2.2.2.2.1), (10000005, .root true 95 yk t.2.2.2.2.2.2.2.2.2.2.2.2.1), (10000006, .root true 91 yK t.2.2.2.2.2.2.2.2.2.2.2.2.2)]⟩
def ya8 : Gk jh := fun κ => za (fun t => κ (some 0) ⟨.box 900 0 :: dd 45 [], [(900, .box [.own 10000000, .own 10000001, vI t.1, vB t.2.1, .own 10000002, .own 10000003, .own 10000004, .own 10000005, .own 10000006, vI t.2.2.1, vI t.2.2.2.1, vI t.2.2.2.2.1, vI t.2.2.2.2.2.1]), (10000000, .root true 32 yc t.2.2.2.2.2.2.1), (10000001, .root true 186 z5 t.2.2.2.2.2.2.2.1), (10000002, .root true 3 ye t.2.2.2.2.2.2.2.2.1), (10000003, .root true 98 yf t.2.2.2.2.2.2.2.2.2.1), (10000004, .root true 89 yB t.2.2.2.2.2.2.2.2.2.2.1), (10000005, .root true 95 yk t.2.2.2.2.2.2.2.2.2.2.2.1), (10000006, .root true 91 yK t.2.2.2.2.2.2.2.2.2.2.2.2)]⟩)
def y8f : Lp := lpC 2 (unG yp9 y1w) @ya8 lpN
theorem yg3 : LF y8e y8f 100000 2 Tryz.f102 0 y1w @ya8 fun t => t := fun R κ again t => by kernel_rfl
theorem yg4 : LK y8e y8f 100000 Tryz.f102 0 := lkN (u := (unG yp9 y1w)) (ya fun t => by kernel_rfl) yg3
theorem yis : EV y8e y8f 100000 Tryz.f102 ycT jg jg zd := fun x => by kernel_rfl
def ymN : QF := ⟨100000, zd, okN (n := 1) Tryz.func102 ⟨yg4, trivial⟩ yis⟩
def yW (x : ypb) : Option y06 :=
 Option.bind (bif x.2.2.2.1 then some true else Option.bind (yr (x.2.2.2.2.2.2.2.2.2.2.2.2.2.1, (0 : Int), (Go.IntKind.wrap .i64 ((List.length x.1 : Int) - (1 : Int))))) fun r2 => some (!r2)) fun u1 => Option.bind (bif u1 then some true else some (decide ((List.length x.2.2.2.2.2.2.2.2.2.2.2.2.2.2 : Int) > (80 : Int)))) fun u3 => Option.bind (bif u3 then some true else some (decide ((List.length x.2.1 : Int) ≥ (60 : Int)))) fun u4 => bif u4 then some (x.1, x.2.1, x.2.2.1, x.2.2.2.1, x.2.2.2.2.1, x.2.2.2.2.2.1, x.2.2.2.2.2.2.1, x.2.2.2.2.2.2.2.1, x.2.2.2.2.2.2.2.2.1, x.2.2.2.2.2.2.2.2.2.1, x.2.2.2.2.2.2.2.2.2.2.1, x.2.2.2.2.2.2.2.2.2.2.2.1, x.2.2.2.2.2.2.2.2.2.2.2.2.1) else Option.bind (Yd (x.1, x.2.1, x.2.2.1, x.2.2.2.1, x.2.2.2.2.1, x.2.2.2.2.2.1, x.2.2.2.2.2.2.1, x.2.2.2.2.2.2.2.1, x.2.2.2.2.2.2.2.2.1, x.2.2.2.2.2.2.2.2.2.1, x.2.2.2.2.2.2.2.2.2.2.1, x.2.2.2.2.2.2.2.2.2.2.2.1, x.2.2.2.2.2.2.2.2.2.2.2.2.1)) fun r5 => bif (!r5.1) then some r5.2 else if (List.length ([] : List z0) + List.length x.2.2.2.2.2.2.2.2.2.2.2.2.2.2) * 1 < 140737488355328 then if (List.length r5.2.2.1 + List.length ([(x.2.2.2.2.2.2.2.2.2.2.2.2.2.1, (([] : List z0) ++ x.2.2.2.2.2.2.2.2.2.2.2.2.2.2))] : List yQ)) * 32 < 140737488355328 then some (r5.2.1, (r5.2.2.1 ++ ([(x.2.2.2.2.2.2.2.2.2.2.2.2.2.1, (([] : List z0) ++ x.2.2.2.2.2.2.2.2.2.2.2.2.2.2))] : List yQ)), r5.2.2.2.1, r5.2.2.2.2.1, r5.2.2.2.2.2.1, r5.2.2.2.2.2.2.1, r5.2.2.2.2.2.2.2.1, r5.2.2.2.2.2.2.2.2.1, r5.2.2.2.2.2.2.2.2.2.1, r5.2.2.2.2.2.2.2.2.2.2.1, r5.2.2.2.2.2.2.2.2.2.2.2.1, r5.2.2.2.2.2.2.2.2.2.2.2.2.1, r5.2.2.2.2.2.2.2.2.2.2.2.2.2) else none else none
theorem yit : EV [ybH, yg2] lpN 100003 Tryz.f182 ycU ypc jg yW := fun x => by kernel_rfl
def yg5 : QF := ⟨100003, yW, okN (n := 0) Tryz.func182 trivial yit⟩
abbrev ZF : Type := ypd
def Y7 (k0 : ypa → Option R) (again : ZF → Option R) (t1 : ZF) : Option R :=
 bif (decide ((Go.IntKind.wrap .i64 (t1.2.2.1 * (70 : Int))) < (List.length t1.2.1 : Int))) then bif (decide ((Go.IntKind.wrap .i64 ((Go.IntKind.wrap .i64 (t1.2.2.1 + (1 : Int))) * (70 : Int))) > (List.length t1.2.1 : Int))) then Option.bind (Jh (t1.1, t1.2.2.1)) fun r1 => if (0 : Int) ≤ (Go.IntKind.wrap .i64 (t1.2.2.1 * (70 : Int))) then if (Go.IntKind.wrap .i64 (t1.2.2.1 * (70 : Int))) ≤ (List.length t1.2.1 : Int) then if (List.length t1.2.1 : Int) ≤ (List.length t1.2.1 : Int) then Option.bind (yW (t1.2.2.2.2.2.2.2.2.2.1, t1.2.2.2.2.2.2.2.2.2.2.1, t1.2.2.2.1, t1.2.2.2.2.1, t1.2.2.2.2.2.2.2.2.2.2.2.1, t1.2.2.2.2.2.2.2.2.2.2.2.2.1, t1.2.2.2.2.2.2.2.2.2.2.2.2.2.1, t1.2.2.2.2.2.2.2.2.2.2.2.2.2.2.1, t1.2.2.2.2.2.2.2.2.2.2.2.2.2.2.2, t1.2.2.2.2.2.1, t1.2.2.2.2.2.2.1, t1.2.2.2.2.2.2.2.1, t1.2.2.2.2.2.2.2.2.1, r1, (List.drop (Int.toNat (Go.IntKind.wrap .i64 (t1.2.2.1 * (70 : Int)))) (List.take (Int.toNat (List.length t1.2.1 : Int)) t1.2.1)))) fun r2 => again (t1.1, t1.2.1, (Go.IntKind.wrap .i64 (t1.2.2.1 + (1 : Int))), r2.2.2.1, r2.2.2.2.1, r2.2.2.2.2.2.2.2.2.2.1, r2.2.2.2.2.2.2.2.2.2.2.1, r2.2.2.2.2.2.2.2.2.2.2.2.1, r2.2.2.2.2.2.2.2.2.2.2.2.2, r2.1, r2.2.1, r2.2.2.2.2.1, r2.2.2.2.2.2.1, r2.2.2.2.2.2.2.1, r2.2.2.2.2.2.2.2.1, r2.2.2.2.2.2.2.2.2.1) else none else none else none else Option.bind (Jh (t1.1, t1.2.2.1)) fun r3 => if (0 : Int) ≤ (Go.IntKind.wrap .i64 (t1.2.2.1 * (70 : Int))) then if (Go.IntKind.wrap .i64 (t1.2.2.1 * (70 : Int))) ≤ (Go.IntKind.wrap .i64 ((Go.IntKind.wrap .i64 (t1.2.2.1 + (1 : Int))) * (70 : Int))) then if (Go.IntKind.wrap .i64 ((Go.IntKind.wrap .i64 (t1.2.2.1 + (1 : Int))) * (70 : Int))) ≤ (List.length t1.2.1 : Int) then Option.bind (yW (t1.2.2.2.2.2.2.2.2.2.1, t1.2.2.2.2.2.2.2.2.2.2.1, t1.2.2.2.1, t1.2.2.2.2.1, t1.2.2.2.2.2.2.2.2.2.2.2.1, t1.2.2.2.2.2.2.2.2.2.2.2.2.1, t1.2.2.2.2.2.2.2.2.2.2.2.2.2.1, t1.2.2.2.2.2.2.2.2.2.2.2.2.2.2.1, t1.2.2.2.2.2.2.2.2.2.2.2.2.2.2.2, t1.2.2.2.2.2.1, t1.2.2.2.2.2.2.1, t1.2.2.2.2.2.2.2.1, t1.2.2.2.2.2.2.2.2.1, r3, (List.drop (Int.toNat (Go.IntKind.wrap .i64 (t1.2.2.1 * (70 : Int)))) (List.take (Int.toNat (Go.IntKind.wrap .i64 ((Go.IntKind.wrap .i64 (t1.2.2.1 + (1 : Int))) * (70 : Int)))) t1.2.1)))) fun r4 => again (t1.1, t1.2.1, (Go.IntKind.wrap .i64 (t1.2.2.1 + (1 : Int))), r4.2.2.1, r4.2.2.2.1, r4.2.2.2.2.2.2.2.2.2.1, r4.2.2.2.2.2.2.2.2.2.2.1, r4.2.2.2.2.2.2.2.2.2.2.2.1, r4.2.2.2.2.2.2.2.2.2.2.2.2, r4.1, r4.2.1, r4.2.2.2.2.1, r4.2.2.2.2.2.1, r4.2.2.2.2.2.2.1, r4.2.2.2.2.2.2.2.1, r4.2.2.2.2.2.2.2.2.1) else none else none else none else k0 t1.2.2.2
def Wu k0 := yS (@Y7 R k0) z3
def zR (x : ypb) : Option y06 :=
 Wu (fun x5 => some (x5.2.2.2.2.2.2.1, x5.2.2.2.2.2.2.2.1, x5.1, x5.2.1, x5.2.2.2.2.2.2.2.2.1, x5.2.2.2.2.2.2.2.2.2.1, x5.2.2.2.2.2.2.2.2.2.2.1, x5.2.2.2.2.2.2.2.2.2.2.2.1, x5.2.2.2.2.2.2.2.2.2.2.2.2, x5.2.2.1, x5.2.2.2.1, x5.2.2.2.2.1, x5.2.2.2.2.2.1)) (x.2.2.2.2.2.2.2.2.2.2.2.2.2.1, x.2.2.2.2.2.2.2.2.2.2.2.2.2.2, (0 : Int), x.2.2.1, x.2.2.2.1, x.2.2.2.2.2.2.2.2.2.1, x.2.2.2.2.2.2.2.2.2.2.1, x.2.2.2.2.2.2.2.2.2.2.2.1, x.2.2.2.2.2.2.2.2.2.2.2.2.1, x.1, x.2.1, x.2.2.2.2.1, x.2.2.2.2.2.1, x.2.2.2.2.2.2.1, x.2.2.2.2.2.2.2.1, x.2.2.2.2.2.2.2.2.1)
def y8g : List QF := [yGl, yg5]
def y1x (t : ypd) : St := ⟨.box 900 0 :: vI t.1 :: yeJ t.2.1 :: dd 3 (vI t.2.2.1 :: dd 27 []), [(900, .box [.own 10000000, .own 10000001, vI t.2.2.2.1, vB t.2.2.2.2.1, .own 10000002, .own 10000003, .own 10000004, .own 10000005, .own 10000006, vI t.2.2.2.2.2.1, vI t.2.2.2.2.2.2.1, vI t.2.2.2.2.2.2.2.1, vI t.2.2.2.2.2.2.2.2.1]), (10000000, .root true 32 yc t.2.2.2.2.2.2.2.2.2.1), (10000001, .root true 186 z5 t.2.2.2.2.2.2.2.2.2.2.1), (10000002, .root true 3 ye t.2.2.2.2.2.2.2.2.2.2.2.1), (10000003, .root true 98 yf t.2.2.2.2.2.2.2.2.2.2.2.2.1), (10000004, .root true 89 yB t.2.2.2.2.2.2.2.2.2.2.2.2.2.1), (10000005, .root true 95 yk t.2.2.2.2.2.2.2.2.2.2.2.2.2.2.1), (10000006, .root true 91 yK t.2.2.2.2.2.2.2.2.2.2.2.2.2.2.2)]⟩
def ya9 : Gk ZF := fun κ => Y7 (fun t => κ (some 0) ⟨.box 900 0 :: dd 33 [], [(900, .box [.own 10000000, .own 10000001, vI t.1, vB t.2.1, .own 10000002, .own 10000003, .own 10000004, .own 10000005, .own 10000006, vI t.2.2.1, vI t.2.2.2.1, vI t.2.2.2.2.1, vI t.2.2.2.2.2.1]), (10000000, .root true 32 yc t.2.2.2.2.2.2.1), (10000001, .root true 186 z5 t.2.2.2.2.2.2.2.1), (10000002, .root true 3 ye t.2.2.2.2.2.2.2.2.1), (10000003, .root true 98 yf t.2.2.2.2.2.2.2.2.2.1), (10000004, .root true 89 yB t.2.2.2.2.2.2.2.2.2.2.1), (10000005, .root true 95 yk t.2.2.2.2.2.2.2.2.2.2.2.1), (10000006, .root true 91 yK t.2.2.2.2.2.2.2.2.2.2.2.2)]⟩)
def y8h : Lp := lpC 1 (unG ype y1x) @ya9 lpN
theorem yg6 : LF y8g y8h 100002 1 Tryz.f181 0 y1x @ya9 fun t => t := fun R κ again t => by kernel_rfl
theorem yg7 : LK y8g y8h 100002 Tryz.f181 0 := lkN (u := (unG ype y1x)) (ya fun t => by kernel_rfl) yg6
theorem yiu : EV y8g y8h 100002 Tryz.f181 ycV ypc jg zR := fun x => by kernel_rfl
def ymO : QF := ⟨100002, zR, okN (n := 1) Tryz.func181 ⟨yg7, trivial⟩ yiu⟩
def Z6 (x : y06) : Option y06 :=
 Option.bind (JL (x.2.2.2.2.1, x.2.2.2.2.2.1, x.2.2.2.2.2.2.1, x.2.2.2.2.2.2.2.1, x.2.2.2.2.2.2.2.2.1, x.2.2.2.2.2.2.2.2.2.1)) fun r1 => Option.bind (vC r1) fun r2 => Option.bind (zd x) fun r3 => Option.bind (zR (r3.1, r3.2.1, r3.2.2.1, r3.2.2.2.1, r3.2.2.2.2.1, r3.2.2.2.2.2.1, r3.2.2.2.2.2.2.1, r3.2.2.2.2.2.2.2.1, r3.2.2.2.2.2.2.2.2.1, r3.2.2.2.2.2.2.2.2.2.1, r3.2.2.2.2.2.2.2.2.2.2.1, r3.2.2.2.2.2.2.2.2.2.2.2.1, r3.2.2.2.2.2.2.2.2.2.2.2.2, (Int.tmod (Go.IntKind.wrap .i64 (x.2.2.2.2.2.2.2.2.2.2.1 + (1 : Int))) (2 : Int)), r1)) fun r4 => Option.bind (zd r4) fun r5 => Option.bind (jR ((Go.IntKind.wrap .i64 (x.2.2.2.2.2.2.2.2.2.2.1 + (1 : Int))), (Int.tmod (Go.IntKind.wrap .i64 (x.2.2.2.2.2.2.2.2.2.2.1 + (1 : Int))) (2 : Int)), (List.length r1 : Int), r2, x.2.2.2.2.2.2.2.2.2.2.2.2)) fun r6 => Option.bind (yW (r5.1, r5.2.1, r5.2.2.1, r5.2.2.2.1, r5.2.2.2.2.1, r5.2.2.2.2.2.1, r5.2.2.2.2.2.2.1, r5.2.2.2.2.2.2.2.1, r5.2.2.2.2.2.2.2.2.1, r5.2.2.2.2.2.2.2.2.2.1, r5.2.2.2.2.2.2.2.2.2.2.1, r5.2.2.2.2.2.2.2.2.2.2.2.1, r5.2.2.2.2.2.2.2.2.2.2.2.2, (Int.tmod (Go.IntKind.wrap .i64 (x.2.2.2.2.2.2.2.2.2.2.1 + (1 : Int))) (2 : Int)), r6)) fun r7 => Option.bind (zd r7) fun r8 => bif (!r8.2.2.2.1) then some (r8.1, r8.2.1, r8.2.2.1, r8.2.2.2.1, r8.2.2.2.2.1, r8.2.2.2.2.2.1, r8.2.2.2.2.2.2.1, r8.2.2.2.2.2.2.2.1, r8.2.2.2.2.2.2.2.2.1, r8.2.2.2.2.2.2.2.2.2.1, (Go.IntKind.wrap .i64 (r8.2.2.2.2.2.2.2.2.2.2.1 + (1 : Int))), r8.2.2.2.2.2.2.2.2.2.2.2.2, r8.2.2.2.2.2.2.2.2.2.2.2.2) else some r8
theorem yzO : EV [q11, yDd, yGo, ymN, ymO, yg5] lpN 108 Tryz.f108 yrJ jg jg Z6 := fun x => by kernel_rfl
def yGp : QF := ⟨108, Z6, okN (n := 0) Tryz.func108 trivial yzO⟩
def zI (x : y06) : Option y06 :=
 Option.bind (JA x) fun r1 => Option.bind (ZU x) fun r2 => Option.bind (bif r2 then Option.bind (yr (x.2.2.2.2.2.2.2.2.2.2.1, (0 : Int), (49999 : Int))) fun r4 => some r4 else some false) fun u3 => Option.bind (bif u3 then some (!x.2.2.2.1) else some false) fun u5 => bif u5 then Option.bind (Z6 r1) fun r6 => some r6 else some r1
theorem yGq : EV [yFQ, yGe, ybH, yGp] lpN 39 Tryz.f39 yCY jg jg zI := fun x => by kernel_rfl
def q39 : QF := ⟨39, zI, okN (n := 0) Tryz.func39 trivial yGq⟩
def yd (x : ylp) : Option Bool :=
 Option.bind (bif (decide (x.1 ≥ x.2.1)) then some (decide (x.1 ≤ x.2.2)) else some false) fun u1 => some u1
theorem yzP : EV [] lpN 134 Tryz.f134 yrK ylq [.bool] yd := fun x => by kernel_rfl
def ybL : QF := ⟨134, yd, okN (n := 0) Tryz.func134 trivial yzP⟩
def wB (x : yhN) : Option Bool :=
 Option.bind (yd (x.1, (0 : Int), (15 : Int))) fun r1 => Option.bind (bif (!r1) then some true else Option.bind (yd (x.2.1, (1 : Int), (60 : Int))) fun r3 => some (!r3)) fun u2 => Option.bind (bif u2 then some true else Option.bind (yd (x.2.2.1, (0 : Int), (2 : Int))) fun r5 => some (!r5)) fun u4 => bif u4 then some false else bif (x.2.2.1 != (1 : Int)) then Option.bind (bif (x.2.2.2.1 == (0 : Int)) then some (x.2.2.2.2 == (0 : Int)) else some false) fun u6 => some u6 else Option.bind (yd (x.2.2.2.1, (0 : Int), (23 : Int))) fun r7 => Option.bind (bif r7 then Option.bind (yd (x.2.2.2.2, (0 : Int), (999 : Int))) fun r9 => some r9 else some false) fun u8 => some u8
theorem yzQ : EV [ybL] lpN 138 Tryz.f138 yrL y16 [.bool] wB := fun x => by kernel_rfl
def yDe : QF := ⟨138, wB, okN (n := 0) Tryz.func138 trivial yzQ⟩
def jc (x : Qz2) : Option Bool :=
 Option.bind (bif (decide (x.1 < x.2.2.2.2.2.1)) then some true else Option.bind (bif (x.1 == x.2.2.2.2.2.1) then some (decide (x.2.1 < x.2.2.2.2.2.2.1)) else some false) fun u2 => some u2) fun u1 => some u1
theorem yzR : EV [] lpN 279 Tryz.f279 yrM qz2 [.bool] jc := fun x => by kernel_rfl
def yDf : QF := ⟨279, jc, okN (n := 0) Tryz.func279 trivial yzR⟩
abbrev qq : Type := ypf
def JN (k0 : yoI → Option R) (k1 : List y8 → Option R) (again : qq → Option R) (t2 : qq) : Option R :=
 bif (decide (t2.2.2.2 < t2.2.2.1)) then if (0 : Int) ≤ t2.2.2.2 then if t2.2.2.2 < (List.length t2.2.1 : Int) then Option.bind (wB ((y0 t2.2.1 t2.2.2.2).1, (y0 t2.2.1 t2.2.2.2).2.1, (y0 t2.2.1 t2.2.2.2).2.2.1, (y0 t2.2.1 t2.2.2.2).2.2.2.1, (y0 t2.2.1 t2.2.2.2).2.2.2.2)) fun r1 => Option.bind (bif (!r1) then some true else Option.bind (bif (decide (t2.2.2.2 > (0 : Int))) then if (0 : Int) ≤ (Go.IntKind.wrap .i64 (t2.2.2.2 - (1 : Int))) then if (Go.IntKind.wrap .i64 (t2.2.2.2 - (1 : Int))) < (List.length t2.1 : Int) then Option.bind (jc ((y0 t2.1 (Go.IntKind.wrap .i64 (t2.2.2.2 - (1 : Int)))).1, (y0 t2.1 (Go.IntKind.wrap .i64 (t2.2.2.2 - (1 : Int)))).2.1, (y0 t2.1 (Go.IntKind.wrap .i64 (t2.2.2.2 - (1 : Int)))).2.2.1, (y0 t2.1 (Go.IntKind.wrap .i64 (t2.2.2.2 - (1 : Int)))).2.2.2.1, (y0 t2.1 (Go.IntKind.wrap .i64 (t2.2.2.2 - (1 : Int)))).2.2.2.2, (y0 t2.2.1 t2.2.2.2).1, (y0 t2.2.1 t2.2.2.2).2.1, (y0 t2.2.1 t2.2.2.2).2.2.1, (y0 t2.2.1 t2.2.2.2).2.2.2.1, (y0 t2.2.1 t2.2.2.2).2.2.2.2)) fun r4 => some (!r4) else none else none else some false) fun u3 => some u3) fun u2 => bif u2 then k0 (t2.1, false) else again (t2.1, t2.2.1, t2.2.2.1, (Go.IntKind.wrap .i64 (t2.2.2.2 + (1 : Int)))) else none else none else k1 t2.1
def y1e k0 k1 := yS (@JN R k0 k1) z3
def Ko (x : List y8) : Option Bool :=
 y1e (fun x5 => some x5.2) (fun x6 => some (decide ((List.length x6 : Int) ≤ (60 : Int)))) (x, x, (List.length x : Int), (0 : Int))
def ymP : List QF := [yDe, yDf]
def y8i (t : ypf) : St := ⟨qE t.1 :: dd 4 (qE t.2.1 :: vI t.2.2.1 :: vI t.2.2.2 :: dd 25 []), []⟩
def ykj : Gk qq := fun κ => JN (fun t => κ none ⟨qE t.1 :: .dead :: vB t.2 :: dd 30 [], []⟩) (fun t => κ (some 0) ⟨qE t :: dd 32 [], []⟩)
def ymQ : Lp := lpC 2 (unG ypg y8i) @ykj lpN
theorem yuH : LF ymP ymQ 246 2 Tryz.f246 0 y8i @ykj fun t => t := fun R κ again t => by kernel_rfl
theorem yuI : LK ymP ymQ 246 Tryz.f246 0 := lkN (u := (unG ypg y8i)) (ya fun t => by kernel_rfl) yuH
theorem yzS : EV ymP ymQ 246 Tryz.f246 yrN [(.sl 106 yg)] [.bool] Ko := fun x => by kernel_rfl
def yGr : QF := ⟨246, Ko, okN (n := 1) Tryz.func246 ⟨yuI, trivial⟩ yzS⟩
abbrev Vk : Type := yph
def jS (k0 : ywz → Option R) (k1 : yh4 → Option R) (again : Vk → Option R) (t3 : Vk) : Option R :=
 bif (decide (t3.2.2.2.1 < t3.2.2.1)) then if (0 : Int) ≤ t3.2.2.2.1 then if t3.2.2.2.1 < (List.length t3.2.1 : Int) then Option.bind (Ko (yh t3.2.1 t3.2.2.2.1)) fun r1 => Option.bind (bif (!r1) then some true else some ((List.length (yh t3.2.1 t3.2.2.2.1) : Int) == (0 : Int))) fun u2 => bif u2 then k0 (false, t3.1, t3.2.2.2.2) else again ((Go.IntKind.wrap .i64 (t3.1 + (List.length (yh t3.2.1 t3.2.2.2.1) : Int))), t3.2.1, t3.2.2.1, (Go.IntKind.wrap .i64 (t3.2.2.2.1 + (1 : Int))), t3.2.2.2.2) else none else none else k1 (t3.1, t3.2.2.2.2)
def y0t k0 k1 := yS (@jS R k0 k1) z3
def Wv (x : List y9) : Option Bool :=
 y0t (fun x3 => some x3.1) (fun x4 => Option.bind (bif (decide ((List.length x4.2 : Int) ≤ (3 : Int))) then some (decide (x4.1 ≤ (8 : Int))) else some false) fun u5 => some u5) ((0 : Int), x, (List.length x : Int), (0 : Int), x)
def ymR : List QF := [yGr]
def y8j (t : yph) : St := ⟨.dead :: .box 1 0 :: .dead :: vI t.1 :: dd 3 (zC t.2.1 :: vI t.2.2.1 :: vI t.2.2.2.1 :: dd 24 []), [(1, .box [zC t.2.2.2.2])]⟩
def ykk : Gk Vk := fun κ => jS (fun t => κ none ⟨.dead :: .box 1 0 :: vB t.1 :: vI t.2.1 :: dd 30 [], [(1, .box [zC t.2.2])]⟩) (fun t => κ (some 0) ⟨.dead :: .box 1 0 :: .dead :: vI t.1 :: dd 30 [], [(1, .box [zC t.2])]⟩)
def ymS : Lp := lpC 3 (unG ypi y8j) @ykk lpN
theorem yuJ : LF ymR ymS 204 3 Tryz.f204 0 y8j @ykk fun t => t := fun R κ again t => by kernel_rfl
theorem yuK : LK ymR ymS 204 Tryz.f204 0 := lkN (u := (unG ypi y8j)) (ya fun t => by kernel_rfl) yuJ
theorem yzT : EV ymR ymS 204 Tryz.f204 yrO [(.sl 100 yj)] [.bool] Wv := fun x => by kernel_rfl
def yGs : QF := ⟨204, Wv, okN (n := 1) Tryz.func204 ⟨yuK, trivial⟩ yzT⟩
def vu (x : y4Q) : Option Int :=
 some (Go.IntKind.wrap .i64 ((Go.IntKind.wrap .i64 ((64 : Int) * x.1)) + x.2))
theorem yzU : EV [] lpN 247 Tryz.f247 yrP yeK [(.int .i64)] vu := fun x => by kernel_rfl
def yGt : QF := ⟨247, vu, okN (n := 0) Tryz.func247 trivial yzU⟩
abbrev kF : Type := ypj
def Z7 (k0 : ywA → Option R) (k1 : ylv → Option R) (again : kF → Option R) (t5 : kF) : Option R :=
 bif (decide (t5.2.2.2.2.2.2.1 < t5.2.2.2.2.2.1)) then if (0 : Int) ≤ t5.2.2.2.2.2.2.1 then if t5.2.2.2.2.2.2.1 < (List.length t5.2.2.2.2.1 : Int) then Option.bind (vu ((y0 t5.2.2.2.2.1 t5.2.2.2.2.2.2.1).1, (y0 t5.2.2.2.2.1 t5.2.2.2.2.2.2.1).2.1)) fun r1 => if (0 : Int) ≤ t5.1 then if t5.1 < (List.length t5.2.2.2.2.2.2.2.1 : Int) then Option.bind (bif (decide (r1 < (zy t5.2.2.2.2.2.2.2.1 t5.1))) then some true else Option.bind (bif (decide ((Go.IntKind.wrap .i64 (t5.1 + (1 : Int))) < (List.length t5.2.2.2.2.2.2.2.1 : Int))) then if (0 : Int) ≤ (Go.IntKind.wrap .i64 (t5.1 + (1 : Int))) then if (Go.IntKind.wrap .i64 (t5.1 + (1 : Int))) < (List.length t5.2.2.2.2.2.2.2.1 : Int) then some (decide (r1 ≥ (zy t5.2.2.2.2.2.2.2.1 (Go.IntKind.wrap .i64 (t5.1 + (1 : Int)))))) else none else none else some false) fun u3 => some u3) fun u2 => bif u2 then k0 (t5.1, false, t5.2.1, t5.2.2.1, t5.2.2.2.1, t5.2.2.2.2.2.2.2) else again (t5.1, t5.2.1, t5.2.2.1, t5.2.2.2.1, t5.2.2.2.2.1, t5.2.2.2.2.2.1, (Go.IntKind.wrap .i64 (t5.2.2.2.2.2.2.1 + (1 : Int))), t5.2.2.2.2.2.2.2.1, t5.2.2.2.2.2.2.2.2) else none else none else none else none else k1 (t5.1, t5.2.1, t5.2.2.1, t5.2.2.2.1, t5.2.2.2.2.2.2.2)
def kG k0 k1 := yS (@Z7 R k0 k1) z3
abbrev kH : Type := ylv
def Z8 (k0 : Bool → Option R) (k1 : Unit → Option R) (again : kH → Option R) (t2 : kH) : Option R :=
 bif (decide (t2.2.2.2.1 < t2.2.2.1)) then if (0 : Int) ≤ t2.2.2.2.1 then if t2.2.2.2.1 < (List.length t2.2.1 : Int) then kG (fun x4 => k0 x4.2.1) (fun x5 => again (x5.1, x5.2.1, x5.2.2.1, (Go.IntKind.wrap .i64 (x5.2.2.2.1 + (1 : Int))), x5.2.2.2.2.1, x5.2.2.2.2.2)) (t2.1, t2.2.1, t2.2.2.1, t2.2.2.2.1, (yh t2.2.1 t2.2.2.2.1), (List.length (yh t2.2.1 t2.2.2.2.1) : Int), (0 : Int), t2.2.2.2.2.1, t2.2.2.2.2.2) else none else none else k1 ()
def qT k0 k1 := yS (@Z8 R k0 k1) z3
def jT (x : yvU) : Option Bool :=
 if (0 : Int) ≤ x.2.2 then if x.2.2 < (List.length x.2.1 : Int) then qT (fun x6 => some x6) (fun x7 => some true) (x.2.2, (ym x.2.1 x.2.2), (List.length (ym x.2.1 x.2.2) : Int), (0 : Int), x.1, x.2.1) else none else none
def yg8 : List QF := [yGt]
def y8k (t : ypj) : St := ⟨.dead :: vI t.1 :: .box 2 0 :: dd 12 (zC t.2.1 :: vI t.2.2.1 :: vI t.2.2.2.1 :: dd 3 (qE t.2.2.2.2.1 :: vI t.2.2.2.2.2.1 :: vI t.2.2.2.2.2.2.1 :: dd 35 [])), [(2, .box [zi t.2.2.2.2.2.2.2.1, yC t.2.2.2.2.2.2.2.2])]⟩
def ykl : Gk kF := fun κ => Z7 (fun t => κ none ⟨.dead :: vI t.1 :: .box 2 0 :: .dead :: vB t.2.1 :: dd 10 (zC t.2.2.1 :: vI t.2.2.2.1 :: vI t.2.2.2.2.1 :: dd 41 []), [(2, .box [zi t.2.2.2.2.2.1, yC t.2.2.2.2.2.2])]⟩) (fun t => κ (some 2) ⟨.dead :: vI t.1 :: .box 2 0 :: dd 12 (zC t.2.1 :: vI t.2.2.1 :: vI t.2.2.2.1 :: dd 41 []), [(2, .box [zi t.2.2.2.2.1, yC t.2.2.2.2.2])]⟩)
def y8l (t : ylv) : St := ⟨.dead :: vI t.1 :: .box 2 0 :: dd 12 (zC t.2.1 :: vI t.2.2.1 :: vI t.2.2.2.1 :: dd 41 []), [(2, .box [zi t.2.2.2.2.1, yC t.2.2.2.2.2])]⟩
def ykm : Gk kH := fun κ => Z8 (fun t => κ none ⟨dd 4 (vB t :: dd 54 []), []⟩) (fun t => κ (some 0) ⟨dd 59 [], []⟩)
def yg9 : Lp := lpC 2 (unG ypl y8l) @ykm (lpC 5 (unG ypk y8k) @ykl lpN)
theorem yuL : LF yg8 yg9 205 5 Tryz.f205 1 y8k @ykl fun t => t := fun R κ again t => by kernel_rfl
theorem yuM : LK yg8 yg9 205 Tryz.f205 1 := lkN (u := (unG ypk y8k)) (ya fun t => by kernel_rfl) yuL
theorem yuN : LF yg8 yg9 205 2 Tryz.f205 0 y8l @ykm fun t => t := fun R κ again t => by kernel_rfl
theorem yuO : LK yg8 yg9 205 Tryz.f205 0 := lkN (u := (unG ypl y8l)) (ya fun t => by kernel_rfl) yuN
theorem yzV : EV yg8 yg9 205 Tryz.f205 yrQ yvV [.bool] jT := fun x => by kernel_rfl
def yGu : QF := ⟨205, jT, okN (n := 2) Tryz.func205 ⟨yuO, yuM, trivial⟩ yzV⟩
def zS (x : List y8) : Option (List y8) :=
 if (List.length ([] : List y8) + List.length x) * 40 < 140737488355328 then some (([] : List y8) ++ x) else none
theorem yzW : EV [] lpN 280 Tryz.f280 yrR [(.sl 106 yg)] [(.sl 106 yg)] zS := fun x => by kernel_rfl
def yDg : QF := ⟨280, zS, okN (n := 0) Tryz.func280 trivial yzW⟩
def Z9 (x : Qz2) : Option Bool :=
 Option.bind (bif (x.1 == x.2.2.2.2.2.1) then some (x.2.1 == x.2.2.2.2.2.2.1) else some false) fun u1 => some u1
theorem yzX : EV [] lpN 302 Tryz.f302 yrS qz2 [.bool] Z9 := fun x => by kernel_rfl
def yGv : QF := ⟨302, Z9, okN (n := 0) Tryz.func302 trivial yzX⟩
abbrev Ww : Type := ypm
def Yl (k0 : yoB → Option R) (again : Ww → Option R) (t4 : Ww) : Option R :=
 bif (decide (t4.2.2.2.1 < t4.2.2.1)) then if (0 : Int) ≤ t4.2.2.2.1 then if t4.2.2.2.1 < (List.length t4.2.1 : Int) then Option.bind (bif (!t4.1) then Option.bind (jc ((y0 t4.2.1 t4.2.2.2.1).1, (y0 t4.2.1 t4.2.2.2.1).2.1, (y0 t4.2.1 t4.2.2.2.1).2.2.1, (y0 t4.2.1 t4.2.2.2.1).2.2.2.1, (y0 t4.2.1 t4.2.2.2.1).2.2.2.2, t4.2.2.2.2.1, t4.2.2.2.2.2.1, t4.2.2.2.2.2.2.1, t4.2.2.2.2.2.2.2.1, t4.2.2.2.2.2.2.2.2.1)) fun r2 => some (!r2) else some false) fun u1 => bif u1 then if (List.length t4.2.2.2.2.2.2.2.2.2 + List.length ([(t4.2.2.2.2.1, t4.2.2.2.2.2.1, t4.2.2.2.2.2.2.1, t4.2.2.2.2.2.2.2.1, t4.2.2.2.2.2.2.2.2.1)] : List y8)) * 40 < 140737488355328 then Option.bind (Z9 ((y0 t4.2.1 t4.2.2.2.1).1, (y0 t4.2.1 t4.2.2.2.1).2.1, (y0 t4.2.1 t4.2.2.2.1).2.2.1, (y0 t4.2.1 t4.2.2.2.1).2.2.2.1, (y0 t4.2.1 t4.2.2.2.1).2.2.2.2, t4.2.2.2.2.1, t4.2.2.2.2.2.1, t4.2.2.2.2.2.2.1, t4.2.2.2.2.2.2.2.1, t4.2.2.2.2.2.2.2.2.1)) fun r3 => bif (!r3) then if (List.length (t4.2.2.2.2.2.2.2.2.2 ++ ([(t4.2.2.2.2.1, t4.2.2.2.2.2.1, t4.2.2.2.2.2.2.1, t4.2.2.2.2.2.2.2.1, t4.2.2.2.2.2.2.2.2.1)] : List y8)) + List.length ([((y0 t4.2.1 t4.2.2.2.1).1, (y0 t4.2.1 t4.2.2.2.1).2.1, (y0 t4.2.1 t4.2.2.2.1).2.2.1, (y0 t4.2.1 t4.2.2.2.1).2.2.2.1, (y0 t4.2.1 t4.2.2.2.1).2.2.2.2)] : List y8)) * 40 < 140737488355328 then again (true, t4.2.1, t4.2.2.1, (Go.IntKind.wrap .i64 (t4.2.2.2.1 + (1 : Int))), t4.2.2.2.2.1, t4.2.2.2.2.2.1, t4.2.2.2.2.2.2.1, t4.2.2.2.2.2.2.2.1, t4.2.2.2.2.2.2.2.2.1, ((t4.2.2.2.2.2.2.2.2.2 ++ ([(t4.2.2.2.2.1, t4.2.2.2.2.2.1, t4.2.2.2.2.2.2.1, t4.2.2.2.2.2.2.2.1, t4.2.2.2.2.2.2.2.2.1)] : List y8)) ++ ([((y0 t4.2.1 t4.2.2.2.1).1, (y0 t4.2.1 t4.2.2.2.1).2.1, (y0 t4.2.1 t4.2.2.2.1).2.2.1, (y0 t4.2.1 t4.2.2.2.1).2.2.2.1, (y0 t4.2.1 t4.2.2.2.1).2.2.2.2)] : List y8))) else none else again (true, t4.2.1, t4.2.2.1, (Go.IntKind.wrap .i64 (t4.2.2.2.1 + (1 : Int))), t4.2.2.2.2.1, t4.2.2.2.2.2.1, t4.2.2.2.2.2.2.1, t4.2.2.2.2.2.2.2.1, t4.2.2.2.2.2.2.2.2.1, (t4.2.2.2.2.2.2.2.2.2 ++ ([(t4.2.2.2.2.1, t4.2.2.2.2.2.1, t4.2.2.2.2.2.2.1, t4.2.2.2.2.2.2.2.1, t4.2.2.2.2.2.2.2.2.1)] : List y8))) else none else Option.bind (Z9 ((y0 t4.2.1 t4.2.2.2.1).1, (y0 t4.2.1 t4.2.2.2.1).2.1, (y0 t4.2.1 t4.2.2.2.1).2.2.1, (y0 t4.2.1 t4.2.2.2.1).2.2.2.1, (y0 t4.2.1 t4.2.2.2.1).2.2.2.2, t4.2.2.2.2.1, t4.2.2.2.2.2.1, t4.2.2.2.2.2.2.1, t4.2.2.2.2.2.2.2.1, t4.2.2.2.2.2.2.2.2.1)) fun r4 => bif (!r4) then if (List.length t4.2.2.2.2.2.2.2.2.2 + List.length ([((y0 t4.2.1 t4.2.2.2.1).1, (y0 t4.2.1 t4.2.2.2.1).2.1, (y0 t4.2.1 t4.2.2.2.1).2.2.1, (y0 t4.2.1 t4.2.2.2.1).2.2.2.1, (y0 t4.2.1 t4.2.2.2.1).2.2.2.2)] : List y8)) * 40 < 140737488355328 then again (t4.1, t4.2.1, t4.2.2.1, (Go.IntKind.wrap .i64 (t4.2.2.2.1 + (1 : Int))), t4.2.2.2.2.1, t4.2.2.2.2.2.1, t4.2.2.2.2.2.2.1, t4.2.2.2.2.2.2.2.1, t4.2.2.2.2.2.2.2.2.1, (t4.2.2.2.2.2.2.2.2.2 ++ ([((y0 t4.2.1 t4.2.2.2.1).1, (y0 t4.2.1 t4.2.2.2.1).2.1, (y0 t4.2.1 t4.2.2.2.1).2.2.1, (y0 t4.2.1 t4.2.2.2.1).2.2.2.1, (y0 t4.2.1 t4.2.2.2.1).2.2.2.2)] : List y8))) else none else again (t4.1, t4.2.1, t4.2.2.1, (Go.IntKind.wrap .i64 (t4.2.2.2.1 + (1 : Int))), t4.2.2.2.2.1, t4.2.2.2.2.2.1, t4.2.2.2.2.2.2.1, t4.2.2.2.2.2.2.2.1, t4.2.2.2.2.2.2.2.2.1, t4.2.2.2.2.2.2.2.2.2) else none else none else k0 (t4.1, t4.2.2.2.2)
def Vl k0 := yS (@Yl R k0) z3
def Wx (x : yoC) : Option (List y8) :=
 Vl (fun x5 => bif (!x5.1) then if (List.length x5.2.2.2.2.2.2 + List.length ([(x5.2.1, x5.2.2.1, x5.2.2.2.1, x5.2.2.2.2.1, x5.2.2.2.2.2.1)] : List y8)) * 40 < 140737488355328 then some (x5.2.2.2.2.2.2 ++ ([(x5.2.1, x5.2.2.1, x5.2.2.2.1, x5.2.2.2.2.1, x5.2.2.2.2.2.1)] : List y8)) else none else some x5.2.2.2.2.2.2) (false, x.1, (List.length x.1 : Int), (0 : Int), x.2.1, x.2.2.1, x.2.2.2.1, x.2.2.2.2.1, x.2.2.2.2.2, ([] : List y8))
def ymT : List QF := [yDf, yGv]
def y8m (t : ypm) : St := ⟨dd 3 (.box 3 0 :: .dead :: .own 10000000 :: vB t.1 :: dd 3 (qE t.2.1 :: vI t.2.2.1 :: vI t.2.2.2.1 :: dd 31 [])), [(3, .box [vI t.2.2.2.2.1, vI t.2.2.2.2.2.1, vI t.2.2.2.2.2.2.1, vI t.2.2.2.2.2.2.2.1, vI t.2.2.2.2.2.2.2.2.1]), (10000000, .root true 106 yg t.2.2.2.2.2.2.2.2.2)]⟩
def ykn : Gk Ww := fun κ => Yl (fun t => κ (some 0) ⟨dd 3 (.box 3 0 :: .dead :: .own 10000000 :: vB t.1 :: dd 37 []), [(3, .box [vI t.2.1, vI t.2.2.1, vI t.2.2.2.1, vI t.2.2.2.2.1, vI t.2.2.2.2.2.1]), (10000000, .root true 106 yg t.2.2.2.2.2.2)]⟩)
def ymU : Lp := lpC 4 (unG ypn y8m) @ykn lpN
theorem yuP : LF ymT ymU 281 4 Tryz.f281 0 y8m @ykn fun t => t := fun R κ again t => by kernel_rfl
theorem yuQ : LK ymT ymU 281 Tryz.f281 0 := lkN (u := (unG ypn y8m)) (ya fun t => by kernel_rfl) yuP
theorem yzY : EV ymT ymU 281 Tryz.f281 yrT yoD [(.sl 106 yg)] Wx := fun x => by kernel_rfl
def yGw : QF := ⟨281, Wx, okN (n := 1) Tryz.func281 ⟨yuQ, trivial⟩ yzY⟩
abbrev Wy : Type := yhZ
def YF (k0 : List y8 → Option R) (again : Wy → Option R) (t3 : Wy) : Option R :=
 bif (decide (t3.2.2.1 < t3.2.1)) then if (0 : Int) ≤ t3.2.2.1 then if t3.2.2.1 < (List.length t3.1 : Int) then Option.bind (Wx (t3.2.2.2, (y0 t3.1 t3.2.2.1).1, (y0 t3.1 t3.2.2.1).2.1, (y0 t3.1 t3.2.2.1).2.2.1, (y0 t3.1 t3.2.2.1).2.2.2.1, (y0 t3.1 t3.2.2.1).2.2.2.2)) fun r2 => again (t3.1, t3.2.1, (Go.IntKind.wrap .i64 (t3.2.2.1 + (1 : Int))), r2) else none else none else k0 t3.2.2.2
def qb k0 := yS (@YF R k0) z3
def Yv (x : Qz4) : Option (List y8) :=
 Option.bind (zS x.1) fun r1 => qb (fun x3 => some x3) (x.2, (List.length x.2 : Int), (0 : Int), r1)
def ymV : List QF := [yDg, yGw]
def y8n (t : yhZ) : St := ⟨dd 5 (.own 10000000 :: dd 4 (qE t.1 :: vI t.2.1 :: vI t.2.2.1 :: dd 8 [])), [(10000000, .root true 106 yg t.2.2.2)]⟩
def yko : Gk Wy := fun κ => YF (fun t => κ (some 0) ⟨dd 5 (.own 10000000 :: dd 15 []), [(10000000, .root true 106 yg t)]⟩)
def ymW : Lp := lpC 3 (unG yi0 y8n) @yko lpN
theorem yuR : LF ymV ymW 248 3 Tryz.f248 0 y8n @yko fun t => t := fun R κ again t => by kernel_rfl
theorem yuS : LK ymV ymW 248 Tryz.f248 0 := lkN (u := (unG yi0 y8n)) (ya fun t => by kernel_rfl) yuR
theorem yzZ : EV ymV ymW 248 Tryz.f248 yrU qz4 [(.sl 106 yg)] Yv := fun x => by kernel_rfl
def yGx : QF := ⟨248, Yv, okN (n := 1) Tryz.func248 ⟨yuS, trivial⟩ yzZ⟩
abbrev Qd : Type := yhZ
def Wz (k0 : List y8 → Option R) (again : Qd → Option R) (t3 : Qd) : Option R :=
 bif (decide (t3.2.2.1 < t3.2.1)) then if (0 : Int) ≤ t3.2.2.1 then if t3.2.2.1 < (List.length t3.1 : Int) then bif ((y0 t3.1 t3.2.2.1).2.2.1 != (0 : Int)) then if (List.length t3.2.2.2 + List.length ([((y0 t3.1 t3.2.2.1).1, (y0 t3.1 t3.2.2.1).2.1, (y0 t3.1 t3.2.2.1).2.2.1, (y0 t3.1 t3.2.2.1).2.2.2.1, (y0 t3.1 t3.2.2.1).2.2.2.2)] : List y8)) * 40 < 140737488355328 then again (t3.1, t3.2.1, (Go.IntKind.wrap .i64 (t3.2.2.1 + (1 : Int))), (t3.2.2.2 ++ ([((y0 t3.1 t3.2.2.1).1, (y0 t3.1 t3.2.2.1).2.1, (y0 t3.1 t3.2.2.1).2.2.1, (y0 t3.1 t3.2.2.1).2.2.2.1, (y0 t3.1 t3.2.2.1).2.2.2.2)] : List y8))) else none else again (t3.1, t3.2.1, (Go.IntKind.wrap .i64 (t3.2.2.1 + (1 : Int))), t3.2.2.2) else none else none else k0 t3.2.2.2
def y25 k0 := yS (@Wz R k0) z3
def kI (x : List y8) : Option (List y8) :=
 y25 (fun x1 => some x1) (x, (List.length x : Int), (0 : Int), ([] : List y8))
def ymX : List QF := []
def y8o (t : yhZ) : St := ⟨dd 3 (.own 10000000 :: dd 3 (qE t.1 :: vI t.2.1 :: vI t.2.2.1 :: dd 12 [])), [(10000000, .root true 106 yg t.2.2.2)]⟩
def ykp : Gk Qd := fun κ => Wz (fun t => κ (some 0) ⟨dd 3 (.own 10000000 :: dd 18 []), [(10000000, .root true 106 yg t)]⟩)
def ymY : Lp := lpC 3 (unG yi0 y8o) @ykp lpN
theorem yuT : LF ymX ymY 249 3 Tryz.f249 0 y8o @ykp fun t => t := fun R κ again t => by kernel_rfl
theorem yuU : LK ymX ymY 249 Tryz.f249 0 := lkN (u := (unG yi0 y8o)) (ya fun t => by kernel_rfl) yuT
theorem yA0 : EV ymX ymY 249 Tryz.f249 yrV [(.sl 106 yg)] [(.sl 106 yg)] kI := fun x => by kernel_rfl
def yGy : QF := ⟨249, kI, okN (n := 1) Tryz.func249 ⟨yuU, trivial⟩ yA0⟩
abbrev kJ : Type := ypo
def Za (k0 : List y8 → Option R) (again : kJ → Option R) (t3 : kJ) : Option R :=
 bif (decide (t3.2.2.1 < t3.2.1)) then if (0 : Int) ≤ t3.2.2.1 then if t3.2.2.1 < (List.length t3.1 : Int) then Option.bind (Yv (t3.2.2.2, (yh t3.1 t3.2.2.1))) fun r1 => again (t3.1, t3.2.1, (Go.IntKind.wrap .i64 (t3.2.2.1 + (1 : Int))), r1) else none else none else k0 t3.2.2.2
def qU k0 := yS (@Za R k0) z3
def zT (x : List y9) : Option (List y8) :=
 qU (fun x2 => Option.bind (kI x2) fun r3 => some r3) (x, (List.length x : Int), (0 : Int), ([] : List y8))
def ymZ : List QF := [yGx, yGy]
def y8p (t : ypo) : St := ⟨dd 3 (.own 10000000 :: dd 4 (zC t.1 :: vI t.2.1 :: vI t.2.2.1 :: dd 9 [])), [(10000000, .root true 106 yg t.2.2.2)]⟩
def ykq : Gk kJ := fun κ => Za (fun t => κ (some 0) ⟨dd 3 (.own 10000000 :: dd 16 []), [(10000000, .root true 106 yg t)]⟩)
def yn0 : Lp := lpC 3 (unG ypp y8p) @ykq lpN
theorem yuV : LF ymZ yn0 206 3 Tryz.f206 0 y8p @ykq fun t => t := fun R κ again t => by kernel_rfl
theorem yuW : LK ymZ yn0 206 Tryz.f206 0 := lkN (u := (unG ypp y8p)) (ya fun t => by kernel_rfl) yuV
theorem yA1 : EV ymZ yn0 206 Tryz.f206 yrW [(.sl 100 yj)] [(.sl 106 yg)] zT := fun x => by kernel_rfl
def yDh : QF := ⟨206, zT, okN (n := 1) Tryz.func206 ⟨yuW, trivial⟩ yA1⟩
abbrev Vm : Type := ypq
def jU (k0 : yps → Option R) (k1 : Int → Option R) (again : Vm → Option R) (t5 : Vm) : Option R :=
 bif (decide (t5.2.2.2.1 < t5.2.2.1)) then if (0 : Int) ≤ t5.2.2.2.1 then if t5.2.2.2.1 < (List.length t5.2.1 : Int) then Option.bind (bif (decide (t5.2.2.2.1 > (0 : Int))) then if (0 : Int) ≤ (Go.IntKind.wrap .i64 (t5.2.2.2.1 - (1 : Int))) then if (Go.IntKind.wrap .i64 (t5.2.2.2.1 - (1 : Int))) < (List.length t5.2.2.2.2.1 : Int) then if (0 : Int) ≤ t5.2.2.2.1 then if t5.2.2.2.1 < (List.length t5.2.2.2.2.1 : Int) then some (decide ((zy t5.2.2.2.2.1 (Go.IntKind.wrap .i64 (t5.2.2.2.1 - (1 : Int)))) ≥ (zy t5.2.2.2.2.1 t5.2.2.2.1))) else none else none else none else none else some false) fun u4 => Option.bind (bif u4 then some true else Option.bind (Wv (ym t5.2.1 t5.2.2.2.1)) fun r6 => some (!r6)) fun u5 => Option.bind (bif u5 then some true else Option.bind (jT (t5.2.2.2.2.1, t5.2.2.2.2.2, t5.2.2.2.1)) fun r8 => some (!r8)) fun u7 => bif u7 then k0 (false, t5.1) else Option.bind (zT (ym t5.2.1 t5.2.2.2.1)) fun r9 => Option.bind (bif (decide (t5.2.2.2.1 > (0 : Int))) then some ((List.length r9 : Int) == (0 : Int)) else some false) fun u10 => bif u10 then k0 (false, t5.1) else again ((Go.IntKind.wrap .i64 (t5.1 + (List.length r9 : Int))), t5.2.1, t5.2.2.1, (Go.IntKind.wrap .i64 (t5.2.2.2.1 + (1 : Int))), t5.2.2.2.2.1, t5.2.2.2.2.2) else none else none else k1 t5.1
def y0u k0 k1 := yS (@jU R k0 k1) z3
def WA (x : y3o) : Option Bool :=
 Option.bind (yd ((List.length x.2 : Int), (1 : Int), (20 : Int))) fun r1 => Option.bind (bif (!r1) then some true else some ((List.length x.1 : Int) != (List.length x.2 : Int))) fun u2 => Option.bind (bif u2 then some true else if (0 : Int) ≤ (0 : Int) then if (0 : Int) < (List.length x.1 : Int) then some ((zy x.1 (0 : Int)) != (0 : Int)) else none else none) fun u3 => bif u3 then some false else y0u (fun x11 => some x11.1) (fun x12 => some (decide (x12 ≤ (60 : Int)))) ((0 : Int), x.2, (List.length x.2 : Int), (0 : Int), x.1, x.2)
def yn1 : List QF := [ybL, yGs, yGu, yDh]
def y8q (t : ypq) : St := ⟨.dead :: .box 1 0 :: .dead :: vI t.1 :: dd 25 (yC t.2.1 :: vI t.2.2.1 :: vI t.2.2.2.1 :: dd 46 []), [(1, .box [zi t.2.2.2.2.1, yC t.2.2.2.2.2])]⟩
def ykr : Gk Vm := fun κ => jU (fun t => κ none ⟨dd 2 (vB t.1 :: vI t.2 :: dd 74 []), []⟩) (fun t => κ (some 0) ⟨dd 3 (vI t :: dd 74 []), []⟩)
def yn2 : Lp := lpC 5 (unG ypr y8q) @ykr lpN
theorem yuX : LF yn1 yn2 131 5 Tryz.f131 0 y8q @ykr fun t => t := fun R κ again t => by kernel_rfl
theorem yuY : LK yn1 yn2 131 Tryz.f131 0 := lkN (u := (unG ypr y8q)) (ya fun t => by kernel_rfl) yuX
theorem yA2 : EV yn1 yn2 131 Tryz.f131 yrX vi [.bool] WA := fun x => by kernel_rfl
def yGz : QF := ⟨131, WA, okN (n := 1) Tryz.func131 ⟨yuY, trivial⟩ yA2⟩
def K9 (x : ylp) : Option yps :=
 some ((x.1 == x.2.2), x.2.2)
theorem yA3 : EV [] lpN 251 Tryz.f251 yrY ylq ywB K9 := fun x => by kernel_rfl
def yGA : QF := ⟨251, K9, okN (n := 0) Tryz.func251 trivial yA3⟩
abbrev ze : Type := ypt
def yF (k0 : y4Q → Option R) (k1 : Int → Option R) (again : ze → Option R) (t2 : ze) : Option R :=
 bif (decide (t2.2.2.1 < t2.2.1)) then if (0 : Int) ≤ t2.2.2.1 then if t2.2.2.1 < (List.length t2.1 : Int) then Option.bind (K9 ((z6 t2.1 t2.2.2.1).1, (z6 t2.1 t2.2.2.1).2, t2.2.2.2)) fun r1 => bif r1.1 then k0 (t2.2.2.1, r1.2) else again (t2.1, t2.2.1, (Go.IntKind.wrap .i64 (t2.2.2.1 + (1 : Int))), r1.2) else none else none else k1 t2.2.2.2
def Y5 k0 k1 := yS (@yF R k0 k1) z3
def yL (x : yhL) : Option y4Q :=
 Y5 (fun x2 => some x2) (fun x3 => some ((-1 : Int), x3)) (x.1, (List.length x.1 : Int), (0 : Int), x.2)
def y8r : List QF := [yGA]
def y1y (t : ypt) : St := ⟨zr t.1 :: .clo 251 901 :: dd 5 (vI t.2.1 :: vI t.2.2.1 :: dd 10 []), [(901, .box [vI t.2.2.2])]⟩
def yaa : Gk ze := fun κ => yF (fun t => κ none ⟨.dead :: .clo 251 901 :: dd 2 (vI t.1 :: dd 14 []), [(901, .box [vI t.2])]⟩) (fun t => κ (some 0) ⟨.dead :: .clo 251 901 :: dd 17 [], [(901, .box [vI t])]⟩)
def y8s : Lp := lpC 2 (unG ypu y1y) @yaa lpN
theorem yga : LF y8r y8s 100004 2 Tryz.f250 0 y1y @yaa fun t => t := fun R κ again t => by kernel_rfl
theorem ygb : LK y8r y8s 100004 Tryz.f250 0 := lkN (u := (unG ypu y1y)) (ya fun t => by kernel_rfl) yga
theorem yiv : EV y8r y8s 100004 Tryz.f250 ycW yhM yeK yL := fun x => by kernel_rfl
def yn3 : QF := ⟨100004, yL, okN (n := 1) Tryz.func250 ⟨ygb, trivial⟩ yiv⟩
def Zq (x : yhL) : Option Int :=
 Option.bind (yL x) fun r1 => some r1.1
theorem yA4 : EV [yn3] lpN 207 Tryz.f207 yrZ yhM [(.int .i64)] Zq := fun x => by kernel_rfl
def yA5 : QF := ⟨207, Zq, okN (n := 0) Tryz.func207 trivial yA4⟩
abbrev Vn : Type := ypv
def jV (k0 : yoM → Option R) (k1 : List yo → Option R) (again : Vn → Option R) (t2 : Vn) : Option R :=
 bif (decide (t2.2.2.2 < t2.2.2.1)) then if (0 : Int) ≤ t2.2.2.2 then if t2.2.2.2 < (List.length t2.2.1 : Int) then Option.bind (yd ((z6 t2.2.1 t2.2.2.2).1, (1 : Int), (60 : Int))) fun r1 => Option.bind (bif (!r1) then some true else Option.bind (bif (decide (t2.2.2.2 > (0 : Int))) then if (0 : Int) ≤ (Go.IntKind.wrap .i64 (t2.2.2.2 - (1 : Int))) then if (Go.IntKind.wrap .i64 (t2.2.2.2 - (1 : Int))) < (List.length t2.1 : Int) then some (decide ((z6 t2.1 (Go.IntKind.wrap .i64 (t2.2.2.2 - (1 : Int)))).1 ≥ (z6 t2.2.1 t2.2.2.2).1)) else none else none else some false) fun u3 => some u3) fun u2 => Option.bind (bif u2 then some true else Option.bind (bif ((z6 t2.2.1 t2.2.2.2).2 != (0 : Int)) then if (0 : Int) ≤ (0 : Int) then if (0 : Int) ≤ t2.2.2.2 then if t2.2.2.2 ≤ (List.length t2.1 : Int) then Option.bind (Zq ((List.drop (Int.toNat (0 : Int)) (List.take (Int.toNat t2.2.2.2) t2.1)), (z6 t2.2.1 t2.2.2.2).2)) fun r6 => some (decide (r6 < (0 : Int))) else none else none else none else some false) fun u5 => some u5) fun u4 => bif u4 then k0 (t2.1, false) else again (t2.1, t2.2.1, t2.2.2.1, (Go.IntKind.wrap .i64 (t2.2.2.2 + (1 : Int)))) else none else none else k1 t2.1
def y0v k0 k1 := yS (@jV R k0 k1) z3
def WB (x : List yo) : Option Bool :=
 y0v (fun x7 => some x7.2) (fun x8 => some (decide ((List.length x8 : Int) ≤ (16 : Int)))) (x, x, (List.length x : Int), (0 : Int))
def yn4 : List QF := [ybL, yA5]
def y8t (t : ypv) : St := ⟨zr t.1 :: dd 4 (zr t.2.1 :: vI t.2.2.1 :: vI t.2.2.2 :: dd 41 []), []⟩
def yks : Gk Vn := fun κ => jV (fun t => κ none ⟨zr t.1 :: .dead :: vB t.2 :: dd 46 [], []⟩) (fun t => κ (some 0) ⟨zr t :: dd 48 [], []⟩)
def yn5 : Lp := lpC 2 (unG ypw y8t) @yks lpN
theorem yuZ : LF yn4 yn5 132 2 Tryz.f132 0 y8t @yks fun t => t := fun R κ again t => by kernel_rfl
theorem yv0 : LK yn4 yn5 132 Tryz.f132 0 := lkN (u := (unG ypw y8t)) (ya fun t => by kernel_rfl) yuZ
theorem yA6 : EV yn4 yn5 132 Tryz.f132 ys0 [(.sl 89 yB)] [.bool] WB := fun x => by kernel_rfl
def yGB : QF := ⟨132, WB, okN (n := 1) Tryz.func132 ⟨yv0, trivial⟩ yA6⟩
def WC (x : Int) : Option Bool :=
 Option.bind (yd (x, (0 : Int), (65535 : Int))) fun r1 => some r1
theorem yA7 : EV [ybL] lpN 208 Tryz.f208 ys1 [(.int .i64)] [.bool] WC := fun x => by kernel_rfl
def yGC : QF := ⟨208, WC, okN (n := 0) Tryz.func208 trivial yA7⟩
abbrev KT : Type := ypx
def ZW (k0 : yoN → Option R) (k1 : List yb → Option R) (again : KT → Option R) (t2 : KT) : Option R :=
 bif (decide (t2.2.2.2 < t2.2.2.1)) then if (0 : Int) ≤ t2.2.2.2 then if t2.2.2.2 < (List.length t2.2.1 : Int) then Option.bind (yd ((yl t2.2.1 t2.2.2.2).1, (0 : Int), (999 : Int))) fun r1 => Option.bind (bif (!r1) then some true else Option.bind (WC ((yl t2.2.1 t2.2.2.2).2.2)) fun r3 => some (!r3)) fun u2 => Option.bind (bif u2 then some true else Option.bind (bif ((yl t2.2.1 t2.2.2.2).2.2 != (0 : Int)) then some (!((yl t2.2.1 t2.2.2.2).2.1)) else some false) fun u5 => some u5) fun u4 => bif u4 then k0 (t2.1, false) else again (t2.1, t2.2.1, t2.2.2.1, (Go.IntKind.wrap .i64 (t2.2.2.2 + (1 : Int)))) else none else none else k1 t2.1
def QH k0 k1 := yS (@ZW R k0 k1) z3
def JO (x : List yb) : Option Bool :=
 QH (fun x6 => some x6.2) (fun x7 => some ((List.length x7 : Int) == (24 : Int))) (x, x, (List.length x : Int), (0 : Int))
def yn6 : List QF := [ybL, yGC]
def y8u (t : ypx) : St := ⟨yU t.1 :: dd 4 (yU t.2.1 :: vI t.2.2.1 :: vI t.2.2.2 :: dd 27 []), []⟩
def ykt : Gk KT := fun κ => ZW (fun t => κ none ⟨yU t.1 :: .dead :: vB t.2 :: dd 32 [], []⟩) (fun t => κ (some 0) ⟨yU t :: dd 34 [], []⟩)
def yn7 : Lp := lpC 2 (unG ypy y8u) @ykt lpN
theorem yv1 : LF yn6 yn7 133 2 Tryz.f133 0 y8u @ykt fun t => t := fun R κ again t => by kernel_rfl
theorem yv2 : LK yn6 yn7 133 Tryz.f133 0 := lkN (u := (unG ypy y8u)) (ya fun t => by kernel_rfl) yv1
theorem yA8 : EV yn6 yn7 133 Tryz.f133 ys2 [(.sl 95 yk)] [.bool] JO := fun x => by kernel_rfl
def yGD : QF := ⟨133, JO, okN (n := 1) Tryz.func133 ⟨yv2, trivial⟩ yA8⟩
abbrev Vo : Type := yhT
def Vp (k0 : yoO → Option R) (k1 : ByteArray → Option R) (again : Vo → Option R) (t2 : Vo) : Option R :=
 bif (decide (t2.2 < ((ByteArray.size t2.1 : Nat) : Int))) then if (0 : Int) ≤ t2.2 then if h1 : Int.toNat t2.2 < ByteArray.size t2.1 then Option.bind (yd ((Go.IntKind.wrap .i64 ((UInt8.toNat (ByteArray.get t2.1 (Int.toNat t2.2) h1) : Nat) : Int)), (97 : Int), (122 : Int))) fun r2 => Option.bind (bif (!r2) then if (0 : Int) ≤ t2.2 then if h4 : Int.toNat t2.2 < ByteArray.size t2.1 then Option.bind (yd ((Go.IntKind.wrap .i64 ((UInt8.toNat (ByteArray.get t2.1 (Int.toNat t2.2) h4) : Nat) : Int)), (48 : Int), (57 : Int))) fun r5 => some (!r5) else none else none else some false) fun u3 => bif u3 then k0 (t2.1, false) else again (t2.1, (Go.IntKind.wrap .i64 (t2.2 + (1 : Int)))) else none else none else k1 t2.1
def y0w k0 k1 := yS (@Vp R k0 k1) z3
def WD (x : ByteArray) : Option Bool :=
 y0w (fun x6 => some x6.2) (fun x7 => Option.bind (yd (((ByteArray.size x7 : Nat) : Int), (1 : Int), (6 : Int))) fun r8 => some r8) (x, (0 : Int))
def yn8 : List QF := [ybL]
def y8v (t : yhT) : St := ⟨vS t.1 :: dd 2 (vI t.2 :: dd 23 []), []⟩
def yku : Gk Vo := fun κ => Vp (fun t => κ none ⟨vS t.1 :: .dead :: vB t.2 :: dd 24 [], []⟩) (fun t => κ (some 0) ⟨vS t :: dd 26 [], []⟩)
def yn9 : Lp := lpC 2 (unG yhU y8v) @yku lpN
theorem yv3 : LF yn8 yn9 209 2 Tryz.f209 0 y8v @yku fun t => t := fun R κ again t => by kernel_rfl
theorem yv4 : LK yn8 yn9 209 Tryz.f209 0 := lkN (u := (unG yhU y8v)) (ya fun t => by kernel_rfl) yv3
theorem yA9 : EV yn8 yn9 209 Tryz.f209 ys3 [.str] [.bool] WD := fun x => by kernel_rfl
def yGE : QF := ⟨209, WD, okN (n := 1) Tryz.func209 ⟨yv4, trivial⟩ yA9⟩
abbrev Vq : Type := ypz
def jW (k0 : List yp → Option R) (again : Vq → Option R) (t5 : Vq) : Option R :=
 bif (decide (t5.2.2.2.1 < t5.2.2.1)) then if (0 : Int) ≤ t5.2.2.2.1 then if t5.2.2.2.1 < (List.length t5.2.1 : Int) then bif ((z6 t5.2.1 t5.2.2.2.1).2 == t5.1) then if (List.length t5.2.2.2.2 + List.length ([(z6 t5.2.1 t5.2.2.2.1).1] : List yp)) * 8 < 140737488355328 then again (t5.1, t5.2.1, t5.2.2.1, (Go.IntKind.wrap .i64 (t5.2.2.2.1 + (1 : Int))), (t5.2.2.2.2 ++ ([(z6 t5.2.1 t5.2.2.2.1).1] : List yp))) else none else again (t5.1, t5.2.1, t5.2.2.1, (Go.IntKind.wrap .i64 (t5.2.2.2.1 + (1 : Int))), t5.2.2.2.2) else none else none else k0 t5.2.2.2.2
def y0x k0 := yS (@jW R k0) z3
def WE (x : yhL) : Option (List yp) :=
 bif (x.2 == (0 : Int)) then some ([] : List yp) else y0x (fun x1 => some x1) (x.2, x.1, (List.length x.1 : Int), (0 : Int), ([] : List yp))
def yna : List QF := []
def y8w (t : ypz) : St := ⟨.dead :: vI t.1 :: dd 3 (.own 10000000 :: dd 6 (zr t.2.1 :: vI t.2.2.1 :: vI t.2.2.2.1 :: dd 14 [])), [(10000000, .root true 3 ye t.2.2.2.2)]⟩
def ykv : Gk Vq := fun κ => jW (fun t => κ (some 0) ⟨dd 5 (.own 10000000 :: dd 23 []), [(10000000, .root true 3 ye t)]⟩)
def ynb : Lp := lpC 5 (unG ypA y8w) @ykv lpN
theorem yv5 : LF yna ynb 210 5 Tryz.f210 0 y8w @ykv fun t => t := fun R κ again t => by kernel_rfl
theorem yv6 : LK yna ynb 210 Tryz.f210 0 := lkN (u := (unG ypA y8w)) (ya fun t => by kernel_rfl) yv5
theorem yAa : EV yna ynb 210 Tryz.f210 ys4 yhM [(.sl 3 ye)] WE := fun x => by kernel_rfl
def yGF : QF := ⟨210, WE, okN (n := 1) Tryz.func210 ⟨yv6, trivial⟩ yAa⟩
def WF (x : yAT) : Option ypB :=
 some ((x.2.1 == x.2.2.2.2.2.1), x.2.2.2.2.1, x.2.2.2.2.2.1, x.2.2.2.2.2.2.1, x.2.2.2.2.2.2.2)
theorem yAb : EV [] lpN 212 Tryz.f212 ys5 yAU ypC WF := fun x => by kernel_rfl
def yGG : QF := ⟨212, WF, okN (n := 0) Tryz.func212 trivial yAb⟩
abbrev zb : Type := ypD
def yE (k0 : ypF → Option R) (k1 : ylm → Option R) (again : zb → Option R) (t2 : zb) : Option R :=
 bif (decide (t2.2.2.1 < t2.2.1)) then if (0 : Int) ≤ t2.2.2.1 then if t2.2.2.1 < (List.length t2.1 : Int) then Option.bind (WF ((yn t2.1 t2.2.2.1).1, (yn t2.1 t2.2.2.1).2.1, (yn t2.1 t2.2.2.1).2.2.1, (yn t2.1 t2.2.2.1).2.2.2, t2.2.2.2.1, t2.2.2.2.2.1, t2.2.2.2.2.2.1, t2.2.2.2.2.2.2)) fun r1 => bif r1.1 then k0 (t2.2.2.1, r1.2) else again (t2.1, t2.2.1, (Go.IntKind.wrap .i64 (t2.2.2.1 + (1 : Int))), r1.2.1, r1.2.2.1, r1.2.2.2.1, r1.2.2.2.2) else none else none else k1 t2.2.2.2
def zX k0 k1 := yS (@yE R k0 k1) z3
def yJ (x : ypG) : Option ypF :=
 zX (fun x2 => some x2) (fun x3 => some ((-1 : Int), x3.1, x3.2.1, x3.2.2.1, x3.2.2.2)) (x.1, (List.length x.1 : Int), (0 : Int), x.2.1, x.2.2.1, x.2.2.2.1, x.2.2.2.2)
def y8x : List QF := [yGG]
def y1z (t : ypD) : St := ⟨Y4 t.1 :: .clo 212 901 :: dd 5 (vI t.2.1 :: vI t.2.2.1 :: dd 10 []), [(901, .box [vS t.2.2.2.1, vI t.2.2.2.2.1, vI t.2.2.2.2.2.1, vB t.2.2.2.2.2.2])]⟩
def yab : Gk zb := fun κ => yE (fun t => κ none ⟨.dead :: .clo 212 901 :: dd 2 (vI t.1 :: dd 14 []), [(901, .box [vS t.2.1, vI t.2.2.1, vI t.2.2.2.1, vB t.2.2.2.2])]⟩) (fun t => κ (some 0) ⟨.dead :: .clo 212 901 :: dd 17 [], [(901, .box [vS t.1, vI t.2.1, vI t.2.2.1, vB t.2.2.2])]⟩)
def y8y : Lp := lpC 2 (unG ypE y1z) @yab lpN
theorem ygc : LF y8x y8y 100006 2 Tryz.f252 0 y1z @yab fun t => t := fun R κ again t => by kernel_rfl
theorem ygd : LK y8x y8y 100006 Tryz.f252 0 := lkN (u := (unG ypE y1z)) (ya fun t => by kernel_rfl) ygc
theorem yiw : EV y8x y8y 100006 Tryz.f252 ycX ypH ywC yJ := fun x => by kernel_rfl
def ync : QF := ⟨100006, yJ, okN (n := 1) Tryz.func252 ⟨ygd, trivial⟩ yiw⟩
def yx (x : ypG) : Option ypB :=
 Option.bind (yJ x) fun r1 => some ((decide (r1.1 ≥ (0 : Int))), r1.2.1, r1.2.2.1, r1.2.2.2.1, r1.2.2.2.2)
theorem yix : EV [ync] lpN 100005 Tryz.f211 ycY ypH ypC yx := fun x => by kernel_rfl
def ynd : QF := ⟨100005, yx, okN (n := 0) Tryz.func211 trivial yix⟩
abbrev Vr : Type := ypI
def jX (k0 : yhW → Option R) (k1 : y05 → Option R) (again : Vr → Option R) (t2 : Vr) : Option R :=
 bif (decide (t2.2.2.1 < t2.2.1)) then if (0 : Int) ≤ t2.2.2.1 then if t2.2.2.1 < (List.length t2.1 : Int) then Option.bind (WD ((yn t2.1 t2.2.2.1).1)) fun r1 => Option.bind (bif (!r1) then some true else Option.bind (bif (decide (t2.2.2.1 > (0 : Int))) then if (0 : Int) ≤ (Go.IntKind.wrap .i64 (t2.2.2.1 - (1 : Int))) then if (Go.IntKind.wrap .i64 (t2.2.2.1 - (1 : Int))) < (List.length t2.2.2.2.2.2.2.2.1 : Int) then some (!Go.Op.bytesLess (ByteArray.toList ((yn t2.2.2.2.2.2.2.2.1 (Go.IntKind.wrap .i64 (t2.2.2.1 - (1 : Int)))).1)) (ByteArray.toList ((yn t2.1 t2.2.2.1).1))) else none else none else some false) fun u3 => some u3) fun u2 => Option.bind (bif u2 then some true else Option.bind (yd ((yn t2.1 t2.2.2.1).2.2.1, (1 : Int), (12 : Int))) fun r5 => some (!r5)) fun u4 => bif u4 then k0 (false, t2.2.2.2) else Option.bind (Zq (t2.2.2.2.2.2.1, (yn t2.1 t2.2.2.1).2.1)) fun r6 => Option.bind (bif (decide (r6 < (0 : Int))) then some true else Option.bind (WE (t2.2.2.2.2.2.1, (yn t2.1 t2.2.2.1).2.1)) fun r8 => some (decide ((List.length r8 : Int) > (0 : Int)))) fun u7 => bif u7 then k0 (false, t2.2.2.2) else if (0 : Int) ≤ (0 : Int) then if (0 : Int) ≤ t2.2.2.1 then if t2.2.2.1 ≤ (List.length t2.2.2.2.2.2.2.2.1 : Int) then Option.bind (yx ((List.drop (Int.toNat (0 : Int)) (List.take (Int.toNat t2.2.2.1) t2.2.2.2.2.2.2.2.1)), (yn t2.1 t2.2.2.1).1, (yn t2.1 t2.2.2.1).2.1, (yn t2.1 t2.2.2.1).2.2.1, (yn t2.1 t2.2.2.1).2.2.2)) fun r9 => bif r9.1 then k0 (false, t2.2.2.2) else again (t2.1, t2.2.1, (Go.IntKind.wrap .i64 (t2.2.2.1 + (1 : Int))), t2.2.2.2.1, t2.2.2.2.2.1, t2.2.2.2.2.2.1, t2.2.2.2.2.2.2.1, t2.2.2.2.2.2.2.2.1, t2.2.2.2.2.2.2.2.2) else none else none else none else none else none else k1 t2.2.2.2
def y0y k0 k1 := yS (@jX R k0 k1) z3
def WG (x : y05) : Option Bool :=
 y0y (fun x10 => some x10.1) (fun x11 => some (decide ((List.length x11.2.2.2.2.1 : Int) ≤ (6 : Int)))) (x.2.2.2.2.1, (List.length x.2.2.2.2.1 : Int), (0 : Int), x.1, x.2.1, x.2.2.1, x.2.2.2.1, x.2.2.2.2.1, x.2.2.2.2.2)
def yne : List QF := [ybL, yA5, yGE, yGF, ynd]
def y8z (t : ypI) : St := ⟨.dead :: .box 1 0 :: dd 4 (Y4 t.1 :: vI t.2.1 :: vI t.2.2.1 :: dd 56 []), [(1, .box [zi t.2.2.2.1, yC t.2.2.2.2.1, zr t.2.2.2.2.2.1, yU t.2.2.2.2.2.2.1, Y4 t.2.2.2.2.2.2.2.1, vI t.2.2.2.2.2.2.2.2])]⟩
def ykw : Gk Vr := fun κ => jX (fun t => κ none ⟨.dead :: .box 1 0 :: vB t.1 :: dd 62 [], [(1, .box [zi t.2.1, yC t.2.2.1, zr t.2.2.2.1, yU t.2.2.2.2.1, Y4 t.2.2.2.2.2.1, vI t.2.2.2.2.2.2])]⟩) (fun t => κ (some 0) ⟨.dead :: .box 1 0 :: dd 63 [], [(1, .box [zi t.1, yC t.2.1, zr t.2.2.1, yU t.2.2.2.1, Y4 t.2.2.2.2.1, vI t.2.2.2.2.2])]⟩)
def ynf : Lp := lpC 2 (unG ypJ y8z) @ykw lpN
theorem yv7 : LF yne ynf 135 2 Tryz.f135 0 y8z @ykw fun t => t := fun R κ again t => by kernel_rfl
theorem yv8 : LK yne ynf 135 Tryz.f135 0 := lkN (u := (unG ypJ y8z)) (ya fun t => by kernel_rfl) yv7
theorem yAc : EV yne ynf 135 Tryz.f135 ys6 wC [.bool] WG := fun x => by kernel_rfl
def yGH : QF := ⟨135, WG, okN (n := 1) Tryz.func135 ⟨yv8, trivial⟩ yAc⟩
abbrev kK : Type := ypK
def Zb (k0 : List y8 → Option R) (again : kK → Option R) (t3 : kK) : Option R :=
 bif (decide (t3.2.2.1 < t3.2.1)) then if (0 : Int) ≤ t3.2.2.1 then if t3.2.2.1 < (List.length t3.1 : Int) then Option.bind (zT (ym t3.1 t3.2.2.1)) fun r1 => if (List.length t3.2.2.2 + List.length r1) * 40 < 140737488355328 then again (t3.1, t3.2.1, (Go.IntKind.wrap .i64 (t3.2.2.1 + (1 : Int))), (t3.2.2.2 ++ r1)) else none else none else none else k0 t3.2.2.2
def qV k0 := yS (@Zb R k0) z3
def Zc (x : y3o) : Option (List y8) :=
 qV (fun x2 => some x2) (x.2, (List.length x.2 : Int), (0 : Int), ([] : List y8))
def yng : List QF := [yDh]
def y8A (t : ypK) : St := ⟨dd 3 (.own 10000000 :: dd 4 (yC t.1 :: vI t.2.1 :: vI t.2.2.1 :: dd 9 [])), [(10000000, .root true 106 yg t.2.2.2)]⟩
def ykx : Gk kK := fun κ => Zb (fun t => κ (some 0) ⟨dd 3 (.own 10000000 :: dd 16 []), [(10000000, .root true 106 yg t)]⟩)
def ynh : Lp := lpC 3 (unG ypL y8A) @ykx lpN
theorem yv9 : LF yng ynh 213 3 Tryz.f213 0 y8A @ykx fun t => t := fun R κ again t => by kernel_rfl
theorem yva : LK yng ynh 213 Tryz.f213 0 := lkN (u := (unG ypL y8A)) (ya fun t => by kernel_rfl) yv9
theorem yAd : EV yng ynh 213 Tryz.f213 ys7 vi [(.sl 106 yg)] Zc := fun x => by kernel_rfl
def yGI : QF := ⟨213, Zc, okN (n := 1) Tryz.func213 ⟨yva, trivial⟩ yAd⟩
def WH (x : ynJ) : Option yoT :=
 Option.bind (yd (x.2.1, (0 : Int), (Go.IntKind.wrap .i64 ((List.length x.1 : Int) - (1 : Int))))) fun r1 => Option.bind (bif (!r1) then some true else if (0 : Int) ≤ x.2.1 then if x.2.1 < (List.length x.1 : Int) then some (!((yl x.1 x.2.1).2.1)) else none else none) fun u2 => Option.bind (bif u2 then some true else if (0 : Int) ≤ x.2.1 then if x.2.1 < (List.length x.1 : Int) then some ((yl x.1 x.2.1).1 != x.2.2) else none else none) fun u3 => bif u3 then some ((0 : Int), false) else if (0 : Int) ≤ x.2.1 then if x.2.1 < (List.length x.1 : Int) then some ((yl x.1 x.2.1).2.2, true) else none else none
theorem yAe : EV [ybL] lpN 214 Tryz.f214 ys8 ynK yoU WH := fun x => by kernel_rfl
def yGJ : QF := ⟨214, WH, okN (n := 0) Tryz.func214 trivial yAe⟩
abbrev WI : Type := ypM
def YG (k0 : Int → Option R) (again : WI → Option R) (t3 : WI) : Option R :=
 bif (decide (t3.2.2.2 < t3.2.2.1)) then if (0 : Int) ≤ t3.2.2.2 then if t3.2.2.2 < (List.length t3.2.1 : Int) then bif (yl t3.2.1 t3.2.2.2).2.1 then again ((Go.IntKind.wrap .i64 (t3.1 + (1 : Int))), t3.2.1, t3.2.2.1, (Go.IntKind.wrap .i64 (t3.2.2.2 + (1 : Int)))) else again (t3.1, t3.2.1, t3.2.2.1, (Go.IntKind.wrap .i64 (t3.2.2.2 + (1 : Int)))) else none else none else k0 t3.1
def qc k0 := yS (@YG R k0) z3
def ZX (x : List yb) : Option Int :=
 qc (fun x1 => some x1) ((0 : Int), x, (List.length x : Int), (0 : Int))
def yni : List QF := []
def y8B (t : ypM) : St := ⟨dd 3 (vI t.1 :: dd 2 (yU t.2.1 :: vI t.2.2.1 :: vI t.2.2.2 :: dd 9 [])), []⟩
def yky : Gk WI := fun κ => YG (fun t => κ (some 0) ⟨dd 3 (vI t :: dd 14 []), []⟩)
def ynj : Lp := lpC 3 (unG ypN y8B) @yky lpN
theorem yvb : LF yni ynj 215 3 Tryz.f215 0 y8B @yky fun t => t := fun R κ again t => by kernel_rfl
theorem yvc : LK yni ynj 215 Tryz.f215 0 := lkN (u := (unG ypN y8B)) (ya fun t => by kernel_rfl) yvb
theorem yAf : EV yni ynj 215 Tryz.f215 ys9 [(.sl 95 yk)] [(.int .i64)] ZX := fun x => by kernel_rfl
def yGK : QF := ⟨215, ZX, okN (n := 1) Tryz.func215 ⟨yvc, trivial⟩ yAf⟩
end
end Go.Proofs.YtmapoakbdgpamaaGreat.XQ
