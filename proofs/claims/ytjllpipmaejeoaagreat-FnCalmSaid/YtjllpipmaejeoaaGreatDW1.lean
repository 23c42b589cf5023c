/- What functions compute, and that they do; part 1 of W; by a program (dec.py). No condition. -/
import Derived.Test.YtjllpipmaejeoaaGreatDW0
set_option linter.all false
namespace Go.Proofs.YtjllpipmaejeoaaGreat.XW
open Go.Proofs.YtjllpipmaejeoaaGreat.R
set_option maxRecDepth 100000
noncomputable section
variable {R : Type}
abbrev V9 : Type := yp5
def JC (k0 : yi4 → Option R) (k1 : Qz9 → Option R) (again : V9 → Option R) (t4 : V9) : Option R :=
 bif (decide (t4.2.2.1 < t4.2.1)) then if (0 : Int) ≤ t4.2.2.1 then if t4.2.2.1 < (List.length t4.1 : Int) then bif (decide ((yA t4.1 t4.2.2.1).1 ≥ t4.2.2.2.2.2.2.2.2)) then k0 (false, t4.2.2.2) else again (t4.1, t4.2.1, (Go.IntKind.wrap .i64 (t4.2.2.1 + (1 : Int))), t4.2.2.2.1, t4.2.2.2.2.1, t4.2.2.2.2.2.1, t4.2.2.2.2.2.2.1, t4.2.2.2.2.2.2.2.1, t4.2.2.2.2.2.2.2.2) else none else none else k1 t4.2.2.2
def y0b k0 k1 := zR (@JC R k0 k1) Yd
def Yw (x : Qz9) : Option Bool :=
 Option.bind (Yu (x.1, x.2.1)) fun r1 => Option.bind (bif (!r1) then some true else Option.bind (w6 x.2.2.1) fun r3 => some (!r3)) fun u2 => Option.bind (bif u2 then some true else Option.bind (jY x.2.2.2.1) fun r5 => some (!r5)) fun u4 => Option.bind (bif u4 then some true else Option.bind (yM (x.2.2.2.2.2, (1 : Int), (61 : Int))) fun r7 => some (!r7)) fun u6 => bif u6 then some false else y0b (fun x8 => some x8.1) (fun x9 => Option.bind (kf x9) fun r10 => Option.bind (bif r10 then Option.bind (wF x9) fun r12 => some r12 else some false) fun u11 => some u11) (x.2.2.1, (List.length x.2.2.1 : Int), (0 : Int), x.1, x.2.1, x.2.2.1, x.2.2.2.1, x.2.2.2.2.1, x.2.2.2.2.2)
def yym : List QF := [q47, q53, q54, q55, q56, q57]
def ybS (t : yp5) : St := ⟨.dead :: .box 1 0 :: dd 26 (zd t.1 :: vI t.2.1 :: vI t.2.2.1 :: dd 15 []), [(1, .box [z3 t.2.2.2.1, yw t.2.2.2.2.1, zd t.2.2.2.2.2.1, yK t.2.2.2.2.2.2.1, zC t.2.2.2.2.2.2.2.1, vI t.2.2.2.2.2.2.2.2])]⟩
def yto : Gk V9 := fun κ => JC (fun t => κ none ⟨.dead :: .box 1 0 :: vB t.1 :: dd 43 [], [(1, .box [z3 t.2.1, yw t.2.2.1, zd t.2.2.2.1, yK t.2.2.2.2.1, zC t.2.2.2.2.2.1, vI t.2.2.2.2.2.2])]⟩) (fun t => κ (some 0) ⟨.dead :: .box 1 0 :: dd 44 [], [(1, .box [z3 t.1, yw t.2.1, zd t.2.2.1, yK t.2.2.2.1, zC t.2.2.2.2.1, vI t.2.2.2.2.2])]⟩)
def yyn : Lp := lpC 4 (unG yp6 ybS) @yto lpN
theorem yyo : LF yym yyn 19 4 Tryz.f19 0 ybS @yto fun t => t := fun R κ again t => by kernel_rfl
theorem yyp : LK yym yyn 19 Tryz.f19 0 := lkN (u := (unG yp6 ybS)) (yq fun t => by kernel_rfl) yyo
theorem yDE : EV yym yyn 19 Tryz.f19 yAQ qz9 [.bool] Yw := fun x => by kernel_rfl
def q19 : QF := ⟨19, Yw, okN (n := 1) Tryz.func19 ⟨yyp, trivial⟩ yDE⟩
def vi (x : yvi) : Option yi7 :=
 some ((x.2.1 == x.2.2.2.2), x.2.2.2.2)
theorem yDF : EV [] lpN 67 Tryz.f67 yAR yvj ykO vi := fun x => by kernel_rfl
def q67 : QF := ⟨67, vi, okN (n := 0) Tryz.func67 trivial yDF⟩
abbrev zT : Type := yp7
def za (k0 : yhj → Option R) (k1 : Int → Option R) (again : zT → Option R) (t2 : zT) : Option R :=
 bif (decide (t2.2.2.1 < t2.2.1)) then if (0 : Int) ≤ t2.2.2.1 then if t2.2.2.1 < (List.length t2.1 : Int) then Option.bind (vi ((yi t2.1 t2.2.2.1).1, (yi t2.1 t2.2.2.1).2.1, (yi t2.1 t2.2.2.1).2.2.1, (yi t2.1 t2.2.2.1).2.2.2, t2.2.2.2)) fun r1 => bif r1.1 then k0 (t2.2.2.1, r1.2) else again (t2.1, t2.2.1, (Go.IntKind.wrap .i64 (t2.2.2.1 + (1 : Int))), r1.2) else none else none else k1 t2.2.2.2
def YZ k0 k1 := zR (@za R k0 k1) Yd
def zi (x : yp9) : Option yhj :=
 YZ (fun x2 => some x2) (fun x3 => some ((-1 : Int), x3)) (x.1, (List.length x.1 : Int), (0 : Int), x.2)
def y8j : List QF := [q67]
def y1B (t : yp7) : St := ⟨zC t.1 :: .clo 67 901 :: dd 5 (vI t.2.1 :: vI t.2.2.1 :: dd 10 []), [(901, .box [vI t.2.2.2])]⟩
def y9N : Gk zT := fun κ => za (fun t => κ none ⟨.dead :: .clo 67 901 :: dd 2 (vI t.1 :: dd 14 []), [(901, .box [vI t.2])]⟩) (fun t => κ (some 0) ⟨.dead :: .clo 67 901 :: dd 17 [], [(901, .box [vI t])]⟩)
def y8k : Lp := lpC 2 (unG yp8 y1B) @y9N lpN
theorem ygl : LF y8j y8k 100005 2 Tryz.f103 0 y1B @y9N fun t => t := fun R κ again t => by kernel_rfl
theorem ygm : LK y8j y8k 100005 Tryz.f103 0 := lkN (u := (unG yp8 y1B)) (yq fun t => by kernel_rfl) ygl
theorem yiq : EV y8j y8k 100005 Tryz.f103 yd5 ypa ykJ zi := fun x => by kernel_rfl
def ymG : QF := ⟨100005, zi, okN (n := 1) Tryz.func103 ⟨ygm, trivial⟩ yiq⟩
def zq (x : yp9) : Option yi7 :=
 Option.bind (zi x) fun r1 => some ((decide (r1.1 ≥ (0 : Int))), r1.2)
theorem yir : EV [ymG] lpN 100004 Tryz.f66 yd6 ypa ykO zq := fun x => by kernel_rfl
def ymH : QF := ⟨100004, zq, okN (n := 0) Tryz.func66 trivial yir⟩
def JD (x : yaV) : Option Bool :=
 Option.bind (zq (x.2.2.2.2.1, x.2.2.2.2.2.2)) fun r1 => some (!r1.1)
theorem yDG : EV [ymH] lpN 27 Tryz.f27 yAS yaW [.bool] JD := fun x => by kernel_rfl
def q27 : QF := ⟨27, JD, okN (n := 0) Tryz.func27 trivial yDG⟩
def Va (x : yA9) : Option Bool :=
 Option.bind (kX (x.1, x.2.1, x.2.2.1, x.2.2.2.1, x.2.2.2.2.2.2.2.2)) fun r1 => Option.bind (bif r1.2.2.2.2.2 then some (r1.2.1 == x.2.2.2.2.1) else some false) fun u2 => some u2
theorem yDH : EV [q77] lpN 65 Tryz.f65 yAT yAa [.bool] Va := fun x => by kernel_rfl
def q65 : QF := ⟨65, Va, okN (n := 0) Tryz.func65 trivial yDH⟩
abbrev kg : Type := ypb
def Zu (k0 : Bool → Option R) (k1 : Unit → Option R) (again : kg → Option R) (t2 : kg) : Option R :=
 bif (decide (t2.2.2.1 < t2.2.1)) then if (0 : Int) ≤ t2.2.2.1 then if t2.2.2.1 < (List.length t2.1 : Int) then Option.bind (bif (decide ((yi t2.1 t2.2.2.1).2.2.1 > t2.2.2.2.2.2.2.2.2.2.1)) then Option.bind (Va (t2.2.2.2.1, t2.2.2.2.2.1, t2.2.2.2.2.2.1, t2.2.2.2.2.2.2.2.2.2.1, t2.2.2.2.2.2.2.2.2.2.2.1, t2.2.2.2.2.2.2.2.2.2.2.2.1, t2.2.2.2.2.2.2.2.2.2.2.2.2.1, t2.2.2.2.2.2.2.2.2.2.2.2.2.2, (yi t2.1 t2.2.2.1).2.1)) fun r2 => some r2 else some false) fun u1 => bif u1 then k0 true else again (t2.1, t2.2.1, (Go.IntKind.wrap .i64 (t2.2.2.1 + (1 : Int))), t2.2.2.2.1, t2.2.2.2.2.1, t2.2.2.2.2.2.1, t2.2.2.2.2.2.2.1, t2.2.2.2.2.2.2.2.1, t2.2.2.2.2.2.2.2.2.1, t2.2.2.2.2.2.2.2.2.2.1, t2.2.2.2.2.2.2.2.2.2.2.1, t2.2.2.2.2.2.2.2.2.2.2.2.1, t2.2.2.2.2.2.2.2.2.2.2.2.2.1, t2.2.2.2.2.2.2.2.2.2.2.2.2.2) else none else none else k1 ()
def VD k0 k1 := zR (@Zu R k0 k1) Yd
def Yf (x : ynx) : Option Bool :=
 VD (fun x3 => some x3) (fun x4 => some false) (x.2.2.2.2.1, (List.length x.2.2.2.2.1 : Int), (0 : Int), x.1, x.2.1, x.2.2.1, x.2.2.2.1, x.2.2.2.2.1, x.2.2.2.2.2.1, x.2.2.2.2.2.2.1, x.2.2.2.2.2.2.2.1, x.2.2.2.2.2.2.2.2.1, x.2.2.2.2.2.2.2.2.2.1, x.2.2.2.2.2.2.2.2.2.2)
def yyq : List QF := [q65]
def ybT (t : ypb) : St := ⟨dd 2 (.box 2 0 :: .box 3 0 :: dd 4 (zC t.1 :: vI t.2.1 :: vI t.2.2.1 :: dd 19 [])), [(2, .box [z3 t.2.2.2.1, yw t.2.2.2.2.1, zd t.2.2.2.2.2.1, yK t.2.2.2.2.2.2.1, zC t.2.2.2.2.2.2.2.1, vI t.2.2.2.2.2.2.2.2.1]), (3, .box [vI t.2.2.2.2.2.2.2.2.2.1, vI t.2.2.2.2.2.2.2.2.2.2.1, vI t.2.2.2.2.2.2.2.2.2.2.2.1, vI t.2.2.2.2.2.2.2.2.2.2.2.2.1, vI t.2.2.2.2.2.2.2.2.2.2.2.2.2])]⟩
def ytp : Gk kg := fun κ => Zu (fun t => κ none ⟨dd 4 (vB t :: dd 25 []), []⟩) (fun t => κ (some 0) ⟨dd 30 [], []⟩)
def yyr : Lp := lpC 2 (unG ypc ybT) @ytp lpN
theorem yys : LF yyq yyr 26 2 Tryz.f26 0 ybT @ytp fun t => t := fun R κ again t => by kernel_rfl
theorem yyt : LK yyq yyr 26 Tryz.f26 0 := lkN (u := (unG ypc ybT)) (yq fun t => by kernel_rfl) yys
theorem yDI : EV yyq yyr 26 Tryz.f26 yAU yny [.bool] Yf := fun x => by kernel_rfl
def q26 : QF := ⟨26, Yf, okN (n := 1) Tryz.func26 ⟨yyt, trivial⟩ yDI⟩
abbrev wV : Type := ypd
def wW (k0 : Int → Option R) (k1 : Unit → Option R) (again : wV → Option R) (t2 : wV) : Option R :=
 bif (decide (t2.2.2.1 ≥ (0 : Int))) then if (0 : Int) ≤ t2.2.2.1 then if t2.2.2.1 < (List.length t2.2.2.2.1 : Int) then Option.bind (Zt (t2.1, t2.2.1)) fun r1 => bif (decide ((zu t2.2.2.2.1 t2.2.2.1) ≤ r1)) then k0 t2.2.2.1 else again (t2.1, t2.2.1, (Go.IntKind.wrap .i64 (t2.2.2.1 - (1 : Int))), t2.2.2.2.1, t2.2.2.2.2) else none else none else k1 ()
def Qk k0 k1 := zR (@wW R k0 k1) Yd
def jZ (x : yuo) : Option Int :=
 Qk (fun x2 => some x2) (fun x3 => some (-1 : Int)) (x.2.2.1, x.2.2.2, (Go.IntKind.wrap .i64 ((List.length x.1 : Int) - (1 : Int))), x.1, x.2.1)
def yyu : List QF := [q92]
def ybU (t : ypd) : St := ⟨.dead :: vI t.1 :: vI t.2.1 :: .box 3 0 :: dd 3 (vI t.2.2.1 :: dd 18 []), [(3, .box [z3 t.2.2.2.1, yw t.2.2.2.2])]⟩
def ytq : Gk wV := fun κ => wW (fun t => κ none ⟨dd 6 (vI t :: dd 19 []), []⟩) (fun t => κ (some 0) ⟨dd 26 [], []⟩)
def yyv : Lp := lpC 2 (unG ype ybU) @ytq lpN
theorem yyw : LF yyu yyv 88 2 Tryz.f88 0 ybU @ytq fun t => t := fun R κ again t => by kernel_rfl
theorem yyx : LK yyu yyv 88 Tryz.f88 0 := lkN (u := (unG ype ybU)) (yq fun t => by kernel_rfl) yyw
theorem yDJ : EV yyu yyv 88 Tryz.f88 yAV yup [(.int .i64)] jZ := fun x => by kernel_rfl
def q88 : QF := ⟨88, jZ, okN (n := 1) Tryz.func88 ⟨yyx, trivial⟩ yDJ⟩
abbrev VP : Type := ypf
def wG (k0 : yuq → Option R) (k1 : yhi → Option R) (again : VP → Option R) (t2 : VP) : Option R :=
 bif (decide (t2.2.2.2.2.1 < t2.2.2.2.1)) then if (0 : Int) ≤ t2.2.2.2.2.1 then if t2.2.2.2.2.1 < (List.length t2.2.2.1 : Int) then Option.bind (bif ((y6 t2.2.2.1 t2.2.2.2.2.1).1 == t2.1) then some ((y6 t2.2.2.1 t2.2.2.2.2.1).2.1 == t2.2.1) else some false) fun u1 => bif u1 then k0 (true, (y6 t2.2.2.1 t2.2.2.2.2.1).1, (y6 t2.2.2.1 t2.2.2.2.2.1).2.1, (y6 t2.2.2.1 t2.2.2.2.2.1).2.2.1, (y6 t2.2.2.1 t2.2.2.2.2.1).2.2.2.1, (y6 t2.2.2.1 t2.2.2.2.2.1).2.2.2.2) else again (t2.1, t2.2.1, t2.2.2.1, t2.2.2.2.1, (Go.IntKind.wrap .i64 (t2.2.2.2.2.1 + (1 : Int))), t2.2.2.2.2.2.1, t2.2.2.2.2.2.2.1, t2.2.2.2.2.2.2.2.1, t2.2.2.2.2.2.2.2.2.1, t2.2.2.2.2.2.2.2.2.2) else none else none else k1 t2.2.2.2.2.2
def y1e k0 k1 := zR (@wG R k0 k1) Yd
def Wi (x : yzO) : Option yeQ :=
 y1e (fun x2 => some (x2.2.1, x2.2.2.1, x2.2.2.2.1, x2.2.2.2.2.1, x2.2.2.2.2.2, x2.1)) (fun x3 => some ((0 : Int), (0 : Int), (0 : Int), (0 : Int), (0 : Int), false)) (x.2.1, x.2.2, x.1, (List.length x.1 : Int), (0 : Int), (0 : Int), (0 : Int), (0 : Int), (0 : Int), (0 : Int))
def ymI : List QF := []
def y8l (t : ypf) : St := ⟨.dead :: vI t.1 :: vI t.2.1 :: dd 3 (.box 6 0 :: dd 3 (Qt t.2.2.1 :: vI t.2.2.2.1 :: vI t.2.2.2.2.1 :: dd 16 [])), [(6, .box [vI t.2.2.2.2.2.1, vI t.2.2.2.2.2.2.1, vI t.2.2.2.2.2.2.2.1, vI t.2.2.2.2.2.2.2.2.1, vI t.2.2.2.2.2.2.2.2.2])]⟩
def yk9 : Gk VP := fun κ => wG (fun t => κ none ⟨dd 6 (.box 6 0 :: vB t.1 :: dd 21 []), [(6, .box [vI t.2.1, vI t.2.2.1, vI t.2.2.2.1, vI t.2.2.2.2.1, vI t.2.2.2.2.2])]⟩) (fun t => κ (some 0) ⟨dd 6 (.box 6 0 :: dd 22 []), [(6, .box [vI t.1, vI t.2.1, vI t.2.2.1, vI t.2.2.2.1, vI t.2.2.2.2])]⟩)
def ymJ : Lp := lpC 2 (unG ypg y8l) @yk9 lpN
theorem ytr : LF ymI ymJ 124 2 Tryz.f124 0 y8l @yk9 fun t => t := fun R κ again t => by kernel_rfl
theorem yts : LK ymI ymJ 124 Tryz.f124 0 := lkN (u := (unG ypg y8l)) (yq fun t => by kernel_rfl) ytr
theorem yyy : EV ymI ymJ 124 Tryz.f124 yrf yzP yeR Wi := fun x => by kernel_rfl
def yBK : QF := ⟨124, Wi, okN (n := 1) Tryz.func124 ⟨yts, trivial⟩ yyy⟩
abbrev kh : Type := yur
def ki (k0 : yhi → Option R) (k1 : yuq → Option R) (again : kh → Option R) (t2 : kh) : Option R :=
 bif (decide (t2.2.2.1 ≥ (0 : Int))) then if (0 : Int) ≤ t2.2.2.1 then if t2.2.2.1 < (List.length t2.2.2.2.1 : Int) then Option.bind (Wi ((yp t2.2.2.2.1 t2.2.2.1), t2.1, t2.2.1)) fun r1 => bif (!r1.2.2.2.2.2) then again (t2.1, t2.2.1, (Go.IntKind.wrap .i64 (t2.2.2.1 - (1 : Int))), t2.2.2.2.1, t2.2.2.2.2.1, t2.2.2.2.2.2.1, t2.2.2.2.2.2.2.1, t2.2.2.2.2.2.2.2.1, t2.2.2.2.2.2.2.2.2) else bif (r1.2.2.1 == (0 : Int)) then k0 t2.2.2.2.2 else k1 (true, r1.1, r1.2.1, r1.2.2.1, r1.2.2.2.1, r1.2.2.2.2.1) else none else none else k0 t2.2.2.2.2
def y0c k0 k1 := zR (@ki R k0 k1) Yd
def kj (x : ykK) : Option yeQ :=
 y0c (fun x2 => some ((0 : Int), (0 : Int), (0 : Int), (0 : Int), (0 : Int), false)) (fun x3 => some (x3.2.1, x3.2.2.1, x3.2.2.2.1, x3.2.2.2.2.1, x3.2.2.2.2.2, x3.1)) (x.2.1, x.2.2, (Go.IntKind.wrap .i64 ((List.length x.1 : Int) - (1 : Int))), x.1, (0 : Int), (0 : Int), (0 : Int), (0 : Int), (0 : Int))
def ymK : List QF := [yBK]
def y8m (t : yur) : St := ⟨.dead :: vI t.1 :: vI t.2.1 :: .box 3 0 :: dd 2 (.box 6 0 :: .dead :: vI t.2.2.1 :: dd 28 []), [(3, .box [YQ t.2.2.2.1]), (6, .box [vI t.2.2.2.2.1, vI t.2.2.2.2.2.1, vI t.2.2.2.2.2.2.1, vI t.2.2.2.2.2.2.2.1, vI t.2.2.2.2.2.2.2.2])]⟩
def yka : Gk kh := fun κ => ki (fun t => κ (some 0) ⟨dd 6 (.box 6 0 :: dd 30 []), [(6, .box [vI t.1, vI t.2.1, vI t.2.2.1, vI t.2.2.2.1, vI t.2.2.2.2])]⟩) (fun t => κ none ⟨dd 6 (.box 6 0 :: vB t.1 :: dd 29 []), [(6, .box [vI t.2.1, vI t.2.2.1, vI t.2.2.2.1, vI t.2.2.2.2.1, vI t.2.2.2.2.2])]⟩)
def ymL : Lp := lpC 2 (unG yus y8m) @yka lpN
theorem ytt : LF ymK ymL 122 2 Tryz.f122 0 y8m @yka fun t => t := fun R κ again t => by kernel_rfl
theorem ytu : LK ymK ymL 122 Tryz.f122 0 := lkN (u := (unG yus y8m)) (yq fun t => by kernel_rfl) ytt
theorem yyz : EV ymK ymL 122 Tryz.f122 yrg yut yeR kj := fun x => by kernel_rfl
def yDK : QF := ⟨122, kj, okN (n := 1) Tryz.func122 ⟨ytu, trivial⟩ yyz⟩
def w7 (x : yuo) : Option yeQ :=
 Option.bind (jZ x) fun r1 => Option.bind (yM (r1, (0 : Int), (Go.IntKind.wrap .i64 ((List.length x.2.1 : Int) - (1 : Int))))) fun r2 => bif (!r2) then some ((0 : Int), (0 : Int), (0 : Int), (0 : Int), (0 : Int), false) else if (0 : Int) ≤ r1 then if r1 < (List.length x.2.1 : Int) then Option.bind (kj ((yf x.2.1 r1), x.2.2.1, x.2.2.2)) fun r3 => some r3 else none else none
theorem yDL : EV [q47, q88, yDK] lpN 82 Tryz.f82 yAW yup yeR w7 := fun x => by kernel_rfl
def q82 : QF := ⟨82, w7, okN (n := 0) Tryz.func82 trivial yDL⟩
def jN (x : yuu) : Option yeQ :=
 Option.bind (JZ (x.2.2.1, x.2.2.2.2)) fun r1 => if (0 : Int) ≤ (if (List.length r1 : Int) < (1 : Int) then (List.length r1 : Int) else (1 : Int)) then if (if (List.length r1 : Int) < (1 : Int) then (List.length r1 : Int) else (1 : Int)) ≤ (List.length r1 : Int) then if (List.length r1 : Int) ≤ (List.length r1 : Int) then Option.bind (ju (x.1, x.2.1, x.2.2.2.1, (List.drop (Int.toNat (if (List.length r1 : Int) < (1 : Int) then (List.length r1 : Int) else (1 : Int))) (List.take (Int.toNat (List.length r1 : Int)) r1)))) fun r2 => some r2 else none else none else none
theorem yDM : EV [yBI, yBJ] lpN 85 Tryz.f85 yAX yuv yeR jN := fun x => by kernel_rfl
def q85 : QF := ⟨85, jN, okN (n := 0) Tryz.func85 trivial yDM⟩
def wH (x : yAe) : Option Bool :=
 bif (x.2.2.2.2.2.2.1 == (1 : Int)) then Option.bind (Yf (x.1, x.2.1, x.2.2.1, x.2.2.2.1, x.2.2.2.2.1, x.2.2.2.2.2.1, x.2.2.2.2.2.2.2)) fun r1 => some (!r1) else bif (x.2.2.2.2.2.2.1 == (2 : Int)) then Option.bind (jN (x.1, x.2.1, x.2.2.1, x.2.2.2.2.2.2.2.1, x.2.2.2.2.2.2.2.2.1)) fun r2 => Option.bind (bif (x.2.2.2.2.2.2.2.2.2.1 == (2 : Int)) then some (!r2.2.2.2.2.2) else some false) fun u3 => some u3 else Option.bind (Yv (x.2.2.1, x.2.2.2.2.2.2.2.2.1)) fun r4 => Option.bind (JD (x.1, x.2.1, x.2.2.1, x.2.2.2.1, x.2.2.2.2.1, x.2.2.2.2.2.1, x.2.2.2.2.2.2.2.2.1)) fun r5 => Option.bind (bif (!r5) then some true else some ((List.length r4 : Int) != (1 : Int))) fun u6 => bif u6 then some false else if (0 : Int) ≤ (0 : Int) then if (0 : Int) < (List.length r4 : Int) then Option.bind (w7 (x.1, x.2.1, x.2.2.2.2.2.2.2.1, (zu r4 (0 : Int)))) fun r7 => some (!r7.2.2.2.2.2) else none else none
theorem yDN : EV [q26, q27, q28, q82, q85] lpN 61 Tryz.f61 yAY yAf [.bool] wH := fun x => by kernel_rfl
def q61 : QF := ⟨61, wH, okN (n := 0) Tryz.func61 trivial yDN⟩
abbrev KV : Type := yph
def jO (k0 : Bool → Option R) (k1 : Unit → Option R) (again : KV → Option R) (t2 : KV) : Option R :=
 bif (decide (t2.2.2.2 < t2.2.2.1)) then if (0 : Int) ≤ t2.2.2.2 then if t2.2.2.2 < (List.length t2.2.1 : Int) then bif ((y6 t2.2.1 t2.2.2.2).2.1 == t2.1) then k0 true else again (t2.1, t2.2.1, t2.2.2.1, (Go.IntKind.wrap .i64 (t2.2.2.2 + (1 : Int)))) else none else none else k1 ()
def Ql k0 k1 := zR (@jO R k0 k1) Yd
def wI (x : ynT) : Option Bool :=
 Ql (fun x1 => some x1) (fun x2 => some false) (x.2, x.1, (List.length x.1 : Int), (0 : Int))
def yyA : List QF := []
def ybV (t : yph) : St := ⟨.dead :: vI t.1 :: dd 5 (Qt t.2.1 :: vI t.2.2.1 :: vI t.2.2.2 :: dd 8 []), []⟩
def ytv : Gk KV := fun κ => jO (fun t => κ none ⟨dd 4 (vB t :: dd 13 []), []⟩) (fun t => κ (some 0) ⟨dd 18 [], []⟩)
def yyB : Lp := lpC 2 (unG ypi ybV) @ytv lpN
theorem yyC : LF yyA yyB 62 2 Tryz.f62 0 ybV @ytv fun t => t := fun R κ again t => by kernel_rfl
theorem yyD : LK yyA yyB 62 Tryz.f62 0 := lkN (u := (unG ypi ybV)) (yq fun t => by kernel_rfl) yyC
theorem yDO : EV yyA yyB 62 Tryz.f62 yAZ ynU [.bool] wI := fun x => by kernel_rfl
def q62 : QF := ⟨62, wI, okN (n := 1) Tryz.func62 ⟨yyD, trivial⟩ yDO⟩
abbrev K1 : Type := ypj
def j8 (k0 : yvk → Option R) (k1 : ykQ → Option R) (again : K1 → Option R) (t8 : K1) : Option R :=
 bif (decide (t8.2.2.2.2.1 < t8.2.2.2.1)) then if (0 : Int) ≤ t8.2.2.2.2.1 then if t8.2.2.2.2.1 < (List.length t8.2.2.2.2.2.2.2.2.2.2.2.1 : Int) then Option.bind (wH (t8.2.2.2.2.2.1, t8.2.2.2.2.2.2.1, t8.2.2.2.2.2.2.2.1, t8.2.2.2.2.2.2.2.2.1, t8.2.2.2.2.2.2.2.2.2.1, t8.2.2.2.2.2.2.2.2.2.2.1, t8.1, (y6 t8.2.2.2.2.2.2.2.2.2.2.2.1 t8.2.2.2.2.1).1, (y6 t8.2.2.2.2.2.2.2.2.2.2.2.1 t8.2.2.2.2.1).2.1, (y6 t8.2.2.2.2.2.2.2.2.2.2.2.1 t8.2.2.2.2.1).2.2.1, (y6 t8.2.2.2.2.2.2.2.2.2.2.2.1 t8.2.2.2.2.1).2.2.2.1, (y6 t8.2.2.2.2.2.2.2.2.2.2.2.1 t8.2.2.2.2.1).2.2.2.2)) fun r3 => bif r3 then k0 (t8.1, t8.2.2.2.2.1, t8.2.1, t8.2.2.1, t8.2.2.2.2.2) else again (t8.1, t8.2.1, t8.2.2.1, t8.2.2.2.1, (Go.IntKind.wrap .i64 (t8.2.2.2.2.1 + (1 : Int))), t8.2.2.2.2.2.1, t8.2.2.2.2.2.2.1, t8.2.2.2.2.2.2.2.1, t8.2.2.2.2.2.2.2.2.1, t8.2.2.2.2.2.2.2.2.2.1, t8.2.2.2.2.2.2.2.2.2.2.1, t8.2.2.2.2.2.2.2.2.2.2.2.1, t8.2.2.2.2.2.2.2.2.2.2.2.2) else none else none else k1 (t8.2.1, t8.2.2.1, t8.2.2.2.2.2)
def qs k0 k1 := zR (@j8 R k0 k1) Yd
abbrev K2 : Type := ykQ
def j9 (k0 : yjj → Option R) (k1 : yvl → Option R) (again : K2 → Option R) (t5 : K2) : Option R :=
 bif (decide (t5.2.1 < t5.1)) then if (0 : Int) ≤ t5.2.1 then if t5.2.1 < (List.length t5.2.2.2.2.2.2.2.2.2 : Int) then qs (fun x4 => k0 (x4.1, x4.2.1, x4.2.2.2.2.1, x4.2.2.2.2.2.1, x4.2.2.2.2.2.2.1, x4.2.2.2.2.2.2.2.1, x4.2.2.2.2.2.2.2.2.1, x4.2.2.2.2.2.2.2.2.2.1, x4.2.2.2.2.2.2.2.2.2.2.1)) (fun x5 => again (x5.1, (Go.IntKind.wrap .i64 (x5.2.1 + (1 : Int))), x5.2.2.1, x5.2.2.2.1, x5.2.2.2.2.1, x5.2.2.2.2.2.1, x5.2.2.2.2.2.2.1, x5.2.2.2.2.2.2.2.1, x5.2.2.2.2.2.2.2.2.1, x5.2.2.2.2.2.2.2.2.2)) ((zu t5.2.2.2.2.2.2.2.2.2 t5.2.1), t5.1, t5.2.1, (List.length t5.2.2.2.2.2.2.2.2.1 : Int), (0 : Int), t5.2.2.1, t5.2.2.2.1, t5.2.2.2.2.1, t5.2.2.2.2.2.1, t5.2.2.2.2.2.2.1, t5.2.2.2.2.2.2.2.1, t5.2.2.2.2.2.2.2.2.1, t5.2.2.2.2.2.2.2.2.2) else none else none else k1 (t5.2.2.1, t5.2.2.2.1, t5.2.2.2.2.1, t5.2.2.2.2.2.1, t5.2.2.2.2.2.2.1, t5.2.2.2.2.2.2.2.1, t5.2.2.2.2.2.2.2.2.1)
def qt k0 k1 := zR (@j9 R k0 k1) Yd
abbrev kl : Type := ypm
def Zv (k0 : yhj → Option R) (k1 : Unit → Option R) (again : kl → Option R) (t15 : kl) : Option R :=
 bif (decide (t15.2.2.1 < t15.2.1)) then if (0 : Int) ≤ t15.2.2.1 then if t15.2.2.1 < (List.length t15.1 : Int) then Option.bind (JD (t15.2.2.2.1, t15.2.2.2.2.1, t15.2.2.2.2.2.1, t15.2.2.2.2.2.2.1, t15.2.2.2.2.2.2.2.1, t15.2.2.2.2.2.2.2.2.1, (yA t15.1 t15.2.2.1).1)) fun r8 => Option.bind (bif r8 then Option.bind (Yv (t15.2.2.2.2.2.1, (yA t15.1 t15.2.2.1).1)) fun r10 => some (decide ((List.length r10 : Int) ≤ (1 : Int))) else some false) fun u9 => Option.bind (bif u9 then Option.bind (wI (t15.2.2.2.2.2.2.2.2.2, (yA t15.1 t15.2.2.1).1)) fun r12 => some (!r12) else some false) fun u11 => bif u11 then k0 ((4 : Int), t15.2.2.1) else again (t15.1, t15.2.1, (Go.IntKind.wrap .i64 (t15.2.2.1 + (1 : Int))), t15.2.2.2.1, t15.2.2.2.2.1, t15.2.2.2.2.2.1, t15.2.2.2.2.2.2.1, t15.2.2.2.2.2.2.2.1, t15.2.2.2.2.2.2.2.2.1, t15.2.2.2.2.2.2.2.2.2) else none else none else k1 ()
def VE k0 k1 := zR (@Zv R k0 k1) Yd
def Z5 (x : Qz9) : Option yhj :=
 Option.bind (Yw x) fun r1 => bif (!r1) then some ((0 : Int), (0 : Int)) else Option.bind (yT (x.1, x.2.1)) fun r2 => qt (fun x6 => some (x6.1, x6.2.1)) (fun x7 => VE (fun x13 => some x13) (fun x14 => some ((0 : Int), (0 : Int))) (x7.2.2.1, (List.length x7.2.2.1 : Int), (0 : Int), x7.1, x7.2.1, x7.2.2.1, x7.2.2.2.1, x7.2.2.2.2.1, x7.2.2.2.2.2.1, x7.2.2.2.2.2.2)) (((List.length ([(1 : Int), (2 : Int), (3 : Int)] : List yc) : Nat) : Int), (0 : Int), x.1, x.2.1, x.2.2.1, x.2.2.2.1, x.2.2.2.2.1, x.2.2.2.2.2, r2, ([(1 : Int), (2 : Int), (3 : Int)] : List yc))
def ymM : List QF := [q19, q23, q27, q28, q61, q62]
def ybW (t : ypj) : St := ⟨.dead :: .box 1 0 :: dd 2 (.own 10000000 :: .dead :: vI t.1 :: dd 10 (.own 10000001 :: vI t.2.1 :: vI t.2.2.1 :: dd 3 (.own 10000000 :: vI t.2.2.2.1 :: vI t.2.2.2.2.1 :: dd 42 []))), [(1, .box [z3 t.2.2.2.2.2.1, yw t.2.2.2.2.2.2.1, zd t.2.2.2.2.2.2.2.1, yK t.2.2.2.2.2.2.2.2.1, zC t.2.2.2.2.2.2.2.2.2.1, vI t.2.2.2.2.2.2.2.2.2.2.1]), (10000000, .root true 63 yh t.2.2.2.2.2.2.2.2.2.2.2.1), (10000001, .root true 3 yd t.2.2.2.2.2.2.2.2.2.2.2.2)]⟩
def ytw : Gk K1 := fun κ => j8 (fun t => κ none ⟨.dead :: .box 1 0 :: vI t.1 :: vI t.2.1 :: .own 10000000 :: dd 12 (.own 10000001 :: vI t.2.2.1 :: vI t.2.2.2.1 :: dd 48 []), [(1, .box [z3 t.2.2.2.2.1, yw t.2.2.2.2.2.1, zd t.2.2.2.2.2.2.1, yK t.2.2.2.2.2.2.2.1, zC t.2.2.2.2.2.2.2.2.1, vI t.2.2.2.2.2.2.2.2.2.1]), (10000000, .root true 63 yh t.2.2.2.2.2.2.2.2.2.2.1), (10000001, .root true 3 yd t.2.2.2.2.2.2.2.2.2.2.2)]⟩) (fun t => κ (some 2) ⟨.dead :: .box 1 0 :: dd 2 (.own 10000000 :: dd 12 (.own 10000001 :: vI t.1 :: vI t.2.1 :: dd 48 [])), [(1, .box [z3 t.2.2.1, yw t.2.2.2.1, zd t.2.2.2.2.1, yK t.2.2.2.2.2.1, zC t.2.2.2.2.2.2.1, vI t.2.2.2.2.2.2.2.1]), (10000000, .root true 63 yh t.2.2.2.2.2.2.2.2.1), (10000001, .root true 3 yd t.2.2.2.2.2.2.2.2.2)]⟩)
def ybX (t : ykQ) : St := ⟨.dead :: .box 1 0 :: dd 2 (.own 10000000 :: dd 12 (.own 10000001 :: vI t.1 :: vI t.2.1 :: dd 48 [])), [(1, .box [z3 t.2.2.1, yw t.2.2.2.1, zd t.2.2.2.2.1, yK t.2.2.2.2.2.1, zC t.2.2.2.2.2.2.1, vI t.2.2.2.2.2.2.2.1]), (10000000, .root true 63 yh t.2.2.2.2.2.2.2.2.1), (10000001, .root true 3 yd t.2.2.2.2.2.2.2.2.2)]⟩
def ytx : Gk K2 := fun κ => j9 (fun t => κ none ⟨.dead :: .box 1 0 :: vI t.1 :: vI t.2.1 :: .own 10000000 :: dd 63 [], [(1, .box [z3 t.2.2.1, yw t.2.2.2.1, zd t.2.2.2.2.1, yK t.2.2.2.2.2.1, zC t.2.2.2.2.2.2.1, vI t.2.2.2.2.2.2.2.1]), (10000000, .root true 63 yh t.2.2.2.2.2.2.2.2)]⟩) (fun t => κ (some 0) ⟨.dead :: .box 1 0 :: dd 2 (.own 10000000 :: dd 63 []), [(1, .box [z3 t.1, yw t.2.1, zd t.2.2.1, yK t.2.2.2.1, zC t.2.2.2.2.1, vI t.2.2.2.2.2.1]), (10000000, .root true 63 yh t.2.2.2.2.2.2)]⟩)
def y8n (t : ypm) : St := ⟨.dead :: .box 1 0 :: dd 2 (.own 10000000 :: dd 34 (zd t.1 :: vI t.2.1 :: vI t.2.2.1 :: dd 26 [])), [(1, .box [z3 t.2.2.2.1, yw t.2.2.2.2.1, zd t.2.2.2.2.2.1, yK t.2.2.2.2.2.2.1, zC t.2.2.2.2.2.2.2.1, vI t.2.2.2.2.2.2.2.2.1]), (10000000, .root true 63 yh t.2.2.2.2.2.2.2.2.2)]⟩
def ykb : Gk kl := fun κ => Zv (fun t => κ none ⟨dd 2 (vI t.1 :: vI t.2 :: dd 64 []), []⟩) (fun t => κ (some 4) ⟨dd 68 [], []⟩)
def ymN : Lp := lpC 15 (unG ypn y8n) @ykb (lpC 5 (unG ypl ybX) @ytx (lpC 8 (unG ypk ybW) @ytw lpN))
theorem yyE : LF ymM ymN 22 8 Tryz.f22 1 ybW @ytw fun t => t := fun R κ again t => by kernel_rfl
theorem yyF : LK ymM ymN 22 Tryz.f22 1 := lkN (u := (unG ypk ybW)) (yq fun t => by kernel_rfl) yyE
theorem yyG : LF ymM ymN 22 5 Tryz.f22 0 ybX @ytx fun t => t := fun R κ again t => by kernel_rfl
theorem yyH : LK ymM ymN 22 Tryz.f22 0 := lkN (u := (unG ypl ybX)) (yq fun t => by kernel_rfl) yyG
theorem yty : LF ymM ymN 22 15 Tryz.f22 2 y8n @ykb fun t => t := fun R κ again t => by kernel_rfl
theorem ytz : LK ymM ymN 22 Tryz.f22 2 := lkN (u := (unG ypn y8n)) (yq fun t => by kernel_rfl) yty
theorem yDP : EV ymM ymN 22 Tryz.f22 yB0 qz9 ykJ Z5 := fun x => by kernel_rfl
def q22 : QF := ⟨22, Z5, okN (n := 3) Tryz.func22 ⟨yyH, yyF, ytz, trivial⟩ yDP⟩
def ja (x : List yc) : Option (List yc) :=
 if (List.length ([] : List yc) + List.length x) * 8 < 140737488355328 then some (([] : List yc) ++ x) else none
theorem yyI : EV [] lpN 120 Tryz.f120 yrh [(.sl 3 yd)] [(.sl 3 yd)] ja := fun x => by kernel_rfl
def yBL : QF := ⟨120, ja, okN (n := 0) Tryz.func120 trivial yyI⟩
abbrev K3 : Type := ykK ⊕ yfN
def Yo (k0 : Unit → Option R) (k1 : List ya → Option R) (again : K3 → Option R) : K3 → Option R
 | .inl t3 => bif (decide (t3.2.2 < t3.2.1)) then if (0 : Int) ≤ t3.2.2 then if t3.2.2 < (List.length t3.1 : Int) then Option.bind (Y7 (yp t3.1 t3.2.2)) fun r1 => if List.length ([r1] : List ya) * 24 < 140737488355328 then again (Sum.inr (t3.1, t3.2.1, (Go.IntKind.wrap .i64 (t3.2.2 + (1 : Int))), ([r1] : List ya))) else none else none else none else k0 ()
 | .inr t3 => bif (decide (t3.2.2.1 < t3.2.1)) then if (0 : Int) ≤ t3.2.2.1 then if t3.2.2.1 < (List.length t3.1 : Int) then Option.bind (Y7 (yp t3.1 t3.2.2.1)) fun r2 => if (List.length t3.2.2.2 + List.length ([r2] : List ya)) * 24 < 140737488355328 then again (Sum.inr (t3.1, t3.2.1, (Go.IntKind.wrap .i64 (t3.2.2.1 + (1 : Int))), (t3.2.2.2 ++ ([r2] : List ya)))) else none else none else none else k1 t3.2.2.2
def qu k0 k1 := zR (@Yo R k0 k1) Yd
def zH (x : List ya) : Option (List ya) :=
 qu (fun x3 => some ([] : List ya)) (fun x4 => some x4) (Sum.inl (x, (List.length x : Int), (0 : Int)))
def ygn : List QF := [yxi]
def y44 (t : ykK) : St := ⟨dd 2 (.box 2 0 :: .box 3 0 :: dd 4 (YQ t.1 :: vI t.2.1 :: vI t.2.2 :: dd 12 [])), [(2, .box [.nils]), (3, .box [.nils])]⟩
theorem yis : ∀ s t, unG yut y44 s = some t → y44 t = s := yq fun t => by kernel_rfl
def y45 (t : yfN) : St := ⟨dd 2 (.box 2 0 :: .box 3 0 :: dd 4 (YQ t.1 :: vI t.2.1 :: vI t.2.2.1 :: dd 12 [])), [(2, .box [.nils]), (3, .box [.own 10000000]), (10000000, .root true 58 yt t.2.2.2)]⟩
theorem yit : ∀ s t, unG ypo y45 s = some t → y45 t = s := yq fun t => by kernel_rfl
def y46 : (ykK ⊕ yfN) → St := Sum.elim y44 y45
def y8o (s : St) : Option (ykK ⊕ yfN) := ((unG yut y44 s).map Sum.inl).or (((unG ypo y45) s).map Sum.inr)
theorem yiu : ∀ s t, y8o s = some t → y46 t = s := y7d yis yit
def yd9 : Gk K3 := fun κ => Yo (fun t => κ (some 0) ⟨dd 2 (.box 2 0 :: .box 3 0 :: dd 19 []), [(2, .box [.nils]), (3, .box [.nils])]⟩) (fun t => κ (some 0) ⟨dd 2 (.box 2 0 :: .box 3 0 :: dd 19 []), [(2, .box [.nils]), (3, .box [.own 10000000]), (10000000, .root true 58 yt t)]⟩)
def ygo : Lp := lpC 3 y8o @yd9 lpN
theorem yiv : LF ygn ygo 121 3 Tryz.f121 0 y46 @yd9 fun v : ykK => .inl v := fun R κ again v => by kernel_rfl
theorem yiw : LF ygn ygo 121 3 Tryz.f121 0 y46 @yd9 fun v : yfN => .inr v := fun R κ again v => by kernel_rfl
theorem ytA : LF ygn ygo 121 3 Tryz.f121 0 y46 @yd9 fun t => t := (LC.sum yiv yiw)
theorem ytB : LK ygn ygo 121 Tryz.f121 0 := lkN (u := y8o) yiu ytA
theorem yyJ : EV ygn ygo 121 Tryz.f121 yri [(.sl 58 yt)] [(.sl 58 yt)] zH := fun x => by kernel_rfl
def yBM : QF := ⟨121, zH, okN (n := 1) Tryz.func121 ⟨ytB, trivial⟩ yyJ⟩
abbrev K4 : Type := yfO ⊕ yfP
def Yp (k0 : List yc → Option R) (k1 : Qz8 → Option R) (again : K4 → Option R) : K4 → Option R
 | .inl t3 => bif (decide (t3.2.2.1 < t3.2.1)) then if (0 : Int) ≤ t3.2.2.1 then if t3.2.2.1 < (List.length t3.1 : Int) then Option.bind (zH (yf t3.1 t3.2.2.1)) fun r2 => if List.length ([r2] : List y0) * 24 < 140737488355328 then again (Sum.inr (t3.1, t3.2.1, (Go.IntKind.wrap .i64 (t3.2.2.1 + (1 : Int))), t3.2.2.2, ([r2] : List y0))) else none else none else none else k0 t3.2.2.2
 | .inr t3 => bif (decide (t3.2.2.1 < t3.2.1)) then if (0 : Int) ≤ t3.2.2.1 then if t3.2.2.1 < (List.length t3.1 : Int) then Option.bind (zH (yf t3.1 t3.2.2.1)) fun r3 => if (List.length t3.2.2.2.2 + List.length ([r3] : List y0)) * 24 < 140737488355328 then again (Sum.inr (t3.1, t3.2.1, (Go.IntKind.wrap .i64 (t3.2.2.1 + (1 : Int))), t3.2.2.2.1, (t3.2.2.2.2 ++ ([r3] : List y0)))) else none else none else none else k1 t3.2.2.2
def qv k0 k1 := zR (@Yp R k0 k1) Yd
def zI (x : Qz8) : Option Qz8 :=
 Option.bind (ja x.1) fun r1 => qv (fun x4 => some (x4, ([] : List y0))) (fun x5 => some x5) (Sum.inl (x.2, (List.length x.2 : Int), (0 : Int), r1))
def ytC : List QF := [yBL, yBM]
def y8p (t : yfO) : St := ⟨dd 2 (.box 2 0 :: .box 3 0 :: dd 7 (yw t.1 :: vI t.2.1 :: vI t.2.2.1 :: dd 12 [])), [(2, .box [.nils, .nils]), (3, .box [.own 10000000, .nils]), (10000000, .root true 3 yd t.2.2.2)]⟩
theorem ymO : ∀ s t, unG ypp y8p s = some t → y8p t = s := yq fun t => by kernel_rfl
def y8q (t : yfP) : St := ⟨dd 2 (.box 2 0 :: .box 3 0 :: dd 7 (yw t.1 :: vI t.2.1 :: vI t.2.2.1 :: dd 12 [])), [(2, .box [.nils, .nils]), (3, .box [.own 10000000, .own 10000001]), (10000000, .root true 3 yd t.2.2.2.1), (10000001, .root true 99 yk t.2.2.2.2)]⟩
theorem ymP : ∀ s t, unG ypq y8q s = some t → y8q t = s := yq fun t => by kernel_rfl
def y8r : (yfO ⊕ yfP) → St := Sum.elim y8p y8q
def ybY (s : St) : Option (yfO ⊕ yfP) := ((unG ypp y8p s).map Sum.inl).or (((unG ypq y8q) s).map Sum.inr)
theorem ymQ : ∀ s t, ybY s = some t → y8r t = s := y7d ymO ymP
def yix : Gk K4 := fun κ => Yp (fun t => κ (some 0) ⟨dd 2 (.box 2 0 :: .box 3 0 :: dd 22 []), [(2, .box [.nils, .nils]), (3, .box [.own 10000000, .nils]), (10000000, .root true 3 yd t)]⟩) (fun t => κ (some 0) ⟨dd 2 (.box 2 0 :: .box 3 0 :: dd 22 []), [(2, .box [.nils, .nils]), (3, .box [.own 10000000, .own 10000001]), (10000000, .root true 3 yd t.1), (10000001, .root true 99 yk t.2)]⟩)
def ytD : Lp := lpC 3 ybY @yix lpN
theorem ymR : LF ytC ytD 79 3 Tryz.f79 0 y8r @yix fun v : yfO => .inl v := fun R κ again v => by kernel_rfl
theorem ymS : LF ytC ytD 79 3 Tryz.f79 0 y8r @yix fun v : yfP => .inr v := fun R κ again v => by kernel_rfl
theorem yyK : LF ytC ytD 79 3 Tryz.f79 0 y8r @yix fun t => t := (LC.sum ymR ymS)
theorem yyL : LK ytC ytD 79 Tryz.f79 0 := lkN (u := ybY) ymQ yyK
theorem yDQ : EV ytC ytD 79 Tryz.f79 yB1 qz8 qz8 zI := fun x => by kernel_rfl
def q79 : QF := ⟨79, zI, okN (n := 1) Tryz.func79 ⟨yyL, trivial⟩ yDQ⟩
def Z6 (x : List y9) : Option (List y9) :=
 if (List.length ([] : List y9) + List.length x) * 16 < 140737488355328 then some (([] : List y9) ++ x) else none
theorem yDR : EV [] lpN 80 Tryz.f80 yB2 [(.sl 67 yn)] [(.sl 67 yn)] Z6 := fun x => by kernel_rfl
def q80 : QF := ⟨80, Z6, okN (n := 0) Tryz.func80 trivial yDR⟩
def YI (x : List y8) : Option (List y8) :=
 if (List.length ([] : List y8) + List.length x) * 24 < 140737488355328 then some (([] : List y8) ++ x) else none
theorem yDS : EV [] lpN 81 Tryz.f81 yB3 [(.sl 53 yj)] [(.sl 53 yj)] YI := fun x => by kernel_rfl
def q81 : QF := ⟨81, YI, okN (n := 0) Tryz.func81 trivial yDS⟩
def Z7 (x : Qz9) : Option Qz9 :=
 Option.bind (zI (x.1, x.2.1)) fun r1 => Option.bind (Z6 x.2.2.1) fun r2 => Option.bind (YI x.2.2.2.1) fun r3 => if (List.length ([] : List ye) + List.length x.2.2.2.2.1) * 40 < 140737488355328 then some (r1.1, r1.2, r2, r3, (([] : List ye) ++ x.2.2.2.2.1), x.2.2.2.2.2) else none
theorem yDT : EV [q79, q80, q81] lpN 39 Tryz.f39 yB4 qz9 qz9 Z7 := fun x => by kernel_rfl
def q39 : QF := ⟨39, Z7, okN (n := 0) Tryz.func39 trivial yDT⟩
def zU (x : yuV) : Option (List y7) :=
 Option.bind (yS x.1) fun r1 => Option.bind (jt (r1, x.2)) fun r2 => Option.bind (Js r2) fun r3 => some r3
theorem yDU : EV [q63, yBH, yxg] lpN 90 Tryz.f90 yB5 yuW [(.sl 63 yh)] zU := fun x => by kernel_rfl
def q90 : QF := ⟨90, zU, okN (n := 0) Tryz.func90 trivial yDU⟩
def zD (x : List y7) : Option (List ya) :=
 bif ((List.length x : Int) == (0 : Int)) then some ([] : List ya) else Option.bind (Y7 x) fun r1 => some ([r1] : List ya)
theorem yDV : EV [yxi] lpN 93 Tryz.f93 yB6 [(.sl 63 yh)] [(.sl 58 yt)] zD := fun x => by kernel_rfl
def q93 : QF := ⟨93, zD, okN (n := 0) Tryz.func93 trivial yDV⟩
def wJ (x : yuV) : Option yzQ :=
 Option.bind (zH x.1) fun r1 => bif (decide ((Go.IntKind.wrap .i64 ((List.length x.1 : Int) - (1 : Int))) ≥ (0 : Int))) then if (0 : Int) ≤ (Go.IntKind.wrap .i64 ((List.length x.1 : Int) - (1 : Int))) then if (Go.IntKind.wrap .i64 ((List.length x.1 : Int) - (1 : Int))) < (List.length x.1 : Int) then Option.bind (Wi ((yp x.1 (Go.IntKind.wrap .i64 ((List.length x.1 : Int) - (1 : Int)))), x.2.1, x.2.2.1)) fun r2 => Option.bind (bif r2.2.2.2.2.2 then some true else if (0 : Int) ≤ (Go.IntKind.wrap .i64 ((List.length x.1 : Int) - (1 : Int))) then if (Go.IntKind.wrap .i64 ((List.length x.1 : Int) - (1 : Int))) < (List.length x.1 : Int) then some (decide (((List.length (yp x.1 (Go.IntKind.wrap .i64 ((List.length x.1 : Int) - (1 : Int)))) : Nat) : Int) < (4 : Int))) else none else none) fun u3 => bif u3 then if (0 : Int) ≤ (Go.IntKind.wrap .i64 ((List.length x.1 : Int) - (1 : Int))) then if (Go.IntKind.wrap .i64 ((List.length x.1 : Int) - (1 : Int))) < (List.length x.1 : Int) then Option.bind (jt ((yp x.1 (Go.IntKind.wrap .i64 ((List.length x.1 : Int) - (1 : Int)))), x.2.1, x.2.2.1, x.2.2.2.1, x.2.2.2.2.1, x.2.2.2.2.2)) fun r4 => if (0 : Int) ≤ (Go.IntKind.wrap .i64 ((List.length x.1 : Int) - (1 : Int))) then if (Go.IntKind.wrap .i64 ((List.length x.1 : Int) - (1 : Int))) < (List.length r1 : Int) then Option.bind (zM (List.set r1 (Int.toNat (Go.IntKind.wrap .i64 ((List.length x.1 : Int) - (1 : Int)))) r4)) fun r5 => bif r5 then some ((List.set r1 (Int.toNat (Go.IntKind.wrap .i64 ((List.length x.1 : Int) - (1 : Int)))) r4), true) else Option.bind (zU x) fun r6 => Option.bind (zD r6) fun r7 => Option.bind (bif (decide ((List.length r6 : Int) > (8 : Int))) then some true else Option.bind (zM r7) fun r9 => some (!r9)) fun u8 => bif u8 then Option.bind (zH x.1) fun r10 => some (r10, false) else some (r7, true) else none else none else none else none else if (List.length r1 + List.length ([([x.2] : List y7)] : List ya)) * 24 < 140737488355328 then Option.bind (zM (r1 ++ ([([x.2] : List y7)] : List ya))) fun r11 => bif r11 then some ((r1 ++ ([([x.2] : List y7)] : List ya)), true) else Option.bind (zU x) fun r12 => Option.bind (zD r12) fun r13 => Option.bind (bif (decide ((List.length r12 : Int) > (8 : Int))) then some true else Option.bind (zM r13) fun r15 => some (!r15)) fun u14 => bif u14 then Option.bind (zH x.1) fun r16 => some (r16, false) else some (r13, true) else none else none else none else if (List.length r1 + List.length ([([x.2] : List y7)] : List ya)) * 24 < 140737488355328 then Option.bind (zM (r1 ++ ([([x.2] : List y7)] : List ya))) fun r17 => bif r17 then some ((r1 ++ ([([x.2] : List y7)] : List ya)), true) else Option.bind (zU x) fun r18 => Option.bind (zD r18) fun r19 => Option.bind (bif (decide ((List.length r18 : Int) > (8 : Int))) then some true else Option.bind (zM r19) fun r21 => some (!r21)) fun u20 => bif u20 then Option.bind (zH x.1) fun r22 => some (r22, false) else some (r19, true) else none
theorem yDW : EV [q90, q93, q95, yBM, yBK, yxg] lpN 89 Tryz.f89 yB7 yuW yzR wJ := fun x => by kernel_rfl
def q89 : QF := ⟨89, wJ, okN (n := 0) Tryz.func89 trivial yDW⟩
def Y8 (x : yvm) : Option Qz8 :=
 if (0 : Int) ≤ (0 : Int) then if (0 : Int) ≤ x.2.2.1 then if x.2.2.1 ≤ (List.length x.1 : Int) then Option.bind (ja (List.drop (Int.toNat (0 : Int)) (List.take (Int.toNat x.2.2.1) x.1))) fun r1 => if (List.length r1 + List.length x.2.2.2.2.1) * 8 < 140737488355328 then if (0 : Int) ≤ (Go.IntKind.wrap .i64 (x.2.2.1 + x.2.2.2.1)) then if (Go.IntKind.wrap .i64 (x.2.2.1 + x.2.2.2.1)) ≤ (List.length x.1 : Int) then if (List.length x.1 : Int) ≤ (List.length x.1 : Int) then if (List.length (r1 ++ x.2.2.2.2.1) + List.length (List.drop (Int.toNat (Go.IntKind.wrap .i64 (x.2.2.1 + x.2.2.2.1))) (List.take (Int.toNat (List.length x.1 : Int)) x.1))) * 8 < 140737488355328 then if (0 : Int) ≤ (0 : Int) then if (0 : Int) ≤ x.2.2.1 then if x.2.2.1 ≤ (List.length x.2.1 : Int) then if (List.length ([] : List y0) + List.length (List.drop (Int.toNat (0 : Int)) (List.take (Int.toNat x.2.2.1) x.2.1))) * 24 < 140737488355328 then if (List.length (([] : List y0) ++ (List.drop (Int.toNat (0 : Int)) (List.take (Int.toNat x.2.2.1) x.2.1))) + List.length x.2.2.2.2.2) * 24 < 140737488355328 then if (0 : Int) ≤ (Go.IntKind.wrap .i64 (x.2.2.1 + x.2.2.2.1)) then if (Go.IntKind.wrap .i64 (x.2.2.1 + x.2.2.2.1)) ≤ (List.length x.2.1 : Int) then if (List.length x.2.1 : Int) ≤ (List.length x.2.1 : Int) then if (List.length ((([] : List y0) ++ (List.drop (Int.toNat (0 : Int)) (List.take (Int.toNat x.2.2.1) x.2.1))) ++ x.2.2.2.2.2) + List.length (List.drop (Int.toNat (Go.IntKind.wrap .i64 (x.2.2.1 + x.2.2.2.1))) (List.take (Int.toNat (List.length x.2.1 : Int)) x.2.1))) * 24 < 140737488355328 then some (((r1 ++ x.2.2.2.2.1) ++ (List.drop (Int.toNat (Go.IntKind.wrap .i64 (x.2.2.1 + x.2.2.2.1))) (List.take (Int.toNat (List.length x.1 : Int)) x.1))), (((([] : List y0) ++ (List.drop (Int.toNat (0 : Int)) (List.take (Int.toNat x.2.2.1) x.2.1))) ++ x.2.2.2.2.2) ++ (List.drop (Int.toNat (Go.IntKind.wrap .i64 (x.2.2.1 + x.2.2.2.1))) (List.take (Int.toNat (List.length x.2.1 : Int)) x.2.1)))) else none else none else none else none else none else none else none else none else none else none else none else none else none else none else none else none else none
theorem yDX : EV [yBL] lpN 91 Tryz.f91 yB8 yvn qz8 Y8 := fun x => by kernel_rfl
def q91 : QF := ⟨91, Y8, okN (n := 0) Tryz.func91 trivial yDX⟩
abbrev Vb : Type := yaU ⊕ yaU
def Vc (k0 : Qz8 → Option R) (k1 : Qz8 → Option R) (again : Vb → Option R) : Vb → Option R
 | .inl t2 => bif (decide ((Go.IntKind.wrap .i64 (t2.1 + (1 : Int))) < (List.length t2.2.2 : Int))) then if (0 : Int) ≤ t2.1 then if t2.1 < (List.length t2.2.2 : Int) then Option.bind (yS (yf t2.2.2 t2.1)) fun r1 => if (0 : Int) ≤ (Go.IntKind.wrap .i64 (t2.1 + (1 : Int))) then if (Go.IntKind.wrap .i64 (t2.1 + (1 : Int))) < (List.length t2.2.2 : Int) then Option.bind (yS (yf t2.2.2 (Go.IntKind.wrap .i64 (t2.1 + (1 : Int))))) fun r2 => if (List.length r1 + List.length r2) * 40 < 140737488355328 then bif (decide ((List.length (r1 ++ r2) : Int) ≤ (6 : Int))) then if (0 : Int) ≤ t2.1 then if t2.1 < (List.length t2.2.1 : Int) then Option.bind (zD (r1 ++ r2)) fun r3 => Option.bind (Y8 (t2.2.1, t2.2.2, t2.1, (2 : Int), ([(zu t2.2.1 t2.1)] : List yc), ([r3] : List y0))) fun r4 => again (Sum.inr ((Go.IntKind.wrap .i64 ((-1 : Int) + (1 : Int))), r4.1, r4.2)) else none else none else again (Sum.inl ((Go.IntKind.wrap .i64 (t2.1 + (1 : Int))), t2.2.1, t2.2.2)) else none else none else none else none else none else k0 t2.2
 | .inr t2 => bif (decide ((Go.IntKind.wrap .i64 (t2.1 + (1 : Int))) < (List.length t2.2.2 : Int))) then if (0 : Int) ≤ t2.1 then if t2.1 < (List.length t2.2.2 : Int) then Option.bind (yS (yf t2.2.2 t2.1)) fun r5 => if (0 : Int) ≤ (Go.IntKind.wrap .i64 (t2.1 + (1 : Int))) then if (Go.IntKind.wrap .i64 (t2.1 + (1 : Int))) < (List.length t2.2.2 : Int) then Option.bind (yS (yf t2.2.2 (Go.IntKind.wrap .i64 (t2.1 + (1 : Int))))) fun r6 => if (List.length r5 + List.length r6) * 40 < 140737488355328 then bif (decide ((List.length (r5 ++ r6) : Int) ≤ (6 : Int))) then if (0 : Int) ≤ t2.1 then if t2.1 < (List.length t2.2.1 : Int) then Option.bind (zD (r5 ++ r6)) fun r7 => Option.bind (Y8 (t2.2.1, t2.2.2, t2.1, (2 : Int), ([(zu t2.2.1 t2.1)] : List yc), ([r7] : List y0))) fun r8 => again (Sum.inr ((Go.IntKind.wrap .i64 ((-1 : Int) + (1 : Int))), r8.1, r8.2)) else none else none else again (Sum.inr ((Go.IntKind.wrap .i64 (t2.1 + (1 : Int))), t2.2.1, t2.2.2)) else none else none else none else none else none else k1 t2.2
def y0d k0 k1 := zR (@Vc R k0 k1) Yd
def Zw (x : Qz8) : Option Qz8 :=
 y0d (fun x9 => some x9) (fun x10 => some x10) (Sum.inl ((0 : Int), x.1, x.2))
def ytE : List QF := [q63, q91, q93]
def y8s (t : yaU) : St := ⟨.dead :: .box 1 0 :: .box 2 0 :: vI t.1 :: dd 39 [], [(1, .box [z3 t.2.1, yw t.2.2]), (2, .box [.nils, .nils])]⟩
theorem ymT : ∀ s t, unG yhk y8s s = some t → y8s t = s := yq fun t => by kernel_rfl
def y8t (t : yaU) : St := ⟨.dead :: .box 1 0 :: .box 2 0 :: vI t.1 :: dd 39 [], [(1, .box [.own 10000000, .own 10000001]), (2, .box [.nils, .nils]), (10000000, .root true 3 yd t.2.1), (10000001, .root true 99 yk t.2.2)]⟩
theorem ymU : ∀ s t, unG yhk y8t s = some t → y8t t = s := yq fun t => by kernel_rfl
def y8u : (yaU ⊕ yaU) → St := Sum.elim y8s y8t
def ybZ (s : St) : Option (yaU ⊕ yaU) := ((unG yhk y8s s).map Sum.inl).or (((unG yhk y8t) s).map Sum.inr)
theorem ymV : ∀ s t, ybZ s = some t → y8u t = s := y7d ymT ymU
def yiy : Gk Vb := fun κ => Vc (fun t => κ (some 0) ⟨.dead :: .box 1 0 :: .box 2 0 :: dd 40 [], [(1, .box [z3 t.1, yw t.2]), (2, .box [.nils, .nils])]⟩) (fun t => κ (some 0) ⟨.dead :: .box 1 0 :: .box 2 0 :: dd 40 [], [(1, .box [.own 10000000, .own 10000001]), (2, .box [.nils, .nils]), (10000000, .root true 3 yd t.1), (10000001, .root true 99 yk t.2)]⟩)
def ytF : Lp := lpC 2 ybZ @yiy lpN
theorem ymW : LF ytE ytF 94 2 Tryz.f94 0 y8u @yiy fun v : yaU => .inl v := fun R κ again v => by kernel_rfl
theorem ymX : LF ytE ytF 94 2 Tryz.f94 0 y8u @yiy fun v : yaU => .inr v := fun R κ again v => by kernel_rfl
theorem yyM : LF ytE ytF 94 2 Tryz.f94 0 y8u @yiy fun t => t := (LC.sum ymW ymX)
theorem yyN : LK ytE ytF 94 Tryz.f94 0 := lkN (u := ybZ) ymV yyM
theorem yDY : EV ytE ytF 94 Tryz.f94 yB9 qz8 qz8 Zw := fun x => by kernel_rfl
def q94 : QF := ⟨94, Zw, okN (n := 1) Tryz.func94 ⟨yyN, trivial⟩ yDY⟩
def ZJ (x : yzS) : Option yzU :=
 Option.bind (Yu (x.1, x.2.1)) fun r1 => Option.bind (bif (!r1) then some true else Option.bind (Wh x.2.2) fun r3 => some (!r3)) fun u2 => bif u2 then Option.bind (zI (x.1, x.2.1)) fun r4 => some (r4.1, r4.2, false) else Option.bind (jZ (x.1, x.2.1, x.2.2.1, x.2.2.2.1)) fun r5 => Option.bind (zI (x.1, x.2.1)) fun r6 => if (0 : Int) ≤ r5 then if r5 < (List.length r6.2 : Int) then Option.bind (wJ ((yf r6.2 r5), x.2.2.1, x.2.2.2.1, x.2.2.2.2.1, x.2.2.2.2.2.1, x.2.2.2.2.2.2)) fun r7 => bif (!r7.2) then if (0 : Int) ≤ r5 then if r5 < (List.length r6.2 : Int) then Option.bind (zU ((yf r6.2 r5), x.2.2.1, x.2.2.2.1, x.2.2.2.2.1, x.2.2.2.2.2.1, x.2.2.2.2.2.2)) fun r8 => if (0 : Int) ≤ (Go.IntKind.wrap .i64 (Int.tdiv (Go.IntKind.wrap .i64 ((List.length r8 : Int) + (1 : Int))) (2 : Int))) then if (Go.IntKind.wrap .i64 (Int.tdiv (Go.IntKind.wrap .i64 ((List.length r8 : Int) + (1 : Int))) (2 : Int))) < (List.length r8 : Int) then if (0 : Int) ≤ r5 then if r5 < (List.length x.1 : Int) then Option.bind (Zt ((y6 r8 (Go.IntKind.wrap .i64 (Int.tdiv (Go.IntKind.wrap .i64 ((List.length r8 : Int) + (1 : Int))) (2 : Int)))).1, (y6 r8 (Go.IntKind.wrap .i64 (Int.tdiv (Go.IntKind.wrap .i64 ((List.length r8 : Int) + (1 : Int))) (2 : Int)))).2.1)) fun r9 => if (0 : Int) ≤ (0 : Int) then if (0 : Int) ≤ (Go.IntKind.wrap .i64 (Int.tdiv (Go.IntKind.wrap .i64 ((List.length r8 : Int) + (1 : Int))) (2 : Int))) then if (Go.IntKind.wrap .i64 (Int.tdiv (Go.IntKind.wrap .i64 ((List.length r8 : Int) + (1 : Int))) (2 : Int))) ≤ (List.length r8 : Int) then Option.bind (zD (List.drop (Int.toNat (0 : Int)) (List.take (Int.toNat (Go.IntKind.wrap .i64 (Int.tdiv (Go.IntKind.wrap .i64 ((List.length r8 : Int) + (1 : Int))) (2 : Int)))) r8))) fun r10 => if (0 : Int) ≤ (Go.IntKind.wrap .i64 (Int.tdiv (Go.IntKind.wrap .i64 ((List.length r8 : Int) + (1 : Int))) (2 : Int))) then if (Go.IntKind.wrap .i64 (Int.tdiv (Go.IntKind.wrap .i64 ((List.length r8 : Int) + (1 : Int))) (2 : Int))) ≤ (List.length r8 : Int) then if (List.length r8 : Int) ≤ (List.length r8 : Int) then Option.bind (zD (List.drop (Int.toNat (Go.IntKind.wrap .i64 (Int.tdiv (Go.IntKind.wrap .i64 ((List.length r8 : Int) + (1 : Int))) (2 : Int)))) (List.take (Int.toNat (List.length r8 : Int)) r8))) fun r11 => Option.bind (Y8 (r6.1, r6.2, r5, (1 : Int), ([(zu x.1 r5), r9] : List yc), ([r10, r11] : List y0))) fun r12 => Option.bind (Zw r12) fun r13 => Option.bind (Yu r13) fun r14 => bif (!r14) then Option.bind (zI (x.1, x.2.1)) fun r15 => some (r15.1, r15.2, false) else some (r13.1, r13.2, true) else none else none else none else none else none else none else none else none else none else none else none else none else Option.bind (bif (decide (r5 > (0 : Int))) then Option.bind (yS r7.1) fun r17 => some ((List.length r17 : Int) == (0 : Int)) else some false) fun u16 => bif u16 then Option.bind (Y8 (r6.1, r6.2, r5, (1 : Int), ([] : List yc), ([] : List y0))) fun r18 => Option.bind (Zw r18) fun r19 => Option.bind (Yu r19) fun r20 => bif (!r20) then Option.bind (zI (x.1, x.2.1)) fun r21 => some (r21.1, r21.2, false) else some (r19.1, r19.2, true) else if (0 : Int) ≤ r5 then if r5 < (List.length r6.2 : Int) then Option.bind (Zw (r6.1, (List.set r6.2 (Int.toNat r5) r7.1))) fun r22 => Option.bind (Yu r22) fun r23 => bif (!r23) then Option.bind (zI (x.1, x.2.1)) fun r24 => some (r24.1, r24.2, false) else some (r22.1, r22.2, true) else none else none else none else none
theorem yDZ : EV [q53, q63, q79, q87, q88, q89, q90, q91, q92, q93, q94] lpN 50 Tryz.f50 yBa yzT yzV ZJ := fun x => by kernel_rfl
def q50 : QF := ⟨50, ZJ, okN (n := 0) Tryz.func50 trivial yDZ⟩
def JE (x : ynY) : Option (List y8) :=
 Option.bind (YI x.1) fun r1 => Option.bind (jY x.1) fun r2 => Option.bind (bif (!r2) then some true else Option.bind (yM (x.2, (0 : Int), (23 : Int))) fun r4 => some (!r4)) fun u3 => Option.bind (bif u3 then some true else if (0 : Int) ≤ x.2 then if x.2 < (List.length x.1 : Int) then some (!((yG x.1 x.2).2.1)) else none else none) fun u5 => bif u5 then some r1 else if (0 : Int) ≤ x.2 then if x.2 < (List.length x.1 : Int) then if (0 : Int) ≤ x.2 then if x.2 < (List.length r1 : Int) then some (List.set r1 (Int.toNat x.2) ((Int.tmod (Go.IntKind.wrap .i64 ((yG x.1 x.2).1 + (1 : Int))) (1000 : Int)), false, (0 : Int))) else none else none else none else none
theorem yE0 : EV [q47, q55, q81] lpN 51 Tryz.f51 yBb ynZ [(.sl 53 yj)] JE := fun x => by kernel_rfl
def q51 : QF := ⟨51, JE, okN (n := 0) Tryz.func51 trivial yE0⟩
def Y9 (x : ynx) : Option yi4 :=
 Option.bind (w7 (x.1, x.2.1, x.2.2.2.2.2.2.1, x.2.2.2.2.2.2.2.1)) fun r1 => Option.bind (ZJ (x.1, x.2.1, x.2.2.2.2.2.2)) fun r2 => Option.bind (bif r2.2.2 then some r1.2.2.2.2.2 else some false) fun u3 => Option.bind (bif u3 then some (r1.2.2.1 == (1 : Int)) else some false) fun u4 => bif u4 then Option.bind (JE (x.2.2.2.1, r1.2.2.2.1)) fun r5 => some (r2.2.2, r2.1, r2.2.1, x.2.2.1, r5, x.2.2.2.2.1, x.2.2.2.2.2.1) else some (r2.2.2, r2.1, r2.2.1, x.2.2.1, x.2.2.2.1, x.2.2.2.2.1, x.2.2.2.2.2.1)
theorem yE1 : EV [q50, q51, q82] lpN 41 Tryz.f41 yBc yny yo0 Y9 := fun x => by kernel_rfl
def q41 : QF := ⟨41, Y9, okN (n := 0) Tryz.func41 trivial yE1⟩
abbrev Vd : Type := ypr
def km (k0 : yvo → Option R) (again : Vd → Option R) (t6 : Vd) : Option R :=
 bif (decide (t6.2.2.2.2.1 < t6.2.2.2.1)) then if (0 : Int) ≤ t6.2.2.2.2.1 then if t6.2.2.2.2.1 < (List.length t6.2.2.2.2.2 : Int) then bif ((yA t6.2.2.2.2.2 t6.2.2.2.2.1).2 == t6.2.1) then if (0 : Int) ≤ t6.2.2.1 then if t6.2.2.1 < (List.length t6.1 : Int) then if (0 : Int) ≤ t6.2.2.2.2.1 then if t6.2.2.2.2.1 < (List.length t6.2.2.2.2.2 : Int) then again (t6.1, t6.2.1, t6.2.2.1, t6.2.2.2.1, (Go.IntKind.wrap .i64 (t6.2.2.2.2.1 + (1 : Int))), (List.set t6.2.2.2.2.2 (Int.toNat t6.2.2.2.2.1) ((yA t6.2.2.2.2.2 t6.2.2.2.2.1).1, (yA t6.1 t6.2.2.1).2))) else none else none else none else none else again (t6.1, t6.2.1, t6.2.2.1, t6.2.2.2.1, (Go.IntKind.wrap .i64 (t6.2.2.2.2.1 + (1 : Int))), t6.2.2.2.2.2) else none else none else k0 (t6.2.2.1, t6.2.2.2.2.2)
def y0e k0 := zR (@km R k0) Yd
def kn (x : yfF) : Option ynX :=
 Option.bind (YY x) fun r1 => Option.bind (Z6 x.1) fun r2 => Option.bind (bif (decide (r1 < (0 : Int))) then some true else Option.bind (w6 x.1) fun r4 => some (!r4)) fun u3 => bif u3 then some (r2, false) else y0e (fun x5 => Option.bind (zX (x5.2, x5.1, (Go.IntKind.wrap .i64 (x5.1 + (1 : Int))))) fun r6 => some (r6, true)) (x.1, x.2, r1, (List.length r2 : Int), (0 : Int), r2)
def ymY : List QF := [q54, q80, q97, yCd]
def y8v (t : ypr) : St := ⟨zd t.1 :: vI t.2.1 :: dd 4 (vI t.2.2.1 :: .own 10000000 :: dd 15 (vI t.2.2.2.1 :: vI t.2.2.2.2.1 :: dd 24 [])), [(10000000, .root true 67 yn t.2.2.2.2.2)]⟩
def ykc : Gk Vd := fun κ => km (fun t => κ (some 0) ⟨dd 6 (vI t.1 :: .own 10000000 :: dd 41 []), [(10000000, .root true 67 yn t.2)]⟩)
def ymZ : Lp := lpC 6 (unG yps y8v) @ykc lpN
theorem ytG : LF ymY ymZ 100 6 Tryz.f100 0 y8v @ykc fun t => t := fun R κ again t => by kernel_rfl
theorem ytH : LK ymY ymZ 100 Tryz.f100 0 := lkN (u := (unG yps y8v)) (yq fun t => by kernel_rfl) ytG
theorem yyO : EV ymY ymZ 100 Tryz.f100 yrj yfG yuQ kn := fun x => by kernel_rfl
def yE2 : QF := ⟨100, kn, okN (n := 1) Tryz.func100 ⟨ytH, trivial⟩ yyO⟩
def Zx (x : yuZ) : Option yi4 :=
 bif (x.2.2.2.2.2.2.1 == (4 : Int)) then if (0 : Int) ≤ x.2.2.2.2.2.2.2 then if x.2.2.2.2.2.2.2 < (List.length x.2.2.1 : Int) then Option.bind (kn (x.2.2.1, (yA x.2.2.1 x.2.2.2.2.2.2.2).1)) fun r1 => some (r1.2, x.1, x.2.1, r1.1, x.2.2.2.1, x.2.2.2.2.1, x.2.2.2.2.2.1) else none else none else Option.bind (yT (x.1, x.2.1)) fun r2 => if (0 : Int) ≤ x.2.2.2.2.2.2.2 then if x.2.2.2.2.2.2.2 < (List.length r2 : Int) then bif (x.2.2.2.2.2.2.1 != (3 : Int)) then Option.bind (Y9 (x.1, x.2.1, x.2.2.1, x.2.2.2.1, x.2.2.2.2.1, x.2.2.2.2.2.1, (y6 r2 x.2.2.2.2.2.2.2).1, (y6 r2 x.2.2.2.2.2.2.2).2.1, (0 : Int), (0 : Int), (0 : Int))) fun r3 => some r3 else Option.bind (Yv (x.2.2.1, (y6 r2 x.2.2.2.2.2.2.2).2.1)) fun r4 => if (0 : Int) ≤ (0 : Int) then if (0 : Int) < (List.length r4 : Int) then Option.bind (ZJ (x.1, x.2.1, (y6 r2 x.2.2.2.2.2.2.2).1, (y6 r2 x.2.2.2.2.2.2.2).2.1, (0 : Int), (0 : Int), (0 : Int))) fun r5 => bif (!r5.2.2) then some (false, x.1, x.2.1, x.2.2.1, x.2.2.2.1, x.2.2.2.2.1, x.2.2.2.2.2.1) else Option.bind (ZJ (r5.1, r5.2.1, (y6 r2 x.2.2.2.2.2.2.2).1, (zu r4 (0 : Int)), (y6 r2 x.2.2.2.2.2.2.2).2.2.1, (y6 r2 x.2.2.2.2.2.2.2).2.2.2.1, (y6 r2 x.2.2.2.2.2.2.2).2.2.2.2)) fun r6 => some (r6.2.2, r6.1, r6.2.1, x.2.2.1, x.2.2.2.1, x.2.2.2.2.1, x.2.2.2.2.2.1) else none else none else none else none
theorem yE3 : EV [q23, q28, q41, q50, yE2] lpN 60 Tryz.f60 yBd yv0 yo0 Zx := fun x => by kernel_rfl
def q60 : QF := ⟨60, Zx, okN (n := 0) Tryz.func60 trivial yE3⟩
def Yg (x : Qz9) : Option yfH :=
 Option.bind (Z5 x) fun r1 => Option.bind (Z7 x) fun r2 => bif (r1.1 == (0 : Int)) then some (r2.1, r2.2.1, r2.2.2.1, r2.2.2.2.1, r2.2.2.2.2.1, r2.2.2.2.2.2, false) else Option.bind (Zx (r2.1, r2.2.1, r2.2.2.1, r2.2.2.2.1, r2.2.2.2.2.1, r2.2.2.2.2.2, r1)) fun r3 => Option.bind (bif (!r3.1) then some true else Option.bind (Yw r3.2) fun r5 => some (!r5)) fun u4 => bif u4 then Option.bind (Z7 x) fun r6 => some (r6.1, r6.2.1, r6.2.2.1, r6.2.2.2.1, r6.2.2.2.2.1, r6.2.2.2.2.2, false) else some (r3.2.1, r3.2.2.1, r3.2.2.2.1, r3.2.2.2.2.1, r3.2.2.2.2.2.1, r3.2.2.2.2.2.2, true)
theorem yE4 : EV [q19, q22, q39, q60] lpN 21 Tryz.f21 yBe qz9 yfI Yg := fun x => by kernel_rfl
def q21 : QF := ⟨21, Yg, okN (n := 0) Tryz.func21 trivial yE4⟩
abbrev Km : Type := yfQ ⊕ yfR
def wK (k0 : ykR → Option R) (k1 : yvp → Option R) (k2 : yvq → Option R) (again : Km → Option R) : Km → Option R
 | .inl t3 => bif (decide (t3.1 < (1000 : Int))) then Option.bind (Yg (t3.2.2.2.1, t3.2.2.2.2.1, t3.2.2.2.2.2.1, t3.2.2.2.2.2.2.1, t3.2.2.2.2.2.2.2, t3.2.2.1)) fun r2 => bif (!r2.2.2.2.2.2.2) then k0 (t3.1, t3.2.2.2.1, t3.2.2.2.2.1, t3.2.2.2.2.2.1, t3.2.2.2.2.2.2.1, t3.2.2.2.2.2.2.2, t3.2.2.1, t3.2.2.2.1, t3.2.2.2.2.1, t3.2.2.2.2.2.1, t3.2.2.2.2.2.2.1, t3.2.2.2.2.2.2.2, t3.2.2.1) else again (Sum.inr ((Go.IntKind.wrap .i64 (t3.1 + (1 : Int))), t3.2.1, r2.1, r2.2.1, r2.2.2.1, r2.2.2.2.1, r2.2.2.2.2.2.1, r2.2.2.2.2.1)) else k1 t3.2
 | .inr t3 => bif (decide (t3.1 < (1000 : Int))) then Option.bind (Yg (t3.2.2.1, t3.2.2.2.1, t3.2.2.2.2.1, t3.2.2.2.2.2.1, t3.2.2.2.2.2.2.2, t3.2.2.2.2.2.2.1)) fun r3 => bif (!r3.2.2.2.2.2.2) then k0 (t3.1, t3.2.2.1, t3.2.2.2.1, t3.2.2.2.2.1, t3.2.2.2.2.2.1, t3.2.2.2.2.2.2.2, t3.2.2.2.2.2.2.1, t3.2.2.1, t3.2.2.2.1, t3.2.2.2.2.1, t3.2.2.2.2.2.1, t3.2.2.2.2.2.2.2, t3.2.2.2.2.2.2.1) else again (Sum.inr ((Go.IntKind.wrap .i64 (t3.1 + (1 : Int))), t3.2.1, r3.1, r3.2.1, r3.2.2.1, r3.2.2.2.1, r3.2.2.2.2.2.1, r3.2.2.2.2.1)) else k2 t3.2
def y1f k0 k1 k2 := zR (@wK R k0 k1 k2) Yd
def Wj (x : Qz9) : Option yaV :=
 Option.bind (Z7 x) fun r1 => y1f (fun x4 => some (x4.2.1, x4.2.2.1, x4.2.2.2.1, x4.2.2.2.2.1, x4.2.2.2.2.2.1, x4.2.2.2.2.2.2.1, x4.1)) (fun x5 => some (x5.2.2.1, x5.2.2.2.1, x5.2.2.2.2.1, x5.2.2.2.2.2.1, x5.2.2.2.2.2.2, x5.2.1, (1000 : Int))) (fun x6 => some (x6.2.1, x6.2.2.1, x6.2.2.2.1, x6.2.2.2.2.1, x6.2.2.2.2.2.2, x6.2.2.2.2.2.1, (1000 : Int))) (Sum.inl ((0 : Int), (0 : Int), r1.2.2.2.2.2, r1.1, r1.2.1, r1.2.2.1, r1.2.2.2.1, r1.2.2.2.2.1))
def ytI : List QF := [q21, q39]
def y8w (t : yfQ) : St := ⟨dd 2 (.box 2 0 :: .dead :: .box 4 0 :: dd 5 (vI t.1 :: dd 14 [])), [(2, .box [.nils, .nils, .nils, .nils, .nils, vI t.2.1]), (4, .box [.own 10000000, .own 10000001, .own 10000002, .own 10000003, .own 10000004, vI t.2.2.1]), (10000000, .root true 3 yd t.2.2.2.1), (10000001, .root true 99 yk t.2.2.2.2.1), (10000002, .root true 67 yn t.2.2.2.2.2.1), (10000003, .root true 53 yj t.2.2.2.2.2.2.1), (10000004, .root true 41 yI t.2.2.2.2.2.2.2)]⟩
theorem yn0 : ∀ s t, unG ypt y8w s = some t → y8w t = s := yq fun t => by kernel_rfl
def y8x (t : yfR) : St := ⟨dd 2 (.box 2 0 :: .dead :: .box 4 0 :: dd 5 (vI t.1 :: dd 14 [])), [(2, .box [.nils, .nils, .nils, .nils, .nils, vI t.2.1]), (4, .box [z3 t.2.2.1, yw t.2.2.2.1, zd t.2.2.2.2.1, yK t.2.2.2.2.2.1, .own 10000000, vI t.2.2.2.2.2.2.1]), (10000000, .root true 41 yI t.2.2.2.2.2.2.2)]⟩
theorem yn1 : ∀ s t, unG ypu y8x s = some t → y8x t = s := yq fun t => by kernel_rfl
def y8y : (yfQ ⊕ yfR) → St := Sum.elim y8w y8x
def yc0 (s : St) : Option (yfQ ⊕ yfR) := ((unG ypt y8w s).map Sum.inl).or (((unG ypu y8x) s).map Sum.inr)
theorem yn2 : ∀ s t, yc0 s = some t → y8y t = s := y7d yn0 yn1
def yiz : Gk Km := fun κ => wK (fun t => κ none ⟨dd 2 (.box 2 0 :: vI t.1 :: .box 4 0 :: dd 20 []), [(2, .box [z3 t.2.1, yw t.2.2.1, zd t.2.2.2.1, yK t.2.2.2.2.1, zC t.2.2.2.2.2.1, vI t.2.2.2.2.2.2.1]), (4, .box [z3 t.2.2.2.2.2.2.2.1, yw t.2.2.2.2.2.2.2.2.1, zd t.2.2.2.2.2.2.2.2.2.1, yK t.2.2.2.2.2.2.2.2.2.2.1, zC t.2.2.2.2.2.2.2.2.2.2.2.1, vI t.2.2.2.2.2.2.2.2.2.2.2.2])]⟩) (fun t => κ (some 0) ⟨dd 2 (.box 2 0 :: .dead :: .box 4 0 :: dd 20 []), [(2, .box [.nils, .nils, .nils, .nils, .nils, vI t.1]), (4, .box [.own 10000000, .own 10000001, .own 10000002, .own 10000003, .own 10000004, vI t.2.1]), (10000000, .root true 3 yd t.2.2.1), (10000001, .root true 99 yk t.2.2.2.1), (10000002, .root true 67 yn t.2.2.2.2.1), (10000003, .root true 53 yj t.2.2.2.2.2.1), (10000004, .root true 41 yI t.2.2.2.2.2.2)]⟩) (fun t => κ (some 0) ⟨dd 2 (.box 2 0 :: .dead :: .box 4 0 :: dd 20 []), [(2, .box [.nils, .nils, .nils, .nils, .nils, vI t.1]), (4, .box [z3 t.2.1, yw t.2.2.1, zd t.2.2.2.1, yK t.2.2.2.2.1, .own 10000000, vI t.2.2.2.2.2.1]), (10000000, .root true 41 yI t.2.2.2.2.2.2)]⟩)
def ytJ : Lp := lpC 3 yc0 @yiz lpN
theorem yn3 : LF ytI ytJ 64 3 Tryz.f64 0 y8y @yiz fun v : yfQ => .inl v := fun R κ again v => by kernel_rfl
theorem yn4 : LF ytI ytJ 64 3 Tryz.f64 0 y8y @yiz fun v : yfR => .inr v := fun R κ again v => by kernel_rfl
theorem yyP : LF ytI ytJ 64 3 Tryz.f64 0 y8y @yiz fun t => t := (LC.sum yn3 yn4)
theorem yyQ : LK ytI ytJ 64 Tryz.f64 0 := lkN (u := yc0) yn2 yyP
theorem yE5 : EV ytI ytJ 64 Tryz.f64 yBf qz9 yaW Wj := fun x => by kernel_rfl
def q64 : QF := ⟨64, Wj, okN (n := 1) Tryz.func64 ⟨yyQ, trivial⟩ yE5⟩
def JF (x : Qz9) : Option Qz9 :=
 Option.bind (Wj x) fun r1 => some (r1.1, r1.2.1, r1.2.2.1, r1.2.2.2.1, r1.2.2.2.2.1, r1.2.2.2.2.2.1)
theorem yE6 : EV [q64] lpN 24 Tryz.f24 yBg qz9 qz9 JF := fun x => by kernel_rfl
def q24 : QF := ⟨24, JF, okN (n := 0) Tryz.func24 trivial yE6⟩
def Yh (x : Qz9) : Option Int :=
 Option.bind (Wj x) fun r1 => some r1.2.2.2.2.2.2
theorem yE7 : EV [q64] lpN 25 Tryz.f25 yBh qz9 [(.int .i64)] Yh := fun x => by kernel_rfl
def q25 : QF := ⟨25, Yh, okN (n := 0) Tryz.func25 trivial yE7⟩
def KB (x : Qz9) : Option Int :=
 Option.bind (yT (x.1, x.2.1)) fun r1 => some (Go.IntKind.wrap .i64 ((Go.IntKind.wrap .i64 ((List.length r1 : Int) * (Go.IntKind.wrap .i64 ((List.length x.2.2.1 : Int) + (1 : Int))))) + (List.length x.2.2.1 : Int)))
theorem yE8 : EV [q23] lpN 29 Tryz.f29 yBi qz9 [(.int .i64)] KB := fun x => by kernel_rfl
def q29 : QF := ⟨29, KB, okN (n := 0) Tryz.func29 trivial yE8⟩
abbrev K5 : Type := yo1
def jb (k0 : Int → Option R) (again : K5 → Option R) (t3 : K5) : Option R :=
 bif (decide (t3.2.2.1 < t3.2.1)) then if (0 : Int) ≤ t3.2.2.1 then if t3.2.2.1 < (List.length t3.2.2.2.2.2.2.2.2.2 : Int) then Option.bind (bif ((y6 t3.2.2.2.2.2.2.2.2.2 t3.2.2.1).2.2.1 == (1 : Int)) then Option.bind (Yf (t3.2.2.2.1, t3.2.2.2.2.1, t3.2.2.2.2.2.1, t3.2.2.2.2.2.2.1, t3.2.2.2.2.2.2.2.1, t3.2.2.2.2.2.2.2.2.1, (y6 t3.2.2.2.2.2.2.2.2.2 t3.2.2.1).1, (y6 t3.2.2.2.2.2.2.2.2.2 t3.2.2.1).2.1, (y6 t3.2.2.2.2.2.2.2.2.2 t3.2.2.1).2.2.1, (y6 t3.2.2.2.2.2.2.2.2.2 t3.2.2.1).2.2.2.1, (y6 t3.2.2.2.2.2.2.2.2.2 t3.2.2.1).2.2.2.2)) fun r3 => some r3 else some false) fun u2 => bif u2 then again ((Go.IntKind.wrap .i64 (t3.1 + (1 : Int))), t3.2.1, (Go.IntKind.wrap .i64 (t3.2.2.1 + (1 : Int))), t3.2.2.2.1, t3.2.2.2.2.1, t3.2.2.2.2.2.1, t3.2.2.2.2.2.2.1, t3.2.2.2.2.2.2.2.1, t3.2.2.2.2.2.2.2.2.1, t3.2.2.2.2.2.2.2.2.2) else again (t3.1, t3.2.1, (Go.IntKind.wrap .i64 (t3.2.2.1 + (1 : Int))), t3.2.2.2.1, t3.2.2.2.2.1, t3.2.2.2.2.2.1, t3.2.2.2.2.2.2.1, t3.2.2.2.2.2.2.2.1, t3.2.2.2.2.2.2.2.2.1, t3.2.2.2.2.2.2.2.2.2) else none else none else k0 t3.1
def qw k0 := zR (@jb R k0) Yd
def zV (x : Qz9) : Option Int :=
 Option.bind (yT (x.1, x.2.1)) fun r1 => qw (fun x4 => some x4) ((0 : Int), (List.length r1 : Int), (0 : Int), x.1, x.2.1, x.2.2.1, x.2.2.2.1, x.2.2.2.2.1, x.2.2.2.2.2, r1)
def yyR : List QF := [q23, q26]
def yc1 (t : yo1) : St := ⟨.dead :: .box 1 0 :: .dead :: vI t.1 :: dd 4 (.own 10000000 :: vI t.2.1 :: vI t.2.2.1 :: dd 15 []), [(1, .box [z3 t.2.2.2.1, yw t.2.2.2.2.1, zd t.2.2.2.2.2.1, yK t.2.2.2.2.2.2.1, zC t.2.2.2.2.2.2.2.1, vI t.2.2.2.2.2.2.2.2.1]), (10000000, .root true 63 yh t.2.2.2.2.2.2.2.2.2)]⟩
def ytK : Gk K5 := fun κ => jb (fun t => κ (some 0) ⟨dd 3 (vI t :: dd 22 []), []⟩)
def yyS : Lp := lpC 3 (unG yuj yc1) @ytK lpN
theorem yyT : LF yyR yyS 31 3 Tryz.f31 0 yc1 @ytK fun t => t := fun R κ again t => by kernel_rfl
theorem yyU : LK yyR yyS 31 Tryz.f31 0 := lkN (u := (unG yuj yc1)) (yq fun t => by kernel_rfl) yyT
theorem yE9 : EV yyR yyS 31 Tryz.f31 yBj qz9 [(.int .i64)] zV := fun x => by kernel_rfl
def q31 : QF := ⟨31, zV, okN (n := 1) Tryz.func31 ⟨yyU, trivial⟩ yE9⟩
def ko (x : Qz9) : Option Bool :=
 Option.bind (Z5 x) fun r1 => Option.bind (Yw x) fun r2 => Option.bind (bif r2 then some (r1.1 == (0 : Int)) else some false) fun u3 => Option.bind (bif u3 then Option.bind (YH x.2.2.2.1) fun r5 => Option.bind (zV x) fun r6 => some (r5 == r6) else some false) fun u4 => some u4
theorem yEa : EV [q18, q19, q22, q31] lpN 30 Tryz.f30 yBk qz9 [.bool] ko := fun x => by kernel_rfl
def q30 : QF := ⟨30, ko, okN (n := 0) Tryz.func30 trivial yEa⟩
abbrev kp : Type := ypv
def kq (k0 : ypx → Option R) (k1 : ykR → Option R) (again : kp → Option R) (t8 : kp) : Option R :=
 bif (decide (t8.2.1 < (List.length t8.2.2.2.2.2.2.2.2.2.2.2.2.2.2 : Int))) then if (0 : Int) ≤ t8.2.1 then if t8.2.1 < (List.length t8.2.2.2.2.2.2.2.2.2.2.2.2.2.2 : Int) then Option.bind (Yf (t8.2.2.2.2.2.2.2.2.1, t8.2.2.2.2.2.2.2.2.2.1, t8.2.2.2.2.2.2.2.2.2.2.1, t8.2.2.2.2.2.2.2.2.2.2.2.1, t8.2.2.2.2.2.2.2.2.2.2.2.2.1, t8.2.2.2.2.2.2.2.2.2.2.2.2.2.1, (y6 t8.2.2.2.2.2.2.2.2.2.2.2.2.2.2 t8.2.1).1, (y6 t8.2.2.2.2.2.2.2.2.2.2.2.2.2.2 t8.2.1).2.1, (y6 t8.2.2.2.2.2.2.2.2.2.2.2.2.2.2 t8.2.1).2.2.1, (y6 t8.2.2.2.2.2.2.2.2.2.2.2.2.2.2 t8.2.1).2.2.2.1, (y6 t8.2.2.2.2.2.2.2.2.2.2.2.2.2.2 t8.2.1).2.2.2.2)) fun r6 => Option.bind (bif (!r6) then some true else if (0 : Int) ≤ t8.2.1 then if t8.2.1 < (List.length t8.2.2.2.2.2.2.2.2.2.2.2.2.2.2 : Int) then Option.bind (JD (t8.2.2.2.2.2.2.2.2.1, t8.2.2.2.2.2.2.2.2.2.1, t8.2.2.2.2.2.2.2.2.2.2.1, t8.2.2.2.2.2.2.2.2.2.2.2.1, t8.2.2.2.2.2.2.2.2.2.2.2.2.1, t8.2.2.2.2.2.2.2.2.2.2.2.2.2.1, (y6 t8.2.2.2.2.2.2.2.2.2.2.2.2.2.2 t8.2.1).2.1)) fun r8 => Option.bind (bif r8 then if (0 : Int) ≤ t8.2.1 then if t8.2.1 < (List.length t8.2.2.2.2.2.2.2.2.2.2.2.2.2.2 : Int) then Option.bind (Yv (t8.2.2.2.2.2.2.2.2.2.2.1, (y6 t8.2.2.2.2.2.2.2.2.2.2.2.2.2.2 t8.2.1).2.1)) fun r10 => some (decide ((List.length r10 : Int) < (2 : Int))) else none else none else some false) fun u9 => some u9 else none else none) fun u7 => bif u7 then k0 (false, t8.1, t8.2.2.1, t8.2.2.2.1, t8.2.2.2.2.1, t8.2.2.2.2.2.1, t8.2.2.2.2.2.2.1, t8.2.2.2.2.2.2.2.1, t8.2.2.2.2.2.2.2.2.1, t8.2.2.2.2.2.2.2.2.2.1, t8.2.2.2.2.2.2.2.2.2.2.1, t8.2.2.2.2.2.2.2.2.2.2.2.1, t8.2.2.2.2.2.2.2.2.2.2.2.2.1, t8.2.2.2.2.2.2.2.2.2.2.2.2.2.1) else again (t8.1, (Go.IntKind.wrap .i64 (t8.2.1 + (1 : Int))), t8.2.2.1, t8.2.2.2.1, t8.2.2.2.2.1, t8.2.2.2.2.2.1, t8.2.2.2.2.2.2.1, t8.2.2.2.2.2.2.2.1, t8.2.2.2.2.2.2.2.2.1, t8.2.2.2.2.2.2.2.2.2.1, t8.2.2.2.2.2.2.2.2.2.2.1, t8.2.2.2.2.2.2.2.2.2.2.2.1, t8.2.2.2.2.2.2.2.2.2.2.2.2.1, t8.2.2.2.2.2.2.2.2.2.2.2.2.2.1, t8.2.2.2.2.2.2.2.2.2.2.2.2.2.2) else none else none else k1 (t8.1, t8.2.2.1, t8.2.2.2.1, t8.2.2.2.2.1, t8.2.2.2.2.2.1, t8.2.2.2.2.2.2.1, t8.2.2.2.2.2.2.2.1, t8.2.2.2.2.2.2.2.2.1, t8.2.2.2.2.2.2.2.2.2.1, t8.2.2.2.2.2.2.2.2.2.2.1, t8.2.2.2.2.2.2.2.2.2.2.2.1, t8.2.2.2.2.2.2.2.2.2.2.2.2.1, t8.2.2.2.2.2.2.2.2.2.2.2.2.2.1)
def Ve k0 k1 := zR (@kq R k0 k1) Yd
abbrev wX : Type := ypy
def wY (k0 : ypx → Option R) (k1 : ykR → Option R) (again : wX → Option R) (t13 : wX) : Option R :=
 bif (decide (t13.2.1 < (List.length t13.2.2.2.2.2.2.2.2.2.2.1 : Int))) then if (0 : Int) ≤ t13.2.1 then if t13.2.1 < (List.length t13.2.2.2.2.2.2.2.2.2.2.1 : Int) then Option.bind (JD (t13.2.2.2.2.2.2.2.2.1, t13.2.2.2.2.2.2.2.2.2.1, t13.2.2.2.2.2.2.2.2.2.2.1, t13.2.2.2.2.2.2.2.2.2.2.2.1, t13.2.2.2.2.2.2.2.2.2.2.2.2.1, t13.2.2.2.2.2.2.2.2.2.2.2.2.2, (yA t13.2.2.2.2.2.2.2.2.2.2.1 t13.2.1).1)) fun r13 => Option.bind (bif r13 then if (0 : Int) ≤ t13.2.1 then if t13.2.1 < (List.length t13.2.2.2.2.2.2.2.2.2.2.1 : Int) then Option.bind (Yv (t13.2.2.2.2.2.2.2.2.2.2.1, (yA t13.2.2.2.2.2.2.2.2.2.2.1 t13.2.1).1)) fun r15 => some (decide ((List.length r15 : Int) < (2 : Int))) else none else none else some false) fun u14 => bif u14 then k0 (false, t13.1, t13.2.2) else again (t13.1, (Go.IntKind.wrap .i64 (t13.2.1 + (1 : Int))), t13.2.2.1, t13.2.2.2.1, t13.2.2.2.2.1, t13.2.2.2.2.2.1, t13.2.2.2.2.2.2.1, t13.2.2.2.2.2.2.2.1, t13.2.2.2.2.2.2.2.2.1, t13.2.2.2.2.2.2.2.2.2.1, t13.2.2.2.2.2.2.2.2.2.2.1, t13.2.2.2.2.2.2.2.2.2.2.2.1, t13.2.2.2.2.2.2.2.2.2.2.2.2.1, t13.2.2.2.2.2.2.2.2.2.2.2.2.2) else none else none else k1 (t13.1, t13.2.2)
def KW k0 k1 := zR (@wY R k0 k1) Yd
def jw (x : List y5E) : Option Bool :=
 Option.bind (y0K x) fun r1 => bif r1 then some true else Option.bind (Jr x) fun r2 => Option.bind (JF (r2.1, r2.2.1, r2.2.2.1, r2.2.2.2.1, r2.2.2.2.2.1, r2.2.2.2.2.2.1)) fun r3 => Option.bind (Yh (r2.1, r2.2.1, r2.2.2.1, r2.2.2.2.1, r2.2.2.2.2.1, r2.2.2.2.2.2.1)) fun r4 => Option.bind (yT (r3.1, r3.2.1)) fun r5 => Ve (fun x11 => some x11.1) (fun x12 => KW (fun x16 => some x16.1) (fun x17 => Option.bind (KB (x17.2.1, x17.2.2.1, x17.2.2.2.1, x17.2.2.2.2.1, x17.2.2.2.2.2.1, x17.2.2.2.2.2.2.1)) fun r18 => Option.bind (bif (decide (x17.1 ≤ r18)) then Option.bind (ko x17.2.2.2.2.2.2.2) fun r20 => some r20 else some false) fun u19 => bif u19 then Option.bind (jv x17.2.2.2.2.2.2.2) fun r21 => Option.bind (jv (x17.2.1, x17.2.2.1, x17.2.2.2.1, x17.2.2.2.2.1, x17.2.2.2.2.2.1, x17.2.2.2.2.2.2.1)) fun r22 => Option.bind (ZZ (r21, r22)) fun r23 => Option.bind (bif r23 then Option.bind (YH x17.2.2.2.2.2.2.2.2.2.2.1) fun r25 => Option.bind (zV x17.2.2.2.2.2.2.2) fun r26 => some (r25 == r26) else some false) fun u24 => Option.bind (bif u24 then Option.bind (Yh x17.2.2.2.2.2.2.2) fun r28 => some (r28 == (0 : Int)) else some false) fun u27 => Option.bind (bif u27 then Option.bind (zV x17.2.2.2.2.2.2.2) fun r30 => Option.bind (zV (x17.2.1, x17.2.2.1, x17.2.2.2.1, x17.2.2.2.2.1, x17.2.2.2.2.2.1, x17.2.2.2.2.2.2.1)) fun r31 => some (r30 == r31) else some false) fun u29 => some u29 else Option.bind (some false) fun u32 => Option.bind (bif u32 then Option.bind (Yh x17.2.2.2.2.2.2.2) fun r34 => some (r34 == (0 : Int)) else some false) fun u33 => Option.bind (bif u33 then Option.bind (zV x17.2.2.2.2.2.2.2) fun r36 => Option.bind (zV (x17.2.1, x17.2.2.1, x17.2.2.2.1, x17.2.2.2.2.1, x17.2.2.2.2.2.1, x17.2.2.2.2.2.2.1)) fun r37 => some (r36 == r37) else some false) fun u35 => some u35) (x12.1, (0 : Int), x12.2.1, x12.2.2.1, x12.2.2.2.1, x12.2.2.2.2.1, x12.2.2.2.2.2.1, x12.2.2.2.2.2.2.1, x12.2.2.2.2.2.2.2.1, x12.2.2.2.2.2.2.2.2.1, x12.2.2.2.2.2.2.2.2.2.1, x12.2.2.2.2.2.2.2.2.2.2.1, x12.2.2.2.2.2.2.2.2.2.2.2.1, x12.2.2.2.2.2.2.2.2.2.2.2.2)) (r4, (0 : Int), r2.1, r2.2.1, r2.2.2.1, r2.2.2.2.1, r2.2.2.2.2.1, r2.2.2.2.2.2.1, r3.1, r3.2.1, r3.2.2.1, r3.2.2.2.1, r3.2.2.2.2.1, r3.2.2.2.2.2, r5)
def f6Q : List QF := [q7, q8, q17, q18, q20, q23, q24, q25, q26, q27, q28, q29, q30, q31]
def ygp (t : ypv) : St := ⟨dd 3 (.box 3 0 :: .dead :: .box 5 0 :: vI t.1 :: .own 10000000 :: vI t.2.1 :: dd 112 []), [(3, .box [z3 t.2.2.1, yw t.2.2.2.1, zd t.2.2.2.2.1, yK t.2.2.2.2.2.1, zC t.2.2.2.2.2.2.1, vI t.2.2.2.2.2.2.2.1]), (5, .box [z3 t.2.2.2.2.2.2.2.2.1, yw t.2.2.2.2.2.2.2.2.2.1, zd t.2.2.2.2.2.2.2.2.2.2.1, yK t.2.2.2.2.2.2.2.2.2.2.2.1, zC t.2.2.2.2.2.2.2.2.2.2.2.2.1, vI t.2.2.2.2.2.2.2.2.2.2.2.2.2.1]), (10000000, .root true 63 yh t.2.2.2.2.2.2.2.2.2.2.2.2.2.2)]⟩
def yBN : Gk kp := fun κ => kq (fun t => κ none ⟨dd 2 (vB t.1 :: .box 3 0 :: .dead :: .box 5 0 :: vI t.2.1 :: dd 114 []), [(3, .box [z3 t.2.2.1, yw t.2.2.2.1, zd t.2.2.2.2.1, yK t.2.2.2.2.2.1, zC t.2.2.2.2.2.2.1, vI t.2.2.2.2.2.2.2.1]), (5, .box [z3 t.2.2.2.2.2.2.2.2.1, yw t.2.2.2.2.2.2.2.2.2.1, zd t.2.2.2.2.2.2.2.2.2.2.1, yK t.2.2.2.2.2.2.2.2.2.2.2.1, zC t.2.2.2.2.2.2.2.2.2.2.2.2.1, vI t.2.2.2.2.2.2.2.2.2.2.2.2.2])]⟩) (fun t => κ (some 0) ⟨dd 3 (.box 3 0 :: .dead :: .box 5 0 :: vI t.1 :: dd 114 []), [(3, .box [z3 t.2.1, yw t.2.2.1, zd t.2.2.2.1, yK t.2.2.2.2.1, zC t.2.2.2.2.2.1, vI t.2.2.2.2.2.2.1]), (5, .box [z3 t.2.2.2.2.2.2.2.1, yw t.2.2.2.2.2.2.2.2.1, zd t.2.2.2.2.2.2.2.2.2.1, yK t.2.2.2.2.2.2.2.2.2.2.1, zC t.2.2.2.2.2.2.2.2.2.2.2.1, vI t.2.2.2.2.2.2.2.2.2.2.2.2])]⟩)
def yc2 (t : ypy) : St := ⟨dd 3 (.box 3 0 :: .dead :: .box 5 0 :: vI t.1 :: dd 2 (vI t.2.1 :: dd 111 [])), [(3, .box [z3 t.2.2.1, yw t.2.2.2.1, zd t.2.2.2.2.1, yK t.2.2.2.2.2.1, zC t.2.2.2.2.2.2.1, vI t.2.2.2.2.2.2.2.1]), (5, .box [z3 t.2.2.2.2.2.2.2.2.1, yw t.2.2.2.2.2.2.2.2.2.1, zd t.2.2.2.2.2.2.2.2.2.2.1, yK t.2.2.2.2.2.2.2.2.2.2.2.1, zC t.2.2.2.2.2.2.2.2.2.2.2.2.1, vI t.2.2.2.2.2.2.2.2.2.2.2.2.2])]⟩
def ytL : Gk wX := fun κ => wY (fun t => κ none ⟨dd 2 (vB t.1 :: .box 3 0 :: .dead :: .box 5 0 :: vI t.2.1 :: dd 114 []), [(3, .box [z3 t.2.2.1, yw t.2.2.2.1, zd t.2.2.2.2.1, yK t.2.2.2.2.2.1, zC t.2.2.2.2.2.2.1, vI t.2.2.2.2.2.2.2.1]), (5, .box [z3 t.2.2.2.2.2.2.2.2.1, yw t.2.2.2.2.2.2.2.2.2.1, zd t.2.2.2.2.2.2.2.2.2.2.1, yK t.2.2.2.2.2.2.2.2.2.2.2.1, zC t.2.2.2.2.2.2.2.2.2.2.2.2.1, vI t.2.2.2.2.2.2.2.2.2.2.2.2.2])]⟩) (fun t => κ (some 2) ⟨dd 3 (.box 3 0 :: .dead :: .box 5 0 :: vI t.1 :: dd 114 []), [(3, .box [z3 t.2.1, yw t.2.2.1, zd t.2.2.2.1, yK t.2.2.2.2.1, zC t.2.2.2.2.2.1, vI t.2.2.2.2.2.2.1]), (5, .box [z3 t.2.2.2.2.2.2.2.1, yw t.2.2.2.2.2.2.2.2.1, zd t.2.2.2.2.2.2.2.2.2.1, yK t.2.2.2.2.2.2.2.2.2.2.1, zC t.2.2.2.2.2.2.2.2.2.2.2.1, vI t.2.2.2.2.2.2.2.2.2.2.2.2])]⟩)
def f6P : Lp := lpC 13 (unG ypz yc2) @ytL (lpC 8 (unG ypw ygp) @yBN lpN)
theorem yEb : LF f6Q f6P 6 8 Tryz.f6 0 ygp @yBN fun t => t := fun R κ again t => by kernel_rfl
theorem yEc : LK f6Q f6P 6 Tryz.f6 0 := lkN (u := (unG ypw ygp)) (yq fun t => by kernel_rfl) yEb
theorem yyV : LF f6Q f6P 6 13 Tryz.f6 1 yc2 @ytL fun t => t := fun R κ again t => by kernel_rfl
theorem yyW : LK f6Q f6P 6 Tryz.f6 1 := lkN (u := (unG ypz yc2)) (yq fun t => by kernel_rfl) yyV
theorem ev6 : EV f6Q f6P 6 Tryz.f6 sg6 [(.sl 5 kK)] [.bool] jw := fun x => by kernel_rfl
def q6 : QF := ⟨6, jw, okN (n := 2) Tryz.func6 ⟨yEc, yyW, trivial⟩ ev6⟩
end
end Go.Proofs.YtjllpipmaejeoaaGreat.XW
