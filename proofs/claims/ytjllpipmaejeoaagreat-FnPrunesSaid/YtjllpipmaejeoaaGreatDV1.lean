/- What functions compute, and that they do; part 1 of V; by a program (dec.py). No condition. -/
import Derived.Test.YtjllpipmaejeoaaGreatDV0
set_option linter.all false
namespace Go.Proofs.YtjllpipmaejeoaaGreat.XV
open Go.Proofs.YtjllpipmaejeoaaGreat.R
set_option maxRecDepth 100000
noncomputable section
variable {R : Type}
abbrev Vd : Type := yp0
def JL (k0 : yhV → Option R) (k1 : Qz9 → Option R) (again : Vd → Option R) (t2 : Vd) : Option R :=
 bif (decide (t2.2.2.1 < t2.2.1)) then if (0 : Int) ≤ t2.2.2.1 then if t2.2.2.1 < (List.length t2.1 : Int) then Option.bind (kh ((yi t2.1 t2.2.2.1).1)) fun r1 => Option.bind (bif (!r1) then some true else Option.bind (bif (decide (t2.2.2.1 > (0 : Int))) then if (0 : Int) ≤ (Go.IntKind.wrap .i64 (t2.2.2.1 - (1 : Int))) then if (Go.IntKind.wrap .i64 (t2.2.2.1 - (1 : Int))) < (List.length t2.2.2.2.2.2.2.2.1 : Int) then some (!Go.Op.bytesLess (ByteArray.toList ((yi t2.2.2.2.2.2.2.2.1 (Go.IntKind.wrap .i64 (t2.2.2.1 - (1 : Int)))).1)) (ByteArray.toList ((yi t2.1 t2.2.2.1).1))) else none else none else some false) fun u3 => some u3) fun u2 => Option.bind (bif u2 then some true else Option.bind (yL ((yi t2.1 t2.2.2.1).2.2.1, (1 : Int), (12 : Int))) fun r5 => some (!r5)) fun u4 => bif u4 then k0 (false, t2.2.2.2) else Option.bind (YU (t2.2.2.2.2.2.1, (yi t2.1 t2.2.2.1).2.1)) fun r6 => Option.bind (bif (decide (r6 < (0 : Int))) then some true else Option.bind (Zp (t2.2.2.2.2.2.1, (yi t2.1 t2.2.2.1).2.1)) fun r8 => some (decide ((List.length r8 : Int) > (0 : Int)))) fun u7 => bif u7 then k0 (false, t2.2.2.2) else if (0 : Int) ≤ (0 : Int) then if (0 : Int) ≤ t2.2.2.1 then if t2.2.2.1 ≤ (List.length t2.2.2.2.2.2.2.2.1 : Int) then Option.bind (yI ((List.drop (Int.toNat (0 : Int)) (List.take (Int.toNat t2.2.2.1) t2.2.2.2.2.2.2.2.1)), (yi t2.1 t2.2.2.1).1, (yi t2.1 t2.2.2.1).2.1, (yi t2.1 t2.2.2.1).2.2.1, (yi t2.1 t2.2.2.1).2.2.2)) fun r9 => bif r9.1 then k0 (false, t2.2.2.2) else again (t2.1, t2.2.1, (Go.IntKind.wrap .i64 (t2.2.2.1 + (1 : Int))), t2.2.2.2.1, t2.2.2.2.2.1, t2.2.2.2.2.2.1, t2.2.2.2.2.2.2.1, t2.2.2.2.2.2.2.2.1, t2.2.2.2.2.2.2.2.2) else none else none else none else none else none else k1 t2.2.2.2
def y0f k0 k1 := zS (@JL R k0 k1) Y4
def kj (x : Qz9) : Option Bool :=
 y0f (fun x10 => some x10.1) (fun x11 => some (decide ((List.length x11.2.2.2.2.1 : Int) ≤ (6 : Int)))) (x.2.2.2.2.1, (List.length x.2.2.2.2.1 : Int), (0 : Int), x.1, x.2.1, x.2.2.1, x.2.2.2.1, x.2.2.2.2.1, x.2.2.2.2.2)
def yyL : List QF := [q28, q47, q76, q97, ymD]
def ybX (t : yp0) : St := ⟨.dead :: .box 1 0 :: dd 4 (zW t.1 :: vI t.2.1 :: vI t.2.2.1 :: dd 56 []), [(1, .box [zi t.2.2.2.1, yE t.2.2.2.2.1, zu t.2.2.2.2.2.1, z0 t.2.2.2.2.2.2.1, zW t.2.2.2.2.2.2.2.1, vI t.2.2.2.2.2.2.2.2])]⟩
def yts : Gk Vd := fun κ => JL (fun t => κ none ⟨.dead :: .box 1 0 :: vB t.1 :: dd 62 [], [(1, .box [zi t.2.1, yE t.2.2.1, zu t.2.2.2.1, z0 t.2.2.2.2.1, zW t.2.2.2.2.2.1, vI t.2.2.2.2.2.2])]⟩) (fun t => κ (some 0) ⟨.dead :: .box 1 0 :: dd 63 [], [(1, .box [zi t.1, yE t.2.1, zu t.2.2.1, z0 t.2.2.2.1, zW t.2.2.2.2.1, vI t.2.2.2.2.2])]⟩)
def yyM : Lp := lpC 2 (unG yp1 ybX) @yts lpN
theorem yyN : LF yyL yyM 56 2 Tryz.f56 0 ybX @yts fun t => t := fun R κ again t => by kernel_rfl
theorem yyO : LK yyL yyM 56 Tryz.f56 0 := lkN (u := (unG yp1 ybX)) (yq fun t => by kernel_rfl) yyN
theorem yE5 : EV yyL yyM 56 Tryz.f56 yBh qz9 [.bool] kj := fun x => by kernel_rfl
def q56 : QF := ⟨56, kj, okN (n := 1) Tryz.func56 ⟨yyO, trivial⟩ yE5⟩
abbrev v6 : Type := yp2
def jO (k0 : yuW → Option R) (k1 : yhc → Option R) (again : v6 → Option R) (t4 : v6) : Option R :=
 bif (decide (t4.2.2.1 < t4.2.1)) then if (0 : Int) ≤ t4.2.2.1 then if t4.2.2.1 < (List.length t4.2.2.2.2.2.2.2.2.2.2 : Int) then Option.bind (YU (t4.2.2.2.2.2.1, (y6 t4.2.2.2.2.2.2.2.2.2.2 t4.2.2.1).2.1)) fun r2 => bif (decide (r2 < (0 : Int))) then k0 (false, t4.1, t4.2.2.2.1, t4.2.2.2.2.1, t4.2.2.2.2.2.1, t4.2.2.2.2.2.2.1, t4.2.2.2.2.2.2.2.1, t4.2.2.2.2.2.2.2.2.1) else bif ((y6 t4.2.2.2.2.2.2.2.2.2.2 t4.2.2.1).2.2.1 != (1 : Int)) then again (t4.1, t4.2.1, (Go.IntKind.wrap .i64 (t4.2.2.1 + (1 : Int))), t4.2.2.2.1, t4.2.2.2.2.1, t4.2.2.2.2.2.1, t4.2.2.2.2.2.2.1, t4.2.2.2.2.2.2.2.1, t4.2.2.2.2.2.2.2.2.1, t4.2.2.2.2.2.2.2.2.2.1, t4.2.2.2.2.2.2.2.2.2.2) else Option.bind (wg (t4.2.2.2.2.2.2.1, (y6 t4.2.2.2.2.2.2.2.2.2.2 t4.2.2.1).2.2.2.1, (y6 t4.2.2.2.2.2.2.2.2.2.2 t4.2.2.1).2.2.2.2)) fun r3 => Option.bind (bif (!r3.2) then some true else if (0 : Int) ≤ (y6 t4.2.2.2.2.2.2.2.2.2.2 t4.2.2.1).2.2.2.1 then if (y6 t4.2.2.2.2.2.2.2.2.2.2 t4.2.2.1).2.2.2.1 < (List.length t4.2.2.2.2.2.2.2.2.2.1 : Int) then some (yfC t4.2.2.2.2.2.2.2.2.2.1 ((y6 t4.2.2.2.2.2.2.2.2.2.2 t4.2.2.1).2.2.2.1)) else none else none) fun u4 => bif u4 then k0 (false, t4.1, t4.2.2.2.1, t4.2.2.2.2.1, t4.2.2.2.2.2.1, t4.2.2.2.2.2.2.1, t4.2.2.2.2.2.2.2.1, t4.2.2.2.2.2.2.2.2.1) else if (0 : Int) ≤ (y6 t4.2.2.2.2.2.2.2.2.2.2 t4.2.2.1).2.2.2.1 then if (y6 t4.2.2.2.2.2.2.2.2.2.2 t4.2.2.1).2.2.2.1 < (List.length t4.2.2.2.2.2.2.2.2.2.1 : Int) then again ((Go.IntKind.wrap .i64 (t4.1 + (1 : Int))), t4.2.1, (Go.IntKind.wrap .i64 (t4.2.2.1 + (1 : Int))), t4.2.2.2.1, t4.2.2.2.2.1, t4.2.2.2.2.2.1, t4.2.2.2.2.2.2.1, t4.2.2.2.2.2.2.2.1, t4.2.2.2.2.2.2.2.2.1, (List.set t4.2.2.2.2.2.2.2.2.2.1 (Int.toNat ((y6 t4.2.2.2.2.2.2.2.2.2.2 t4.2.2.1).2.2.2.1)) true), t4.2.2.2.2.2.2.2.2.2.2) else none else none else none else none else k1 (t4.1, t4.2.2.2.1, t4.2.2.2.2.1, t4.2.2.2.2.2.1, t4.2.2.2.2.2.2.1, t4.2.2.2.2.2.2.2.1, t4.2.2.2.2.2.2.2.2.1)
def Qs k0 k1 := zS (@jO R k0 k1) Y4
def wK (x : Qz9) : Option Bool :=
 if (0 : Int) ≤ (24 : Int) then if (24 : Int) ≤ (24 : Int) then if (24 : Int) * ((1 : Nat) : Int) ≤ 140737488351232 then Option.bind (za (x.1, x.2.1)) fun r1 => Qs (fun x5 => some x5.1) (fun x6 => Option.bind (yy x6.2.2.2.2.1) fun r7 => some (r7 == x6.1)) ((0 : Int), (List.length r1 : Int), (0 : Int), x.1, x.2.1, x.2.2.1, x.2.2.2.1, x.2.2.2.2.1, x.2.2.2.2.2, (List.replicate (Int.toNat (24 : Int)) yfB), r1) else none else none else none
def yyP : List QF := [q18, q23, q78, q97]
def ybY (t : yp2) : St := ⟨.dead :: .box 1 0 :: .dead :: .own 10000000 :: vI t.1 :: dd 7 (.own 10000001 :: vI t.2.1 :: vI t.2.2.1 :: dd 43 []), [(1, .box [zi t.2.2.2.1, yE t.2.2.2.2.1, zu t.2.2.2.2.2.1, z0 t.2.2.2.2.2.2.1, zW t.2.2.2.2.2.2.2.1, vI t.2.2.2.2.2.2.2.2.1]), (10000000, .root true 4 y4Y t.2.2.2.2.2.2.2.2.2.1), (10000001, .root true 63 yg t.2.2.2.2.2.2.2.2.2.2)]⟩
def ytt : Gk v6 := fun κ => jO (fun t => κ none ⟨.dead :: .box 1 0 :: vB t.1 :: .dead :: vI t.2.1 :: dd 53 [], [(1, .box [zi t.2.2.1, yE t.2.2.2.1, zu t.2.2.2.2.1, z0 t.2.2.2.2.2.1, zW t.2.2.2.2.2.2.1, vI t.2.2.2.2.2.2.2])]⟩) (fun t => κ (some 0) ⟨.dead :: .box 1 0 :: dd 2 (vI t.1 :: dd 53 []), [(1, .box [zi t.2.1, yE t.2.2.1, zu t.2.2.2.1, z0 t.2.2.2.2.1, zW t.2.2.2.2.2.1, vI t.2.2.2.2.2.2])]⟩)
def yyQ : Lp := lpC 4 (unG yp3 ybY) @ytt lpN
theorem yyR : LF yyP yyQ 57 4 Tryz.f57 0 ybY @ytt fun t => t := fun R κ again t => by kernel_rfl
theorem yyS : LK yyP yyQ 57 Tryz.f57 0 := lkN (u := (unG yp3 ybY)) (yq fun t => by kernel_rfl) yyR
theorem yE6 : EV yyP yyQ 57 Tryz.f57 yBi qz9 [.bool] wK := fun x => by kernel_rfl
def q57 : QF := ⟨57, wK, okN (n := 1) Tryz.func57 ⟨yyS, trivial⟩ yE6⟩
abbrev Ve : Type := yp4
def JM (k0 : yhV → Option R) (k1 : Qz9 → Option R) (again : Ve → Option R) (t4 : Ve) : Option R :=
 bif (decide (t4.2.2.1 < t4.2.1)) then if (0 : Int) ≤ t4.2.2.1 then if t4.2.2.1 < (List.length t4.1 : Int) then bif (decide ((yG t4.1 t4.2.2.1).1 ≥ t4.2.2.2.2.2.2.2.2)) then k0 (false, t4.2.2.2) else again (t4.1, t4.2.1, (Go.IntKind.wrap .i64 (t4.2.2.1 + (1 : Int))), t4.2.2.2.1, t4.2.2.2.2.1, t4.2.2.2.2.2.1, t4.2.2.2.2.2.2.1, t4.2.2.2.2.2.2.2.1, t4.2.2.2.2.2.2.2.2) else none else none else k1 t4.2.2.2
def y0g k0 k1 := zS (@JM R k0 k1) Y4
def zO (x : Qz9) : Option Bool :=
 Option.bind (Yu (x.1, x.2.1)) fun r1 => Option.bind (bif (!r1) then some true else Option.bind (wh x.2.2.1) fun r3 => some (!r3)) fun u2 => Option.bind (bif u2 then some true else Option.bind (J3 x.2.2.2.1) fun r5 => some (!r5)) fun u4 => Option.bind (bif u4 then some true else Option.bind (yL (x.2.2.2.2.2, (1 : Int), (61 : Int))) fun r7 => some (!r7)) fun u6 => bif u6 then some false else y0g (fun x8 => some x8.1) (fun x9 => Option.bind (kj x9) fun r10 => Option.bind (bif r10 then Option.bind (wK x9) fun r12 => some r12 else some false) fun u11 => some u11) (x.2.2.1, (List.length x.2.2.1 : Int), (0 : Int), x.1, x.2.1, x.2.2.1, x.2.2.2.1, x.2.2.2.2.1, x.2.2.2.2.2)
def yyT : List QF := [q47, q53, q54, q55, q56, q57]
def ybZ (t : yp4) : St := ⟨.dead :: .box 1 0 :: dd 26 (zu t.1 :: vI t.2.1 :: vI t.2.2.1 :: dd 15 []), [(1, .box [zi t.2.2.2.1, yE t.2.2.2.2.1, zu t.2.2.2.2.2.1, z0 t.2.2.2.2.2.2.1, zW t.2.2.2.2.2.2.2.1, vI t.2.2.2.2.2.2.2.2])]⟩
def ytu : Gk Ve := fun κ => JM (fun t => κ none ⟨.dead :: .box 1 0 :: vB t.1 :: dd 43 [], [(1, .box [zi t.2.1, yE t.2.2.1, zu t.2.2.2.1, z0 t.2.2.2.2.1, zW t.2.2.2.2.2.1, vI t.2.2.2.2.2.2])]⟩) (fun t => κ (some 0) ⟨.dead :: .box 1 0 :: dd 44 [], [(1, .box [zi t.1, yE t.2.1, zu t.2.2.1, z0 t.2.2.2.1, zW t.2.2.2.2.1, vI t.2.2.2.2.2])]⟩)
def yyU : Lp := lpC 4 (unG yp5 ybZ) @ytu lpN
theorem yyV : LF yyT yyU 19 4 Tryz.f19 0 ybZ @ytu fun t => t := fun R κ again t => by kernel_rfl
theorem yyW : LK yyT yyU 19 Tryz.f19 0 := lkN (u := (unG yp5 ybZ)) (yq fun t => by kernel_rfl) yyV
theorem yE7 : EV yyT yyU 19 Tryz.f19 yBj qz9 [.bool] zO := fun x => by kernel_rfl
def q19 : QF := ⟨19, zO, okN (n := 1) Tryz.func19 ⟨yyW, trivial⟩ yE7⟩
abbrev ZJ : Type := yp6
def ZK (k0 : Bool → Option R) (k1 : Unit → Option R) (again : ZJ → Option R) (t4 : ZJ) : Option R :=
 bif (decide (t4.2.2.2 < t4.2.2.1)) then if (0 : Int) ≤ t4.2.2.2 then if t4.2.2.2 < (List.length t4.1 : Int) then if (0 : Int) ≤ t4.2.2.2 then if t4.2.2.2 < (List.length t4.2.1 : Int) then bif ((zt t4.1 t4.2.2.2) != (zt t4.2.1 t4.2.2.2)) then k0 false else again (t4.1, t4.2.1, t4.2.2.1, (Go.IntKind.wrap .i64 (t4.2.2.2 + (1 : Int)))) else none else none else none else none else k1 ()
def vf k0 k1 := zS (@ZK R k0 k1) Y4
def Zq (x : yo9) : Option Bool :=
 bif ((List.length x.1 : Int) != (List.length x.2 : Int)) then some false else vf (fun x1 => some x1) (fun x2 => some true) (x.1, x.2, (List.length x.1 : Int), (0 : Int))
def yyX : List QF := []
def yc0 (t : yp6) : St := ⟨zi t.1 :: zi t.2.1 :: dd 10 (vI t.2.2.1 :: vI t.2.2.2 :: dd 12 []), []⟩
def ytv : Gk ZJ := fun κ => ZK (fun t => κ none ⟨dd 4 (vB t :: dd 21 []), []⟩) (fun t => κ (some 0) ⟨dd 26 [], []⟩)
def yyY : Lp := lpC 4 (unG yp7 yc0) @ytv lpN
theorem yyZ : LF yyX yyY 99 4 Tryz.f99 0 yc0 @ytv fun t => t := fun R κ again t => by kernel_rfl
theorem yz0 : LK yyX yyY 99 Tryz.f99 0 := lkN (u := (unG yp7 yc0)) (yq fun t => by kernel_rfl) yyZ
theorem yE8 : EV yyX yyY 99 Tryz.f99 yBk yoa [.bool] Zq := fun x => by kernel_rfl
def q99 : QF := ⟨99, Zq, okN (n := 1) Tryz.func99 ⟨yz0, trivial⟩ yE8⟩
def wL (x : yvu) : Option Bool :=
 Option.bind (bif ((ByteArray.toList x.1) == (ByteArray.toList x.2.2.2.1)) then some (x.2.1 == x.2.2.2.2.1) else some false) fun u1 => Option.bind (bif u1 then Option.bind (Zq (x.2.2.1, x.2.2.2.2.2)) fun r3 => some r3 else some false) fun u2 => some u2
theorem yE9 : EV [q99] lpN 59 Tryz.f59 yBl yvv [.bool] wL := fun x => by kernel_rfl
def q59 : QF := ⟨59, wL, okN (n := 0) Tryz.func59 trivial yE9⟩
abbrev zp : Type := yp8
def z4 (k0 : Bool → Option R) (k1 : Unit → Option R) (again : zp → Option R) (t4 : zp) : Option R :=
 bif (decide (t4.2.2.2 < t4.2.2.1)) then if (0 : Int) ≤ t4.2.2.2 then if t4.2.2.2 < (List.length t4.2.1 : Int) then if (0 : Int) ≤ t4.2.2.2 then if t4.2.2.2 < (List.length t4.1 : Int) then Option.bind (wL ((y4X t4.2.1 t4.2.2.2).1, (y4X t4.2.1 t4.2.2.2).2.1, (y4X t4.2.1 t4.2.2.2).2.2, (y4X t4.1 t4.2.2.2).1, (y4X t4.1 t4.2.2.2).2.1, (y4X t4.1 t4.2.2.2).2.2)) fun r1 => bif (!r1) then k0 false else again (t4.1, t4.2.1, t4.2.2.1, (Go.IntKind.wrap .i64 (t4.2.2.2 + (1 : Int)))) else none else none else none else none else k1 ()
def YK k0 k1 := zS (@z4 R k0 k1) Y4
def zA (x : ypa) : Option Bool :=
 bif ((List.length x.1 : Int) != (List.length x.2 : Int)) then some false else YK (fun x2 => some x2) (fun x3 => some true) (x.2, x.1, (List.length x.1 : Int), (0 : Int))
def y8s : List QF := [q59]
def y1F (t : yp8) : St := ⟨.dead :: ynO t.1 :: .fn 59 :: dd 12 (ynO t.2.1 :: vI t.2.2.1 :: vI t.2.2.2 :: dd 14 []), []⟩
def ya2 : Gk zp := fun κ => z4 (fun t => κ none ⟨dd 6 (vB t :: dd 25 []), []⟩) (fun t => κ (some 0) ⟨dd 32 [], []⟩)
def y8t : Lp := lpC 4 (unG yp9 y1F) @ya2 lpN
theorem ygf : LF y8s y8t 100003 4 Tryz.f58 0 y1F @ya2 fun t => t := fun R κ again t => by kernel_rfl
theorem ygg : LK y8s y8t 100003 Tryz.f58 0 := lkN (u := (unG yp9 y1F)) (yq fun t => by kernel_rfl) ygf
theorem yig : EV y8s y8t 100003 Tryz.f58 yd6 ypb [.bool] zA := fun x => by kernel_rfl
def ymE : QF := ⟨100003, zA, okN (n := 1) Tryz.func58 ⟨ygg, trivial⟩ yig⟩
def Yb (x : ypa) : Option Bool :=
 Option.bind (zA x) fun r1 => some r1
theorem yEa : EV [ymE] lpN 20 Tryz.f20 yBm ypb [.bool] Yb := fun x => by kernel_rfl
def q20 : QF := ⟨20, Yb, okN (n := 0) Tryz.func20 trivial yEa⟩
def vn (x : yvw) : Option yhY :=
 some ((x.2.1 == x.2.2.2.2), x.2.2.2.2)
theorem yEb : EV [] lpN 67 Tryz.f67 yBn yvx ykM vn := fun x => by kernel_rfl
def q67 : QF := ⟨67, vn, okN (n := 0) Tryz.func67 trivial yEb⟩
abbrev zX : Type := ypc
def z8 (k0 : yha → Option R) (k1 : Int → Option R) (again : zX → Option R) (t2 : zX) : Option R :=
 bif (decide (t2.2.2.1 < t2.2.1)) then if (0 : Int) ≤ t2.2.2.1 then if t2.2.2.1 < (List.length t2.1 : Int) then Option.bind (vn ((yi t2.1 t2.2.2.1).1, (yi t2.1 t2.2.2.1).2.1, (yi t2.1 t2.2.2.1).2.2.1, (yi t2.1 t2.2.2.1).2.2.2, t2.2.2.2)) fun r1 => bif r1.1 then k0 (t2.2.2.1, r1.2) else again (t2.1, t2.2.1, (Go.IntKind.wrap .i64 (t2.2.2.1 + (1 : Int))), r1.2) else none else none else k1 t2.2.2.2
def YV k0 k1 := zS (@z8 R k0 k1) Y4
def ze (x : ype) : Option yha :=
 YV (fun x2 => some x2) (fun x3 => some ((-1 : Int), x3)) (x.1, (List.length x.1 : Int), (0 : Int), x.2)
def y8u : List QF := [q67]
def y1G (t : ypc) : St := ⟨zW t.1 :: .clo 67 901 :: dd 5 (vI t.2.1 :: vI t.2.2.1 :: dd 10 []), [(901, .box [vI t.2.2.2])]⟩
def ya3 : Gk zX := fun κ => z8 (fun t => κ none ⟨.dead :: .clo 67 901 :: dd 2 (vI t.1 :: dd 14 []), [(901, .box [vI t.2])]⟩) (fun t => κ (some 0) ⟨.dead :: .clo 67 901 :: dd 17 [], [(901, .box [vI t])]⟩)
def y8v : Lp := lpC 2 (unG ypd y1G) @ya3 lpN
theorem ygh : LF y8u y8v 100005 2 Tryz.f103 0 y1G @ya3 fun t => t := fun R κ again t => by kernel_rfl
theorem ygi : LK y8u y8v 100005 Tryz.f103 0 := lkN (u := (unG ypd y1G)) (yq fun t => by kernel_rfl) ygh
theorem yih : EV y8u y8v 100005 Tryz.f103 yd7 ypf ykF ze := fun x => by kernel_rfl
def ymF : QF := ⟨100005, ze, okN (n := 1) Tryz.func103 ⟨ygi, trivial⟩ yih⟩
def zq (x : ype) : Option yhY :=
 Option.bind (ze x) fun r1 => some ((decide (r1.1 ≥ (0 : Int))), r1.2)
theorem yii : EV [ymF] lpN 100004 Tryz.f66 yd8 ypf ykM zq := fun x => by kernel_rfl
def ymG : QF := ⟨100004, zq, okN (n := 0) Tryz.func66 trivial yii⟩
def K9 (x : yby) : Option Bool :=
 Option.bind (zq (x.2.2.2.2.1, x.2.2.2.2.2.2)) fun r1 => some (!r1.1)
theorem yEc : EV [ymG] lpN 27 Tryz.f27 yBo ybz [.bool] K9 := fun x => by kernel_rfl
def q27 : QF := ⟨27, K9, okN (n := 0) Tryz.func27 trivial yEc⟩
def Vf (x : yAz) : Option Bool :=
 Option.bind (K5 (x.1, x.2.1, x.2.2.1, x.2.2.2.1, x.2.2.2.2.2.2.2.2)) fun r1 => Option.bind (bif r1.2.2.2.2.2 then some (r1.2.1 == x.2.2.2.2.1) else some false) fun u2 => some u2
theorem yEd : EV [q77] lpN 65 Tryz.f65 yBp yAA [.bool] Vf := fun x => by kernel_rfl
def q65 : QF := ⟨65, Vf, okN (n := 0) Tryz.func65 trivial yEd⟩
abbrev kl : Type := ypg
def Zr (k0 : Bool → Option R) (k1 : Unit → Option R) (again : kl → Option R) (t2 : kl) : Option R :=
 bif (decide (t2.2.2.1 < t2.2.1)) then if (0 : Int) ≤ t2.2.2.1 then if t2.2.2.1 < (List.length t2.1 : Int) then Option.bind (bif (decide ((yi t2.1 t2.2.2.1).2.2.1 > t2.2.2.2.2.2.2.2.2.2.1)) then Option.bind (Vf (t2.2.2.2.1, t2.2.2.2.2.1, t2.2.2.2.2.2.1, t2.2.2.2.2.2.2.2.2.2.1, t2.2.2.2.2.2.2.2.2.2.2.1, t2.2.2.2.2.2.2.2.2.2.2.2.1, t2.2.2.2.2.2.2.2.2.2.2.2.2.1, t2.2.2.2.2.2.2.2.2.2.2.2.2.2, (yi t2.1 t2.2.2.1).2.1)) fun r2 => some r2 else some false) fun u1 => bif u1 then k0 true else again (t2.1, t2.2.1, (Go.IntKind.wrap .i64 (t2.2.2.1 + (1 : Int))), t2.2.2.2.1, t2.2.2.2.2.1, t2.2.2.2.2.2.1, t2.2.2.2.2.2.2.1, t2.2.2.2.2.2.2.2.1, t2.2.2.2.2.2.2.2.2.1, t2.2.2.2.2.2.2.2.2.2.1, t2.2.2.2.2.2.2.2.2.2.2.1, t2.2.2.2.2.2.2.2.2.2.2.2.1, t2.2.2.2.2.2.2.2.2.2.2.2.2.1, t2.2.2.2.2.2.2.2.2.2.2.2.2.2) else none else none else k1 ()
def VI k0 k1 := zS (@Zr R k0 k1) Y4
def jP (x : ynt) : Option Bool :=
 VI (fun x3 => some x3) (fun x4 => some false) (x.2.2.2.2.1, (List.length x.2.2.2.2.1 : Int), (0 : Int), x.1, x.2.1, x.2.2.1, x.2.2.2.1, x.2.2.2.2.1, x.2.2.2.2.2.1, x.2.2.2.2.2.2.1, x.2.2.2.2.2.2.2.1, x.2.2.2.2.2.2.2.2.1, x.2.2.2.2.2.2.2.2.2.1, x.2.2.2.2.2.2.2.2.2.2)
def yz1 : List QF := [q65]
def yc1 (t : ypg) : St := ⟨dd 2 (.box 2 0 :: .box 3 0 :: dd 4 (zW t.1 :: vI t.2.1 :: vI t.2.2.1 :: dd 19 [])), [(2, .box [zi t.2.2.2.1, yE t.2.2.2.2.1, zu t.2.2.2.2.2.1, z0 t.2.2.2.2.2.2.1, zW t.2.2.2.2.2.2.2.1, vI t.2.2.2.2.2.2.2.2.1]), (3, .box [vI t.2.2.2.2.2.2.2.2.2.1, vI t.2.2.2.2.2.2.2.2.2.2.1, vI t.2.2.2.2.2.2.2.2.2.2.2.1, vI t.2.2.2.2.2.2.2.2.2.2.2.2.1, vI t.2.2.2.2.2.2.2.2.2.2.2.2.2])]⟩
def ytw : Gk kl := fun κ => Zr (fun t => κ none ⟨dd 4 (vB t :: dd 25 []), []⟩) (fun t => κ (some 0) ⟨dd 30 [], []⟩)
def yz2 : Lp := lpC 2 (unG yph yc1) @ytw lpN
theorem yz3 : LF yz1 yz2 26 2 Tryz.f26 0 yc1 @ytw fun t => t := fun R κ again t => by kernel_rfl
theorem yz4 : LK yz1 yz2 26 Tryz.f26 0 := lkN (u := (unG yph yc1)) (yq fun t => by kernel_rfl) yz3
theorem yEe : EV yz1 yz2 26 Tryz.f26 yBq ynu [.bool] jP := fun x => by kernel_rfl
def q26 : QF := ⟨26, jP, okN (n := 1) Tryz.func26 ⟨yz4, trivial⟩ yEe⟩
abbrev W2 : Type := ypi
def W3 (k0 : Int → Option R) (k1 : Unit → Option R) (again : W2 → Option R) (t2 : W2) : Option R :=
 bif (decide (t2.2.2.1 ≥ (0 : Int))) then if (0 : Int) ≤ t2.2.2.1 then if t2.2.2.1 < (List.length t2.2.2.2.1 : Int) then Option.bind (Zo (t2.1, t2.2.1)) fun r1 => bif (decide ((zt t2.2.2.2.1 t2.2.2.1) ≤ r1)) then k0 t2.2.2.1 else again (t2.1, t2.2.1, (Go.IntKind.wrap .i64 (t2.2.2.1 - (1 : Int))), t2.2.2.2.1, t2.2.2.2.2) else none else none else k1 ()
def Qt k0 k1 := zS (@W3 R k0 k1) Y4
def J4 (x : yur) : Option Int :=
 Qt (fun x2 => some x2) (fun x3 => some (-1 : Int)) (x.2.2.1, x.2.2.2, (Go.IntKind.wrap .i64 ((List.length x.1 : Int) - (1 : Int))), x.1, x.2.1)
def yz5 : List QF := [q92]
def yc2 (t : ypi) : St := ⟨.dead :: vI t.1 :: vI t.2.1 :: .box 3 0 :: dd 3 (vI t.2.2.1 :: dd 18 []), [(3, .box [zi t.2.2.2.1, yE t.2.2.2.2])]⟩
def ytx : Gk W2 := fun κ => W3 (fun t => κ none ⟨dd 6 (vI t :: dd 19 []), []⟩) (fun t => κ (some 0) ⟨dd 26 [], []⟩)
def yz6 : Lp := lpC 2 (unG ypj yc2) @ytx lpN
theorem yz7 : LF yz5 yz6 88 2 Tryz.f88 0 yc2 @ytx fun t => t := fun R κ again t => by kernel_rfl
theorem yz8 : LK yz5 yz6 88 Tryz.f88 0 := lkN (u := (unG ypj yc2)) (yq fun t => by kernel_rfl) yz7
theorem yEf : EV yz5 yz6 88 Tryz.f88 yBr yus [(.int .i64)] J4 := fun x => by kernel_rfl
def q88 : QF := ⟨88, J4, okN (n := 1) Tryz.func88 ⟨yz8, trivial⟩ yEf⟩
abbrev VU : Type := ypk
def wM (k0 : yut → Option R) (k1 : yh9 → Option R) (again : VU → Option R) (t2 : VU) : Option R :=
 bif (decide (t2.2.2.2.2.1 < t2.2.2.2.1)) then if (0 : Int) ≤ t2.2.2.2.2.1 then if t2.2.2.2.2.1 < (List.length t2.2.2.1 : Int) then Option.bind (bif ((y6 t2.2.2.1 t2.2.2.2.2.1).1 == t2.1) then some ((y6 t2.2.2.1 t2.2.2.2.2.1).2.1 == t2.2.1) else some false) fun u1 => bif u1 then k0 (true, (y6 t2.2.2.1 t2.2.2.2.2.1).1, (y6 t2.2.2.1 t2.2.2.2.2.1).2.1, (y6 t2.2.2.1 t2.2.2.2.2.1).2.2.1, (y6 t2.2.2.1 t2.2.2.2.2.1).2.2.2.1, (y6 t2.2.2.1 t2.2.2.2.2.1).2.2.2.2) else again (t2.1, t2.2.1, t2.2.2.1, t2.2.2.2.1, (Go.IntKind.wrap .i64 (t2.2.2.2.2.1 + (1 : Int))), t2.2.2.2.2.2.1, t2.2.2.2.2.2.2.1, t2.2.2.2.2.2.2.2.1, t2.2.2.2.2.2.2.2.2.1, t2.2.2.2.2.2.2.2.2.2) else none else none else k1 t2.2.2.2.2.2
def y1l k0 k1 := zS (@wM R k0 k1) Y4
def Wl (x : yAe) : Option yeO :=
 y1l (fun x2 => some (x2.2.1, x2.2.2.1, x2.2.2.2.1, x2.2.2.2.2.1, x2.2.2.2.2.2, x2.1)) (fun x3 => some ((0 : Int), (0 : Int), (0 : Int), (0 : Int), (0 : Int), false)) (x.2.1, x.2.2, x.1, (List.length x.1 : Int), (0 : Int), (0 : Int), (0 : Int), (0 : Int), (0 : Int), (0 : Int))
def ymH : List QF := []
def y8w (t : ypk) : St := ⟨.dead :: vI t.1 :: vI t.2.1 :: dd 3 (.box 6 0 :: dd 3 (qp t.2.2.1 :: vI t.2.2.2.1 :: vI t.2.2.2.2.1 :: dd 16 [])), [(6, .box [vI t.2.2.2.2.2.1, vI t.2.2.2.2.2.2.1, vI t.2.2.2.2.2.2.2.1, vI t.2.2.2.2.2.2.2.2.1, vI t.2.2.2.2.2.2.2.2.2])]⟩
def ykb : Gk VU := fun κ => wM (fun t => κ none ⟨dd 6 (.box 6 0 :: vB t.1 :: dd 21 []), [(6, .box [vI t.2.1, vI t.2.2.1, vI t.2.2.2.1, vI t.2.2.2.2.1, vI t.2.2.2.2.2])]⟩) (fun t => κ (some 0) ⟨dd 6 (.box 6 0 :: dd 22 []), [(6, .box [vI t.1, vI t.2.1, vI t.2.2.1, vI t.2.2.2.1, vI t.2.2.2.2])]⟩)
def ymI : Lp := lpC 2 (unG ypl y8w) @ykb lpN
theorem yty : LF ymH ymI 124 2 Tryz.f124 0 y8w @ykb fun t => t := fun R κ again t => by kernel_rfl
theorem ytz : LK ymH ymI 124 Tryz.f124 0 := lkN (u := (unG ypl y8w)) (yq fun t => by kernel_rfl) yty
theorem yz9 : EV ymH ymI 124 Tryz.f124 yre yAf yeP Wl := fun x => by kernel_rfl
def yCa : QF := ⟨124, Wl, okN (n := 1) Tryz.func124 ⟨ytz, trivial⟩ yz9⟩
abbrev km : Type := yuu
def kn (k0 : yh9 → Option R) (k1 : yut → Option R) (again : km → Option R) (t2 : km) : Option R :=
 bif (decide (t2.2.2.1 ≥ (0 : Int))) then if (0 : Int) ≤ t2.2.2.1 then if t2.2.2.1 < (List.length t2.2.2.2.1 : Int) then Option.bind (Wl ((yn t2.2.2.2.1 t2.2.2.1), t2.1, t2.2.1)) fun r1 => bif (!r1.2.2.2.2.2) then again (t2.1, t2.2.1, (Go.IntKind.wrap .i64 (t2.2.2.1 - (1 : Int))), t2.2.2.2.1, t2.2.2.2.2.1, t2.2.2.2.2.2.1, t2.2.2.2.2.2.2.1, t2.2.2.2.2.2.2.2.1, t2.2.2.2.2.2.2.2.2) else bif (r1.2.2.1 == (0 : Int)) then k0 t2.2.2.2.2 else k1 (true, r1.1, r1.2.1, r1.2.2.1, r1.2.2.2.1, r1.2.2.2.2.1) else none else none else k0 t2.2.2.2.2
def y0h k0 k1 := zS (@kn R k0 k1) Y4
def ko (x : ykI) : Option yeO :=
 y0h (fun x2 => some ((0 : Int), (0 : Int), (0 : Int), (0 : Int), (0 : Int), false)) (fun x3 => some (x3.2.1, x3.2.2.1, x3.2.2.2.1, x3.2.2.2.2.1, x3.2.2.2.2.2, x3.1)) (x.2.1, x.2.2, (Go.IntKind.wrap .i64 ((List.length x.1 : Int) - (1 : Int))), x.1, (0 : Int), (0 : Int), (0 : Int), (0 : Int), (0 : Int))
def ymJ : List QF := [yCa]
def y8x (t : yuu) : St := ⟨.dead :: vI t.1 :: vI t.2.1 :: .box 3 0 :: dd 2 (.box 6 0 :: .dead :: vI t.2.2.1 :: dd 28 []), [(3, .box [Yv t.2.2.2.1]), (6, .box [vI t.2.2.2.2.1, vI t.2.2.2.2.2.1, vI t.2.2.2.2.2.2.1, vI t.2.2.2.2.2.2.2.1, vI t.2.2.2.2.2.2.2.2])]⟩
def ykc : Gk km := fun κ => kn (fun t => κ (some 0) ⟨dd 6 (.box 6 0 :: dd 30 []), [(6, .box [vI t.1, vI t.2.1, vI t.2.2.1, vI t.2.2.2.1, vI t.2.2.2.2])]⟩) (fun t => κ none ⟨dd 6 (.box 6 0 :: vB t.1 :: dd 29 []), [(6, .box [vI t.2.1, vI t.2.2.1, vI t.2.2.2.1, vI t.2.2.2.2.1, vI t.2.2.2.2.2])]⟩)
def ymK : Lp := lpC 2 (unG yuv y8x) @ykc lpN
theorem ytA : LF ymJ ymK 122 2 Tryz.f122 0 y8x @ykc fun t => t := fun R κ again t => by kernel_rfl
theorem ytB : LK ymJ ymK 122 Tryz.f122 0 := lkN (u := (unG yuv y8x)) (yq fun t => by kernel_rfl) ytA
theorem yza : EV ymJ ymK 122 Tryz.f122 yrf yuw yeP ko := fun x => by kernel_rfl
def yEg : QF := ⟨122, ko, okN (n := 1) Tryz.func122 ⟨ytB, trivial⟩ yza⟩
def wi (x : yur) : Option yeO :=
 Option.bind (J4 x) fun r1 => Option.bind (yL (r1, (0 : Int), (Go.IntKind.wrap .i64 ((List.length x.2.1 : Int) - (1 : Int))))) fun r2 => bif (!r2) then some ((0 : Int), (0 : Int), (0 : Int), (0 : Int), (0 : Int), false) else if (0 : Int) ≤ r1 then if r1 < (List.length x.2.1 : Int) then Option.bind (ko ((ye x.2.1 r1), x.2.2.1, x.2.2.2)) fun r3 => some r3 else none else none
theorem yEh : EV [q47, q88, yEg] lpN 82 Tryz.f82 yBs yus yeP wi := fun x => by kernel_rfl
def q82 : QF := ⟨82, wi, okN (n := 0) Tryz.func82 trivial yEh⟩
def jQ (x : yux) : Option yeO :=
 Option.bind (we (x.2.2.1, x.2.2.2.2)) fun r1 => if (0 : Int) ≤ (if (List.length r1 : Int) < (1 : Int) then (List.length r1 : Int) else (1 : Int)) then if (if (List.length r1 : Int) < (1 : Int) then (List.length r1 : Int) else (1 : Int)) ≤ (List.length r1 : Int) then if (List.length r1 : Int) ≤ (List.length r1 : Int) then Option.bind (jx (x.1, x.2.1, x.2.2.2.1, (List.drop (Int.toNat (if (List.length r1 : Int) < (1 : Int) then (List.length r1 : Int) else (1 : Int))) (List.take (Int.toNat (List.length r1 : Int)) r1)))) fun r2 => some r2 else none else none else none
theorem yEi : EV [yC8, yC9] lpN 85 Tryz.f85 yBt yuy yeP jQ := fun x => by kernel_rfl
def q85 : QF := ⟨85, jQ, okN (n := 0) Tryz.func85 trivial yEi⟩
def wN (x : yAE) : Option Bool :=
 bif (x.2.2.2.2.2.2.1 == (1 : Int)) then Option.bind (jP (x.1, x.2.1, x.2.2.1, x.2.2.2.1, x.2.2.2.2.1, x.2.2.2.2.2.1, x.2.2.2.2.2.2.2)) fun r1 => some (!r1) else bif (x.2.2.2.2.2.2.1 == (2 : Int)) then Option.bind (jQ (x.1, x.2.1, x.2.2.1, x.2.2.2.2.2.2.2.1, x.2.2.2.2.2.2.2.2.1)) fun r2 => Option.bind (bif (x.2.2.2.2.2.2.2.2.2.1 == (2 : Int)) then some (!r2.2.2.2.2.2) else some false) fun u3 => some u3 else Option.bind (Zp (x.2.2.1, x.2.2.2.2.2.2.2.2.1)) fun r4 => Option.bind (K9 (x.1, x.2.1, x.2.2.1, x.2.2.2.1, x.2.2.2.2.1, x.2.2.2.2.2.1, x.2.2.2.2.2.2.2.2.1)) fun r5 => Option.bind (bif (!r5) then some true else some ((List.length r4 : Int) != (1 : Int))) fun u6 => bif u6 then some false else if (0 : Int) ≤ (0 : Int) then if (0 : Int) < (List.length r4 : Int) then Option.bind (wi (x.1, x.2.1, x.2.2.2.2.2.2.2.1, (zt r4 (0 : Int)))) fun r7 => some (!r7.2.2.2.2.2) else none else none
theorem yEj : EV [q26, q27, q28, q82, q85] lpN 61 Tryz.f61 yBu yAF [.bool] wN := fun x => by kernel_rfl
def q61 : QF := ⟨61, wN, okN (n := 0) Tryz.func61 trivial yEj⟩
abbrev v7 : Type := ypm
def jR (k0 : Bool → Option R) (k1 : Unit → Option R) (again : v7 → Option R) (t2 : v7) : Option R :=
 bif (decide (t2.2.2.2 < t2.2.2.1)) then if (0 : Int) ≤ t2.2.2.2 then if t2.2.2.2 < (List.length t2.2.1 : Int) then bif ((y6 t2.2.1 t2.2.2.2).2.1 == t2.1) then k0 true else again (t2.1, t2.2.1, t2.2.2.1, (Go.IntKind.wrap .i64 (t2.2.2.2 + (1 : Int)))) else none else none else k1 ()
def Qu k0 k1 := zS (@jR R k0 k1) Y4
def wO (x : ynP) : Option Bool :=
 Qu (fun x1 => some x1) (fun x2 => some false) (x.2, x.1, (List.length x.1 : Int), (0 : Int))
def yzb : List QF := []
def yc3 (t : ypm) : St := ⟨.dead :: vI t.1 :: dd 5 (qp t.2.1 :: vI t.2.2.1 :: vI t.2.2.2 :: dd 8 []), []⟩
def ytC : Gk v7 := fun κ => jR (fun t => κ none ⟨dd 4 (vB t :: dd 13 []), []⟩) (fun t => κ (some 0) ⟨dd 18 [], []⟩)
def yzc : Lp := lpC 2 (unG ypn yc3) @ytC lpN
theorem yzd : LF yzb yzc 62 2 Tryz.f62 0 yc3 @ytC fun t => t := fun R κ again t => by kernel_rfl
theorem yze : LK yzb yzc 62 Tryz.f62 0 := lkN (u := (unG ypn yc3)) (yq fun t => by kernel_rfl) yzd
theorem yEk : EV yzb yzc 62 Tryz.f62 yBv ynQ [.bool] wO := fun x => by kernel_rfl
def q62 : QF := ⟨62, wO, okN (n := 1) Tryz.func62 ⟨yze, trivial⟩ yEk⟩
abbrev Ka : Type := ypo
def jc (k0 : yvy → Option R) (k1 : ykO → Option R) (again : Ka → Option R) (t8 : Ka) : Option R :=
 bif (decide (t8.2.2.2.2.1 < t8.2.2.2.1)) then if (0 : Int) ≤ t8.2.2.2.2.1 then if t8.2.2.2.2.1 < (List.length t8.2.2.2.2.2.2.2.2.2.2.2.1 : Int) then Option.bind (wN (t8.2.2.2.2.2.1, t8.2.2.2.2.2.2.1, t8.2.2.2.2.2.2.2.1, t8.2.2.2.2.2.2.2.2.1, t8.2.2.2.2.2.2.2.2.2.1, t8.2.2.2.2.2.2.2.2.2.2.1, t8.1, (y6 t8.2.2.2.2.2.2.2.2.2.2.2.1 t8.2.2.2.2.1).1, (y6 t8.2.2.2.2.2.2.2.2.2.2.2.1 t8.2.2.2.2.1).2.1, (y6 t8.2.2.2.2.2.2.2.2.2.2.2.1 t8.2.2.2.2.1).2.2.1, (y6 t8.2.2.2.2.2.2.2.2.2.2.2.1 t8.2.2.2.2.1).2.2.2.1, (y6 t8.2.2.2.2.2.2.2.2.2.2.2.1 t8.2.2.2.2.1).2.2.2.2)) fun r3 => bif r3 then k0 (t8.1, t8.2.2.2.2.1, t8.2.1, t8.2.2.1, t8.2.2.2.2.2) else again (t8.1, t8.2.1, t8.2.2.1, t8.2.2.2.1, (Go.IntKind.wrap .i64 (t8.2.2.2.2.1 + (1 : Int))), t8.2.2.2.2.2.1, t8.2.2.2.2.2.2.1, t8.2.2.2.2.2.2.2.1, t8.2.2.2.2.2.2.2.2.1, t8.2.2.2.2.2.2.2.2.2.1, t8.2.2.2.2.2.2.2.2.2.2.1, t8.2.2.2.2.2.2.2.2.2.2.2.1, t8.2.2.2.2.2.2.2.2.2.2.2.2) else none else none else k1 (t8.2.1, t8.2.2.1, t8.2.2.2.2.2)
def qC k0 k1 := zS (@jc R k0 k1) Y4
abbrev Kb : Type := ykO
def jd (k0 : yjk → Option R) (k1 : yvz → Option R) (again : Kb → Option R) (t5 : Kb) : Option R :=
 bif (decide (t5.2.1 < t5.1)) then if (0 : Int) ≤ t5.2.1 then if t5.2.1 < (List.length t5.2.2.2.2.2.2.2.2.2 : Int) then qC (fun x4 => k0 (x4.1, x4.2.1, x4.2.2.2.2.1, x4.2.2.2.2.2.1, x4.2.2.2.2.2.2.1, x4.2.2.2.2.2.2.2.1, x4.2.2.2.2.2.2.2.2.1, x4.2.2.2.2.2.2.2.2.2.1, x4.2.2.2.2.2.2.2.2.2.2.1)) (fun x5 => again (x5.1, (Go.IntKind.wrap .i64 (x5.2.1 + (1 : Int))), x5.2.2.1, x5.2.2.2.1, x5.2.2.2.2.1, x5.2.2.2.2.2.1, x5.2.2.2.2.2.2.1, x5.2.2.2.2.2.2.2.1, x5.2.2.2.2.2.2.2.2.1, x5.2.2.2.2.2.2.2.2.2)) ((zt t5.2.2.2.2.2.2.2.2.2 t5.2.1), t5.1, t5.2.1, (List.length t5.2.2.2.2.2.2.2.2.1 : Int), (0 : Int), t5.2.2.1, t5.2.2.2.1, t5.2.2.2.2.1, t5.2.2.2.2.2.1, t5.2.2.2.2.2.2.1, t5.2.2.2.2.2.2.2.1, t5.2.2.2.2.2.2.2.2.1, t5.2.2.2.2.2.2.2.2.2) else none else none else k1 (t5.2.2.1, t5.2.2.2.1, t5.2.2.2.2.1, t5.2.2.2.2.2.1, t5.2.2.2.2.2.2.1, t5.2.2.2.2.2.2.2.1, t5.2.2.2.2.2.2.2.2.1)
def qD k0 k1 := zS (@jd R k0 k1) Y4
abbrev kp : Type := ypr
def Zs (k0 : yha → Option R) (k1 : Unit → Option R) (again : kp → Option R) (t15 : kp) : Option R :=
 bif (decide (t15.2.2.1 < t15.2.1)) then if (0 : Int) ≤ t15.2.2.1 then if t15.2.2.1 < (List.length t15.1 : Int) then Option.bind (K9 (t15.2.2.2.1, t15.2.2.2.2.1, t15.2.2.2.2.2.1, t15.2.2.2.2.2.2.1, t15.2.2.2.2.2.2.2.1, t15.2.2.2.2.2.2.2.2.1, (yG t15.1 t15.2.2.1).1)) fun r8 => Option.bind (bif r8 then Option.bind (Zp (t15.2.2.2.2.2.1, (yG t15.1 t15.2.2.1).1)) fun r10 => some (decide ((List.length r10 : Int) ≤ (1 : Int))) else some false) fun u9 => Option.bind (bif u9 then Option.bind (wO (t15.2.2.2.2.2.2.2.2.2, (yG t15.1 t15.2.2.1).1)) fun r12 => some (!r12) else some false) fun u11 => bif u11 then k0 ((4 : Int), t15.2.2.1) else again (t15.1, t15.2.1, (Go.IntKind.wrap .i64 (t15.2.2.1 + (1 : Int))), t15.2.2.2.1, t15.2.2.2.2.1, t15.2.2.2.2.2.1, t15.2.2.2.2.2.2.1, t15.2.2.2.2.2.2.2.1, t15.2.2.2.2.2.2.2.2.1, t15.2.2.2.2.2.2.2.2.2) else none else none else k1 ()
def VJ k0 k1 := zS (@Zs R k0 k1) Y4
def Z1 (x : Qz9) : Option yha :=
 Option.bind (zO x) fun r1 => bif (!r1) then some ((0 : Int), (0 : Int)) else Option.bind (za (x.1, x.2.1)) fun r2 => qD (fun x6 => some (x6.1, x6.2.1)) (fun x7 => VJ (fun x13 => some x13) (fun x14 => some ((0 : Int), (0 : Int))) (x7.2.2.1, (List.length x7.2.2.1 : Int), (0 : Int), x7.1, x7.2.1, x7.2.2.1, x7.2.2.2.1, x7.2.2.2.2.1, x7.2.2.2.2.2.1, x7.2.2.2.2.2.2)) (((List.length ([(1 : Int), (2 : Int), (3 : Int)] : List yb) : Nat) : Int), (0 : Int), x.1, x.2.1, x.2.2.1, x.2.2.2.1, x.2.2.2.2.1, x.2.2.2.2.2, r2, ([(1 : Int), (2 : Int), (3 : Int)] : List yb))
def ymL : List QF := [q19, q23, q27, q28, q61, q62]
def yc4 (t : ypo) : St := ⟨.dead :: .box 1 0 :: dd 2 (.own 10000000 :: .dead :: vI t.1 :: dd 10 (.own 10000001 :: vI t.2.1 :: vI t.2.2.1 :: dd 3 (.own 10000000 :: vI t.2.2.2.1 :: vI t.2.2.2.2.1 :: dd 42 []))), [(1, .box [zi t.2.2.2.2.2.1, yE t.2.2.2.2.2.2.1, zu t.2.2.2.2.2.2.2.1, z0 t.2.2.2.2.2.2.2.2.1, zW t.2.2.2.2.2.2.2.2.2.1, vI t.2.2.2.2.2.2.2.2.2.2.1]), (10000000, .root true 63 yg t.2.2.2.2.2.2.2.2.2.2.2.1), (10000001, .root true 3 yd t.2.2.2.2.2.2.2.2.2.2.2.2)]⟩
def ytD : Gk Ka := fun κ => jc (fun t => κ none ⟨.dead :: .box 1 0 :: vI t.1 :: vI t.2.1 :: .own 10000000 :: dd 12 (.own 10000001 :: vI t.2.2.1 :: vI t.2.2.2.1 :: dd 48 []), [(1, .box [zi t.2.2.2.2.1, yE t.2.2.2.2.2.1, zu t.2.2.2.2.2.2.1, z0 t.2.2.2.2.2.2.2.1, zW t.2.2.2.2.2.2.2.2.1, vI t.2.2.2.2.2.2.2.2.2.1]), (10000000, .root true 63 yg t.2.2.2.2.2.2.2.2.2.2.1), (10000001, .root true 3 yd t.2.2.2.2.2.2.2.2.2.2.2)]⟩) (fun t => κ (some 2) ⟨.dead :: .box 1 0 :: dd 2 (.own 10000000 :: dd 12 (.own 10000001 :: vI t.1 :: vI t.2.1 :: dd 48 [])), [(1, .box [zi t.2.2.1, yE t.2.2.2.1, zu t.2.2.2.2.1, z0 t.2.2.2.2.2.1, zW t.2.2.2.2.2.2.1, vI t.2.2.2.2.2.2.2.1]), (10000000, .root true 63 yg t.2.2.2.2.2.2.2.2.1), (10000001, .root true 3 yd t.2.2.2.2.2.2.2.2.2)]⟩)
def yc5 (t : ykO) : St := ⟨.dead :: .box 1 0 :: dd 2 (.own 10000000 :: dd 12 (.own 10000001 :: vI t.1 :: vI t.2.1 :: dd 48 [])), [(1, .box [zi t.2.2.1, yE t.2.2.2.1, zu t.2.2.2.2.1, z0 t.2.2.2.2.2.1, zW t.2.2.2.2.2.2.1, vI t.2.2.2.2.2.2.2.1]), (10000000, .root true 63 yg t.2.2.2.2.2.2.2.2.1), (10000001, .root true 3 yd t.2.2.2.2.2.2.2.2.2)]⟩
def ytE : Gk Kb := fun κ => jd (fun t => κ none ⟨.dead :: .box 1 0 :: vI t.1 :: vI t.2.1 :: .own 10000000 :: dd 63 [], [(1, .box [zi t.2.2.1, yE t.2.2.2.1, zu t.2.2.2.2.1, z0 t.2.2.2.2.2.1, zW t.2.2.2.2.2.2.1, vI t.2.2.2.2.2.2.2.1]), (10000000, .root true 63 yg t.2.2.2.2.2.2.2.2)]⟩) (fun t => κ (some 0) ⟨.dead :: .box 1 0 :: dd 2 (.own 10000000 :: dd 63 []), [(1, .box [zi t.1, yE t.2.1, zu t.2.2.1, z0 t.2.2.2.1, zW t.2.2.2.2.1, vI t.2.2.2.2.2.1]), (10000000, .root true 63 yg t.2.2.2.2.2.2)]⟩)
def y8y (t : ypr) : St := ⟨.dead :: .box 1 0 :: dd 2 (.own 10000000 :: dd 34 (zu t.1 :: vI t.2.1 :: vI t.2.2.1 :: dd 26 [])), [(1, .box [zi t.2.2.2.1, yE t.2.2.2.2.1, zu t.2.2.2.2.2.1, z0 t.2.2.2.2.2.2.1, zW t.2.2.2.2.2.2.2.1, vI t.2.2.2.2.2.2.2.2.1]), (10000000, .root true 63 yg t.2.2.2.2.2.2.2.2.2)]⟩
def ykd : Gk kp := fun κ => Zs (fun t => κ none ⟨dd 2 (vI t.1 :: vI t.2 :: dd 64 []), []⟩) (fun t => κ (some 4) ⟨dd 68 [], []⟩)
def ymM : Lp := lpC 15 (unG yps y8y) @ykd (lpC 5 (unG ypq yc5) @ytE (lpC 8 (unG ypp yc4) @ytD lpN))
theorem yzf : LF ymL ymM 22 8 Tryz.f22 1 yc4 @ytD fun t => t := fun R κ again t => by kernel_rfl
theorem yzg : LK ymL ymM 22 Tryz.f22 1 := lkN (u := (unG ypp yc4)) (yq fun t => by kernel_rfl) yzf
theorem yzh : LF ymL ymM 22 5 Tryz.f22 0 yc5 @ytE fun t => t := fun R κ again t => by kernel_rfl
theorem yzi : LK ymL ymM 22 Tryz.f22 0 := lkN (u := (unG ypq yc5)) (yq fun t => by kernel_rfl) yzh
theorem ytF : LF ymL ymM 22 15 Tryz.f22 2 y8y @ykd fun t => t := fun R κ again t => by kernel_rfl
theorem ytG : LK ymL ymM 22 Tryz.f22 2 := lkN (u := (unG yps y8y)) (yq fun t => by kernel_rfl) ytF
theorem yEl : EV ymL ymM 22 Tryz.f22 yBw qz9 ykF Z1 := fun x => by kernel_rfl
def q22 : QF := ⟨22, Z1, okN (n := 3) Tryz.func22 ⟨yzi, yzg, ytG, trivial⟩ yEl⟩
def je (x : List yb) : Option (List yb) :=
 if (List.length ([] : List yb) + List.length x) * 8 < 140737488355328 then some (([] : List yb) ++ x) else none
theorem yzj : EV [] lpN 120 Tryz.f120 yrg [(.sl 3 yd)] [(.sl 3 yd)] je := fun x => by kernel_rfl
def yCb : QF := ⟨120, je, okN (n := 0) Tryz.func120 trivial yzj⟩
abbrev Kc : Type := ykI ⊕ yfL
def Yo (k0 : Unit → Option R) (k1 : List ya → Option R) (again : Kc → Option R) : Kc → Option R
 | .inl t3 => bif (decide (t3.2.2 < t3.2.1)) then if (0 : Int) ≤ t3.2.2 then if t3.2.2 < (List.length t3.1 : Int) then Option.bind (Ya (yn t3.1 t3.2.2)) fun r1 => if List.length ([r1] : List ya) * 24 < 140737488355328 then again (Sum.inr (t3.1, t3.2.1, (Go.IntKind.wrap .i64 (t3.2.2 + (1 : Int))), ([r1] : List ya))) else none else none else none else k0 ()
 | .inr t3 => bif (decide (t3.2.2.1 < t3.2.1)) then if (0 : Int) ≤ t3.2.2.1 then if t3.2.2.1 < (List.length t3.1 : Int) then Option.bind (Ya (yn t3.1 t3.2.2.1)) fun r2 => if (List.length t3.2.2.2 + List.length ([r2] : List ya)) * 24 < 140737488355328 then again (Sum.inr (t3.1, t3.2.1, (Go.IntKind.wrap .i64 (t3.2.2.1 + (1 : Int))), (t3.2.2.2 ++ ([r2] : List ya)))) else none else none else none else k1 t3.2.2.2
def qE k0 k1 := zS (@Yo R k0 k1) Y4
def zG (x : List ya) : Option (List ya) :=
 qE (fun x3 => some ([] : List ya)) (fun x4 => some x4) (Sum.inl (x, (List.length x : Int), (0 : Int)))
def ygj : List QF := [yxT]
def y4h (t : ykI) : St := ⟨dd 2 (.box 2 0 :: .box 3 0 :: dd 4 (Yv t.1 :: vI t.2.1 :: vI t.2.2 :: dd 12 [])), [(2, .box [.nils]), (3, .box [.nils])]⟩
theorem yij : ∀ s t, unG yuw y4h s = some t → y4h t = s := yq fun t => by kernel_rfl
def y4i (t : yfL) : St := ⟨dd 2 (.box 2 0 :: .box 3 0 :: dd 4 (Yv t.1 :: vI t.2.1 :: vI t.2.2.1 :: dd 12 [])), [(2, .box [.nils]), (3, .box [.own 10000000]), (10000000, .root true 58 yp t.2.2.2)]⟩
theorem yik : ∀ s t, unG ypt y4i s = some t → y4i t = s := yq fun t => by kernel_rfl
def y4j : (ykI ⊕ yfL) → St := Sum.elim y4h y4i
def y8z (s : St) : Option (ykI ⊕ yfL) := ((unG yuw y4h s).map Sum.inl).or (((unG ypt y4i) s).map Sum.inr)
theorem yil : ∀ s t, y8z s = some t → y4j t = s := y9V yij yik
def ydb : Gk Kc := fun κ => Yo (fun t => κ (some 0) ⟨dd 2 (.box 2 0 :: .box 3 0 :: dd 19 []), [(2, .box [.nils]), (3, .box [.nils])]⟩) (fun t => κ (some 0) ⟨dd 2 (.box 2 0 :: .box 3 0 :: dd 19 []), [(2, .box [.nils]), (3, .box [.own 10000000]), (10000000, .root true 58 yp t)]⟩)
def ygk : Lp := lpC 3 y8z @ydb lpN
theorem yim : LF ygj ygk 121 3 Tryz.f121 0 y4j @ydb fun v : ykI => .inl v := fun R κ again v => by kernel_rfl
theorem yin : LF ygj ygk 121 3 Tryz.f121 0 y4j @ydb fun v : yfL => .inr v := fun R κ again v => by kernel_rfl
theorem ytH : LF ygj ygk 121 3 Tryz.f121 0 y4j @ydb fun t => t := (LC.sum yim yin)
theorem ytI : LK ygj ygk 121 Tryz.f121 0 := lkN (u := y8z) yil ytH
theorem yzk : EV ygj ygk 121 Tryz.f121 yrh [(.sl 58 yp)] [(.sl 58 yp)] zG := fun x => by kernel_rfl
def yCc : QF := ⟨121, zG, okN (n := 1) Tryz.func121 ⟨ytI, trivial⟩ yzk⟩
abbrev Kd : Type := yfM ⊕ yfN
def Yp (k0 : List yb → Option R) (k1 : Qz8 → Option R) (again : Kd → Option R) : Kd → Option R
 | .inl t3 => bif (decide (t3.2.2.1 < t3.2.1)) then if (0 : Int) ≤ t3.2.2.1 then if t3.2.2.1 < (List.length t3.1 : Int) then Option.bind (zG (ye t3.1 t3.2.2.1)) fun r2 => if List.length ([r2] : List y0) * 24 < 140737488355328 then again (Sum.inr (t3.1, t3.2.1, (Go.IntKind.wrap .i64 (t3.2.2.1 + (1 : Int))), t3.2.2.2, ([r2] : List y0))) else none else none else none else k0 t3.2.2.2
 | .inr t3 => bif (decide (t3.2.2.1 < t3.2.1)) then if (0 : Int) ≤ t3.2.2.1 then if t3.2.2.1 < (List.length t3.1 : Int) then Option.bind (zG (ye t3.1 t3.2.2.1)) fun r3 => if (List.length t3.2.2.2.2 + List.length ([r3] : List y0)) * 24 < 140737488355328 then again (Sum.inr (t3.1, t3.2.1, (Go.IntKind.wrap .i64 (t3.2.2.1 + (1 : Int))), t3.2.2.2.1, (t3.2.2.2.2 ++ ([r3] : List y0)))) else none else none else none else k1 t3.2.2.2
def qF k0 k1 := zS (@Yp R k0 k1) Y4
def zH (x : Qz8) : Option Qz8 :=
 Option.bind (je x.1) fun r1 => qF (fun x4 => some (x4, ([] : List y0))) (fun x5 => some x5) (Sum.inl (x.2, (List.length x.2 : Int), (0 : Int), r1))
def ytJ : List QF := [yCb, yCc]
def y8A (t : yfM) : St := ⟨dd 2 (.box 2 0 :: .box 3 0 :: dd 7 (yE t.1 :: vI t.2.1 :: vI t.2.2.1 :: dd 12 [])), [(2, .box [.nils, .nils]), (3, .box [.own 10000000, .nils]), (10000000, .root true 3 yd t.2.2.2)]⟩
theorem ymN : ∀ s t, unG ypu y8A s = some t → y8A t = s := yq fun t => by kernel_rfl
def y8B (t : yfN) : St := ⟨dd 2 (.box 2 0 :: .box 3 0 :: dd 7 (yE t.1 :: vI t.2.1 :: vI t.2.2.1 :: dd 12 [])), [(2, .box [.nils, .nils]), (3, .box [.own 10000000, .own 10000001]), (10000000, .root true 3 yd t.2.2.2.1), (10000001, .root true 99 yl t.2.2.2.2)]⟩
theorem ymO : ∀ s t, unG ypv y8B s = some t → y8B t = s := yq fun t => by kernel_rfl
def y8C : (yfM ⊕ yfN) → St := Sum.elim y8A y8B
def yc6 (s : St) : Option (yfM ⊕ yfN) := ((unG ypu y8A s).map Sum.inl).or (((unG ypv y8B) s).map Sum.inr)
theorem ymP : ∀ s t, yc6 s = some t → y8C t = s := y9V ymN ymO
def yio : Gk Kd := fun κ => Yp (fun t => κ (some 0) ⟨dd 2 (.box 2 0 :: .box 3 0 :: dd 22 []), [(2, .box [.nils, .nils]), (3, .box [.own 10000000, .nils]), (10000000, .root true 3 yd t)]⟩) (fun t => κ (some 0) ⟨dd 2 (.box 2 0 :: .box 3 0 :: dd 22 []), [(2, .box [.nils, .nils]), (3, .box [.own 10000000, .own 10000001]), (10000000, .root true 3 yd t.1), (10000001, .root true 99 yl t.2)]⟩)
def ytK : Lp := lpC 3 yc6 @yio lpN
theorem ymQ : LF ytJ ytK 79 3 Tryz.f79 0 y8C @yio fun v : yfM => .inl v := fun R κ again v => by kernel_rfl
theorem ymR : LF ytJ ytK 79 3 Tryz.f79 0 y8C @yio fun v : yfN => .inr v := fun R κ again v => by kernel_rfl
theorem yzl : LF ytJ ytK 79 3 Tryz.f79 0 y8C @yio fun t => t := (LC.sum ymQ ymR)
theorem yzm : LK ytJ ytK 79 Tryz.f79 0 := lkN (u := yc6) ymP yzl
theorem yEm : EV ytJ ytK 79 Tryz.f79 yBx qz8 qz8 zH := fun x => by kernel_rfl
def q79 : QF := ⟨79, zH, okN (n := 1) Tryz.func79 ⟨yzm, trivial⟩ yEm⟩
def Z2 (x : List y9) : Option (List y9) :=
 if (List.length ([] : List y9) + List.length x) * 16 < 140737488355328 then some (([] : List y9) ++ x) else none
theorem yEn : EV [] lpN 80 Tryz.f80 yBy [(.sl 67 yo)] [(.sl 67 yo)] Z2 := fun x => by kernel_rfl
def q80 : QF := ⟨80, Z2, okN (n := 0) Tryz.func80 trivial yEn⟩
def YF (x : List y8) : Option (List y8) :=
 if (List.length ([] : List y8) + List.length x) * 24 < 140737488355328 then some (([] : List y8) ++ x) else none
theorem yEo : EV [] lpN 81 Tryz.f81 yBz [(.sl 53 yj)] [(.sl 53 yj)] YF := fun x => by kernel_rfl
def q81 : QF := ⟨81, YF, okN (n := 0) Tryz.func81 trivial yEo⟩
def jg (x : Qz9) : Option Qz9 :=
 Option.bind (zH (x.1, x.2.1)) fun r1 => Option.bind (Z2 x.2.2.1) fun r2 => Option.bind (YF x.2.2.2.1) fun r3 => if (List.length ([] : List yh) + List.length x.2.2.2.2.1) * 40 < 140737488355328 then some (r1.1, r1.2, r2, r3, (([] : List yh) ++ x.2.2.2.2.1), x.2.2.2.2.2) else none
theorem yEp : EV [q79, q80, q81] lpN 39 Tryz.f39 yBA qz9 qz9 jg := fun x => by kernel_rfl
def q39 : QF := ⟨39, jg, okN (n := 0) Tryz.func39 trivial yEp⟩
def zY (x : yv1) : Option (List y7) :=
 Option.bind (yR x.1) fun r1 => Option.bind (jw (r1, x.2)) fun r2 => Option.bind (JC r2) fun r3 => some r3
theorem yEq : EV [q63, yC7, yxR] lpN 90 Tryz.f90 yBB yv2 [(.sl 63 yg)] zY := fun x => by kernel_rfl
def q90 : QF := ⟨90, zY, okN (n := 0) Tryz.func90 trivial yEq⟩
def zC (x : List y7) : Option (List ya) :=
 bif ((List.length x : Int) == (0 : Int)) then some ([] : List ya) else Option.bind (Ya x) fun r1 => some ([r1] : List ya)
theorem yEr : EV [yxT] lpN 93 Tryz.f93 yBC [(.sl 63 yg)] [(.sl 58 yp)] zC := fun x => by kernel_rfl
def q93 : QF := ⟨93, zC, okN (n := 0) Tryz.func93 trivial yEr⟩
def wP (x : yv1) : Option yAg :=
 Option.bind (zG x.1) fun r1 => bif (decide ((Go.IntKind.wrap .i64 ((List.length x.1 : Int) - (1 : Int))) ≥ (0 : Int))) then if (0 : Int) ≤ (Go.IntKind.wrap .i64 ((List.length x.1 : Int) - (1 : Int))) then if (Go.IntKind.wrap .i64 ((List.length x.1 : Int) - (1 : Int))) < (List.length x.1 : Int) then Option.bind (Wl ((yn x.1 (Go.IntKind.wrap .i64 ((List.length x.1 : Int) - (1 : Int)))), x.2.1, x.2.2.1)) fun r2 => Option.bind (bif r2.2.2.2.2.2 then some true else if (0 : Int) ≤ (Go.IntKind.wrap .i64 ((List.length x.1 : Int) - (1 : Int))) then if (Go.IntKind.wrap .i64 ((List.length x.1 : Int) - (1 : Int))) < (List.length x.1 : Int) then some (decide (((List.length (yn x.1 (Go.IntKind.wrap .i64 ((List.length x.1 : Int) - (1 : Int)))) : Nat) : Int) < (4 : Int))) else none else none) fun u3 => bif u3 then if (0 : Int) ≤ (Go.IntKind.wrap .i64 ((List.length x.1 : Int) - (1 : Int))) then if (Go.IntKind.wrap .i64 ((List.length x.1 : Int) - (1 : Int))) < (List.length x.1 : Int) then Option.bind (jw ((yn x.1 (Go.IntKind.wrap .i64 ((List.length x.1 : Int) - (1 : Int)))), x.2.1, x.2.2.1, x.2.2.2.1, x.2.2.2.2.1, x.2.2.2.2.2)) fun r4 => if (0 : Int) ≤ (Go.IntKind.wrap .i64 ((List.length x.1 : Int) - (1 : Int))) then if (Go.IntKind.wrap .i64 ((List.length x.1 : Int) - (1 : Int))) < (List.length r1 : Int) then Option.bind (zM (List.set r1 (Int.toNat (Go.IntKind.wrap .i64 ((List.length x.1 : Int) - (1 : Int)))) r4)) fun r5 => bif r5 then some ((List.set r1 (Int.toNat (Go.IntKind.wrap .i64 ((List.length x.1 : Int) - (1 : Int)))) r4), true) else Option.bind (zY x) fun r6 => Option.bind (zC r6) fun r7 => Option.bind (bif (decide ((List.length r6 : Int) > (8 : Int))) then some true else Option.bind (zM r7) fun r9 => some (!r9)) fun u8 => bif u8 then Option.bind (zG x.1) fun r10 => some (r10, false) else some (r7, true) else none else none else none else none else if (List.length r1 + List.length ([([x.2] : List y7)] : List ya)) * 24 < 140737488355328 then Option.bind (zM (r1 ++ ([([x.2] : List y7)] : List ya))) fun r11 => bif r11 then some ((r1 ++ ([([x.2] : List y7)] : List ya)), true) else Option.bind (zY x) fun r12 => Option.bind (zC r12) fun r13 => Option.bind (bif (decide ((List.length r12 : Int) > (8 : Int))) then some true else Option.bind (zM r13) fun r15 => some (!r15)) fun u14 => bif u14 then Option.bind (zG x.1) fun r16 => some (r16, false) else some (r13, true) else none else none else none else if (List.length r1 + List.length ([([x.2] : List y7)] : List ya)) * 24 < 140737488355328 then Option.bind (zM (r1 ++ ([([x.2] : List y7)] : List ya))) fun r17 => bif r17 then some ((r1 ++ ([([x.2] : List y7)] : List ya)), true) else Option.bind (zY x) fun r18 => Option.bind (zC r18) fun r19 => Option.bind (bif (decide ((List.length r18 : Int) > (8 : Int))) then some true else Option.bind (zM r19) fun r21 => some (!r21)) fun u20 => bif u20 then Option.bind (zG x.1) fun r22 => some (r22, false) else some (r19, true) else none
theorem yEs : EV [q90, q93, q95, yCc, yCa, yxR] lpN 89 Tryz.f89 yBD yv2 yAh wP := fun x => by kernel_rfl
def q89 : QF := ⟨89, wP, okN (n := 0) Tryz.func89 trivial yEs⟩
def Yc (x : yvA) : Option Qz8 :=
 if (0 : Int) ≤ (0 : Int) then if (0 : Int) ≤ x.2.2.1 then if x.2.2.1 ≤ (List.length x.1 : Int) then Option.bind (je (List.drop (Int.toNat (0 : Int)) (List.take (Int.toNat x.2.2.1) x.1))) fun r1 => if (List.length r1 + List.length x.2.2.2.2.1) * 8 < 140737488355328 then if (0 : Int) ≤ (Go.IntKind.wrap .i64 (x.2.2.1 + x.2.2.2.1)) then if (Go.IntKind.wrap .i64 (x.2.2.1 + x.2.2.2.1)) ≤ (List.length x.1 : Int) then if (List.length x.1 : Int) ≤ (List.length x.1 : Int) then if (List.length (r1 ++ x.2.2.2.2.1) + List.length (List.drop (Int.toNat (Go.IntKind.wrap .i64 (x.2.2.1 + x.2.2.2.1))) (List.take (Int.toNat (List.length x.1 : Int)) x.1))) * 8 < 140737488355328 then if (0 : Int) ≤ (0 : Int) then if (0 : Int) ≤ x.2.2.1 then if x.2.2.1 ≤ (List.length x.2.1 : Int) then if (List.length ([] : List y0) + List.length (List.drop (Int.toNat (0 : Int)) (List.take (Int.toNat x.2.2.1) x.2.1))) * 24 < 140737488355328 then if (List.length (([] : List y0) ++ (List.drop (Int.toNat (0 : Int)) (List.take (Int.toNat x.2.2.1) x.2.1))) + List.length x.2.2.2.2.2) * 24 < 140737488355328 then if (0 : Int) ≤ (Go.IntKind.wrap .i64 (x.2.2.1 + x.2.2.2.1)) then if (Go.IntKind.wrap .i64 (x.2.2.1 + x.2.2.2.1)) ≤ (List.length x.2.1 : Int) then if (List.length x.2.1 : Int) ≤ (List.length x.2.1 : Int) then if (List.length ((([] : List y0) ++ (List.drop (Int.toNat (0 : Int)) (List.take (Int.toNat x.2.2.1) x.2.1))) ++ x.2.2.2.2.2) + List.length (List.drop (Int.toNat (Go.IntKind.wrap .i64 (x.2.2.1 + x.2.2.2.1))) (List.take (Int.toNat (List.length x.2.1 : Int)) x.2.1))) * 24 < 140737488355328 then some (((r1 ++ x.2.2.2.2.1) ++ (List.drop (Int.toNat (Go.IntKind.wrap .i64 (x.2.2.1 + x.2.2.2.1))) (List.take (Int.toNat (List.length x.1 : Int)) x.1))), (((([] : List y0) ++ (List.drop (Int.toNat (0 : Int)) (List.take (Int.toNat x.2.2.1) x.2.1))) ++ x.2.2.2.2.2) ++ (List.drop (Int.toNat (Go.IntKind.wrap .i64 (x.2.2.1 + x.2.2.2.1))) (List.take (Int.toNat (List.length x.2.1 : Int)) x.2.1)))) else none else none else none else none else none else none else none else none else none else none else none else none else none else none else none else none else none
theorem yEt : EV [yCb] lpN 91 Tryz.f91 yBE yvB qz8 Yc := fun x => by kernel_rfl
def q91 : QF := ⟨91, Yc, okN (n := 0) Tryz.func91 trivial yEt⟩
abbrev Vg : Type := yaY ⊕ yaY
def Vh (k0 : Qz8 → Option R) (k1 : Qz8 → Option R) (again : Vg → Option R) : Vg → Option R
 | .inl t2 => bif (decide ((Go.IntKind.wrap .i64 (t2.1 + (1 : Int))) < (List.length t2.2.2 : Int))) then if (0 : Int) ≤ t2.1 then if t2.1 < (List.length t2.2.2 : Int) then Option.bind (yR (ye t2.2.2 t2.1)) fun r1 => if (0 : Int) ≤ (Go.IntKind.wrap .i64 (t2.1 + (1 : Int))) then if (Go.IntKind.wrap .i64 (t2.1 + (1 : Int))) < (List.length t2.2.2 : Int) then Option.bind (yR (ye t2.2.2 (Go.IntKind.wrap .i64 (t2.1 + (1 : Int))))) fun r2 => if (List.length r1 + List.length r2) * 40 < 140737488355328 then bif (decide ((List.length (r1 ++ r2) : Int) ≤ (6 : Int))) then if (0 : Int) ≤ t2.1 then if t2.1 < (List.length t2.2.1 : Int) then Option.bind (zC (r1 ++ r2)) fun r3 => Option.bind (Yc (t2.2.1, t2.2.2, t2.1, (2 : Int), ([(zt t2.2.1 t2.1)] : List yb), ([r3] : List y0))) fun r4 => again (Sum.inr ((Go.IntKind.wrap .i64 ((-1 : Int) + (1 : Int))), r4.1, r4.2)) else none else none else again (Sum.inl ((Go.IntKind.wrap .i64 (t2.1 + (1 : Int))), t2.2.1, t2.2.2)) else none else none else none else none else none else k0 t2.2
 | .inr t2 => bif (decide ((Go.IntKind.wrap .i64 (t2.1 + (1 : Int))) < (List.length t2.2.2 : Int))) then if (0 : Int) ≤ t2.1 then if t2.1 < (List.length t2.2.2 : Int) then Option.bind (yR (ye t2.2.2 t2.1)) fun r5 => if (0 : Int) ≤ (Go.IntKind.wrap .i64 (t2.1 + (1 : Int))) then if (Go.IntKind.wrap .i64 (t2.1 + (1 : Int))) < (List.length t2.2.2 : Int) then Option.bind (yR (ye t2.2.2 (Go.IntKind.wrap .i64 (t2.1 + (1 : Int))))) fun r6 => if (List.length r5 + List.length r6) * 40 < 140737488355328 then bif (decide ((List.length (r5 ++ r6) : Int) ≤ (6 : Int))) then if (0 : Int) ≤ t2.1 then if t2.1 < (List.length t2.2.1 : Int) then Option.bind (zC (r5 ++ r6)) fun r7 => Option.bind (Yc (t2.2.1, t2.2.2, t2.1, (2 : Int), ([(zt t2.2.1 t2.1)] : List yb), ([r7] : List y0))) fun r8 => again (Sum.inr ((Go.IntKind.wrap .i64 ((-1 : Int) + (1 : Int))), r8.1, r8.2)) else none else none else again (Sum.inr ((Go.IntKind.wrap .i64 (t2.1 + (1 : Int))), t2.2.1, t2.2.2)) else none else none else none else none else none else k1 t2.2
def y0i k0 k1 := zS (@Vh R k0 k1) Y4
def Zt (x : Qz8) : Option Qz8 :=
 y0i (fun x9 => some x9) (fun x10 => some x10) (Sum.inl ((0 : Int), x.1, x.2))
def ytL : List QF := [q63, q91, q93]
def y8D (t : yaY) : St := ⟨.dead :: .box 1 0 :: .box 2 0 :: vI t.1 :: dd 39 [], [(1, .box [zi t.2.1, yE t.2.2]), (2, .box [.nils, .nils])]⟩
theorem ymS : ∀ s t, unG yhb y8D s = some t → y8D t = s := yq fun t => by kernel_rfl
def y8E (t : yaY) : St := ⟨.dead :: .box 1 0 :: .box 2 0 :: vI t.1 :: dd 39 [], [(1, .box [.own 10000000, .own 10000001]), (2, .box [.nils, .nils]), (10000000, .root true 3 yd t.2.1), (10000001, .root true 99 yl t.2.2)]⟩
theorem ymT : ∀ s t, unG yhb y8E s = some t → y8E t = s := yq fun t => by kernel_rfl
def y8F : (yaY ⊕ yaY) → St := Sum.elim y8D y8E
def yc7 (s : St) : Option (yaY ⊕ yaY) := ((unG yhb y8D s).map Sum.inl).or (((unG yhb y8E) s).map Sum.inr)
theorem ymU : ∀ s t, yc7 s = some t → y8F t = s := y9V ymS ymT
def yip : Gk Vg := fun κ => Vh (fun t => κ (some 0) ⟨.dead :: .box 1 0 :: .box 2 0 :: dd 40 [], [(1, .box [zi t.1, yE t.2]), (2, .box [.nils, .nils])]⟩) (fun t => κ (some 0) ⟨.dead :: .box 1 0 :: .box 2 0 :: dd 40 [], [(1, .box [.own 10000000, .own 10000001]), (2, .box [.nils, .nils]), (10000000, .root true 3 yd t.1), (10000001, .root true 99 yl t.2)]⟩)
def ytM : Lp := lpC 2 yc7 @yip lpN
theorem ymV : LF ytL ytM 94 2 Tryz.f94 0 y8F @yip fun v : yaY => .inl v := fun R κ again v => by kernel_rfl
theorem ymW : LF ytL ytM 94 2 Tryz.f94 0 y8F @yip fun v : yaY => .inr v := fun R κ again v => by kernel_rfl
theorem yzn : LF ytL ytM 94 2 Tryz.f94 0 y8F @yip fun t => t := (LC.sum ymV ymW)
theorem yzo : LK ytL ytM 94 Tryz.f94 0 := lkN (u := yc7) ymU yzn
theorem yEu : EV ytL ytM 94 Tryz.f94 yBF qz8 qz8 Zt := fun x => by kernel_rfl
def q94 : QF := ⟨94, Zt, okN (n := 1) Tryz.func94 ⟨yzo, trivial⟩ yEu⟩
def ZF (x : yAi) : Option yAk :=
 Option.bind (Yu (x.1, x.2.1)) fun r1 => Option.bind (bif (!r1) then some true else Option.bind (Wk x.2.2) fun r3 => some (!r3)) fun u2 => bif u2 then Option.bind (zH (x.1, x.2.1)) fun r4 => some (r4.1, r4.2, false) else Option.bind (J4 (x.1, x.2.1, x.2.2.1, x.2.2.2.1)) fun r5 => Option.bind (zH (x.1, x.2.1)) fun r6 => if (0 : Int) ≤ r5 then if r5 < (List.length r6.2 : Int) then Option.bind (wP ((ye r6.2 r5), x.2.2.1, x.2.2.2.1, x.2.2.2.2.1, x.2.2.2.2.2.1, x.2.2.2.2.2.2)) fun r7 => bif (!r7.2) then if (0 : Int) ≤ r5 then if r5 < (List.length r6.2 : Int) then Option.bind (zY ((ye r6.2 r5), x.2.2.1, x.2.2.2.1, x.2.2.2.2.1, x.2.2.2.2.2.1, x.2.2.2.2.2.2)) fun r8 => if (0 : Int) ≤ (Go.IntKind.wrap .i64 (Int.tdiv (Go.IntKind.wrap .i64 ((List.length r8 : Int) + (1 : Int))) (2 : Int))) then if (Go.IntKind.wrap .i64 (Int.tdiv (Go.IntKind.wrap .i64 ((List.length r8 : Int) + (1 : Int))) (2 : Int))) < (List.length r8 : Int) then if (0 : Int) ≤ r5 then if r5 < (List.length x.1 : Int) then Option.bind (Zo ((y6 r8 (Go.IntKind.wrap .i64 (Int.tdiv (Go.IntKind.wrap .i64 ((List.length r8 : Int) + (1 : Int))) (2 : Int)))).1, (y6 r8 (Go.IntKind.wrap .i64 (Int.tdiv (Go.IntKind.wrap .i64 ((List.length r8 : Int) + (1 : Int))) (2 : Int)))).2.1)) fun r9 => if (0 : Int) ≤ (0 : Int) then if (0 : Int) ≤ (Go.IntKind.wrap .i64 (Int.tdiv (Go.IntKind.wrap .i64 ((List.length r8 : Int) + (1 : Int))) (2 : Int))) then if (Go.IntKind.wrap .i64 (Int.tdiv (Go.IntKind.wrap .i64 ((List.length r8 : Int) + (1 : Int))) (2 : Int))) ≤ (List.length r8 : Int) then Option.bind (zC (List.drop (Int.toNat (0 : Int)) (List.take (Int.toNat (Go.IntKind.wrap .i64 (Int.tdiv (Go.IntKind.wrap .i64 ((List.length r8 : Int) + (1 : Int))) (2 : Int)))) r8))) fun r10 => if (0 : Int) ≤ (Go.IntKind.wrap .i64 (Int.tdiv (Go.IntKind.wrap .i64 ((List.length r8 : Int) + (1 : Int))) (2 : Int))) then if (Go.IntKind.wrap .i64 (Int.tdiv (Go.IntKind.wrap .i64 ((List.length r8 : Int) + (1 : Int))) (2 : Int))) ≤ (List.length r8 : Int) then if (List.length r8 : Int) ≤ (List.length r8 : Int) then Option.bind (zC (List.drop (Int.toNat (Go.IntKind.wrap .i64 (Int.tdiv (Go.IntKind.wrap .i64 ((List.length r8 : Int) + (1 : Int))) (2 : Int)))) (List.take (Int.toNat (List.length r8 : Int)) r8))) fun r11 => Option.bind (Yc (r6.1, r6.2, r5, (1 : Int), ([(zt x.1 r5), r9] : List yb), ([r10, r11] : List y0))) fun r12 => Option.bind (Zt r12) fun r13 => Option.bind (Yu r13) fun r14 => bif (!r14) then Option.bind (zH (x.1, x.2.1)) fun r15 => some (r15.1, r15.2, false) else some (r13.1, r13.2, true) else none else none else none else none else none else none else none else none else none else none else none else none else Option.bind (bif (decide (r5 > (0 : Int))) then Option.bind (yR r7.1) fun r17 => some ((List.length r17 : Int) == (0 : Int)) else some false) fun u16 => bif u16 then Option.bind (Yc (r6.1, r6.2, r5, (1 : Int), ([] : List yb), ([] : List y0))) fun r18 => Option.bind (Zt r18) fun r19 => Option.bind (Yu r19) fun r20 => bif (!r20) then Option.bind (zH (x.1, x.2.1)) fun r21 => some (r21.1, r21.2, false) else some (r19.1, r19.2, true) else if (0 : Int) ≤ r5 then if r5 < (List.length r6.2 : Int) then Option.bind (Zt (r6.1, (List.set r6.2 (Int.toNat r5) r7.1))) fun r22 => Option.bind (Yu r22) fun r23 => bif (!r23) then Option.bind (zH (x.1, x.2.1)) fun r24 => some (r24.1, r24.2, false) else some (r22.1, r22.2, true) else none else none else none else none
theorem yEv : EV [q53, q63, q79, q87, q88, q89, q90, q91, q92, q93, q94] lpN 50 Tryz.f50 yBG yAj yAl ZF := fun x => by kernel_rfl
def q50 : QF := ⟨50, ZF, okN (n := 0) Tryz.func50 trivial yEv⟩
def JN (x : ynU) : Option (List y8) :=
 Option.bind (YF x.1) fun r1 => Option.bind (J3 x.1) fun r2 => Option.bind (bif (!r2) then some true else Option.bind (yL (x.2, (0 : Int), (23 : Int))) fun r4 => some (!r4)) fun u3 => Option.bind (bif u3 then some true else if (0 : Int) ≤ x.2 then if x.2 < (List.length x.1 : Int) then some (!((yA x.1 x.2).2.1)) else none else none) fun u5 => bif u5 then some r1 else if (0 : Int) ≤ x.2 then if x.2 < (List.length x.1 : Int) then if (0 : Int) ≤ x.2 then if x.2 < (List.length r1 : Int) then some (List.set r1 (Int.toNat x.2) ((Int.tmod (Go.IntKind.wrap .i64 ((yA x.1 x.2).1 + (1 : Int))) (1000 : Int)), false, (0 : Int))) else none else none else none else none
theorem yEw : EV [q47, q55, q81] lpN 51 Tryz.f51 yBH ynV [(.sl 53 yj)] JN := fun x => by kernel_rfl
def q51 : QF := ⟨51, JN, okN (n := 0) Tryz.func51 trivial yEw⟩
def Yd (x : ynt) : Option yhV :=
 Option.bind (wi (x.1, x.2.1, x.2.2.2.2.2.2.1, x.2.2.2.2.2.2.2.1)) fun r1 => Option.bind (ZF (x.1, x.2.1, x.2.2.2.2.2.2)) fun r2 => Option.bind (bif r2.2.2 then some r1.2.2.2.2.2 else some false) fun u3 => Option.bind (bif u3 then some (r1.2.2.1 == (1 : Int)) else some false) fun u4 => bif u4 then Option.bind (JN (x.2.2.2.1, r1.2.2.2.1)) fun r5 => some (r2.2.2, r2.1, r2.2.1, x.2.2.1, r5, x.2.2.2.2.1, x.2.2.2.2.2.1) else some (r2.2.2, r2.1, r2.2.1, x.2.2.1, x.2.2.2.1, x.2.2.2.2.1, x.2.2.2.2.2.1)
theorem yEx : EV [q50, q51, q82] lpN 41 Tryz.f41 yBI ynu ynW Yd := fun x => by kernel_rfl
def q41 : QF := ⟨41, Yd, okN (n := 0) Tryz.func41 trivial yEx⟩
abbrev Vi : Type := ypw
def kq (k0 : yvC → Option R) (again : Vi → Option R) (t6 : Vi) : Option R :=
 bif (decide (t6.2.2.2.2.1 < t6.2.2.2.1)) then if (0 : Int) ≤ t6.2.2.2.2.1 then if t6.2.2.2.2.1 < (List.length t6.2.2.2.2.2 : Int) then bif ((yG t6.2.2.2.2.2 t6.2.2.2.2.1).2 == t6.2.1) then if (0 : Int) ≤ t6.2.2.1 then if t6.2.2.1 < (List.length t6.1 : Int) then if (0 : Int) ≤ t6.2.2.2.2.1 then if t6.2.2.2.2.1 < (List.length t6.2.2.2.2.2 : Int) then again (t6.1, t6.2.1, t6.2.2.1, t6.2.2.2.1, (Go.IntKind.wrap .i64 (t6.2.2.2.2.1 + (1 : Int))), (List.set t6.2.2.2.2.2 (Int.toNat t6.2.2.2.2.1) ((yG t6.2.2.2.2.2 t6.2.2.2.2.1).1, (yG t6.1 t6.2.2.1).2))) else none else none else none else none else again (t6.1, t6.2.1, t6.2.2.1, t6.2.2.2.1, (Go.IntKind.wrap .i64 (t6.2.2.2.2.1 + (1 : Int))), t6.2.2.2.2.2) else none else none else k0 (t6.2.2.1, t6.2.2.2.2.2)
def y0j k0 := zS (@kq R k0) Y4
def kr (x : yfD) : Option ynT :=
 Option.bind (YU x) fun r1 => Option.bind (Z2 x.1) fun r2 => Option.bind (bif (decide (r1 < (0 : Int))) then some true else Option.bind (wh x.1) fun r4 => some (!r4)) fun u3 => bif u3 then some (r2, false) else y0j (fun x5 => Option.bind (zZ (x5.2, x5.1, (Go.IntKind.wrap .i64 (x5.1 + (1 : Int))))) fun r6 => some (r6, true)) (x.1, x.2, r1, (List.length r2 : Int), (0 : Int), r2)
def ymX : List QF := [q54, q80, q97, yCC]
def y8G (t : ypw) : St := ⟨zu t.1 :: vI t.2.1 :: dd 4 (vI t.2.2.1 :: .own 10000000 :: dd 15 (vI t.2.2.2.1 :: vI t.2.2.2.2.1 :: dd 24 [])), [(10000000, .root true 67 yo t.2.2.2.2.2)]⟩
def yke : Gk Vi := fun κ => kq (fun t => κ (some 0) ⟨dd 6 (vI t.1 :: .own 10000000 :: dd 41 []), [(10000000, .root true 67 yo t.2)]⟩)
def ymY : Lp := lpC 6 (unG ypx y8G) @yke lpN
theorem ytN : LF ymX ymY 100 6 Tryz.f100 0 y8G @yke fun t => t := fun R κ again t => by kernel_rfl
theorem ytO : LK ymX ymY 100 Tryz.f100 0 := lkN (u := (unG ypx y8G)) (yq fun t => by kernel_rfl) ytN
theorem yzp : EV ymX ymY 100 Tryz.f100 yri yfE yuV kr := fun x => by kernel_rfl
def yEy : QF := ⟨100, kr, okN (n := 1) Tryz.func100 ⟨ytO, trivial⟩ yzp⟩
def Zu (x : yv5) : Option yhV :=
 bif (x.2.2.2.2.2.2.1 == (4 : Int)) then if (0 : Int) ≤ x.2.2.2.2.2.2.2 then if x.2.2.2.2.2.2.2 < (List.length x.2.2.1 : Int) then Option.bind (kr (x.2.2.1, (yG x.2.2.1 x.2.2.2.2.2.2.2).1)) fun r1 => some (r1.2, x.1, x.2.1, r1.1, x.2.2.2.1, x.2.2.2.2.1, x.2.2.2.2.2.1) else none else none else Option.bind (za (x.1, x.2.1)) fun r2 => if (0 : Int) ≤ x.2.2.2.2.2.2.2 then if x.2.2.2.2.2.2.2 < (List.length r2 : Int) then bif (x.2.2.2.2.2.2.1 != (3 : Int)) then Option.bind (Yd (x.1, x.2.1, x.2.2.1, x.2.2.2.1, x.2.2.2.2.1, x.2.2.2.2.2.1, (y6 r2 x.2.2.2.2.2.2.2).1, (y6 r2 x.2.2.2.2.2.2.2).2.1, (0 : Int), (0 : Int), (0 : Int))) fun r3 => some r3 else Option.bind (Zp (x.2.2.1, (y6 r2 x.2.2.2.2.2.2.2).2.1)) fun r4 => if (0 : Int) ≤ (0 : Int) then if (0 : Int) < (List.length r4 : Int) then Option.bind (ZF (x.1, x.2.1, (y6 r2 x.2.2.2.2.2.2.2).1, (y6 r2 x.2.2.2.2.2.2.2).2.1, (0 : Int), (0 : Int), (0 : Int))) fun r5 => bif (!r5.2.2) then some (false, x.1, x.2.1, x.2.2.1, x.2.2.2.1, x.2.2.2.2.1, x.2.2.2.2.2.1) else Option.bind (ZF (r5.1, r5.2.1, (y6 r2 x.2.2.2.2.2.2.2).1, (zt r4 (0 : Int)), (y6 r2 x.2.2.2.2.2.2.2).2.2.1, (y6 r2 x.2.2.2.2.2.2.2).2.2.2.1, (y6 r2 x.2.2.2.2.2.2.2).2.2.2.2)) fun r6 => some (r6.2.2, r6.1, r6.2.1, x.2.2.1, x.2.2.2.1, x.2.2.2.2.1, x.2.2.2.2.2.1) else none else none else none else none
theorem yEz : EV [q23, q28, q41, q50, yEy] lpN 60 Tryz.f60 yBJ yv6 ynW Zu := fun x => by kernel_rfl
def q60 : QF := ⟨60, Zu, okN (n := 0) Tryz.func60 trivial yEz⟩
def jS (x : Qz9) : Option yfF :=
 Option.bind (Z1 x) fun r1 => Option.bind (jg x) fun r2 => bif (r1.1 == (0 : Int)) then some (r2.1, r2.2.1, r2.2.2.1, r2.2.2.2.1, r2.2.2.2.2.1, r2.2.2.2.2.2, false) else Option.bind (Zu (r2.1, r2.2.1, r2.2.2.1, r2.2.2.2.1, r2.2.2.2.2.1, r2.2.2.2.2.2, r1)) fun r3 => Option.bind (bif (!r3.1) then some true else Option.bind (zO r3.2) fun r5 => some (!r5)) fun u4 => bif u4 then Option.bind (jg x) fun r6 => some (r6.1, r6.2.1, r6.2.2.1, r6.2.2.2.1, r6.2.2.2.2.1, r6.2.2.2.2.2, false) else some (r3.2.1, r3.2.2.1, r3.2.2.2.1, r3.2.2.2.2.1, r3.2.2.2.2.2.1, r3.2.2.2.2.2.2, true)
theorem yEA : EV [q19, q22, q39, q60] lpN 21 Tryz.f21 yBK qz9 yfG jS := fun x => by kernel_rfl
def q21 : QF := ⟨21, jS, okN (n := 0) Tryz.func21 trivial yEA⟩
def Z3 (x : List y5P) : Option Bool :=
 Option.bind (y0S x) fun r1 => bif r1 then some true else Option.bind (Jw x) fun r2 => Option.bind (jS (r2.1, r2.2.1, r2.2.2.1, r2.2.2.2.1, r2.2.2.2.2.1, r2.2.2.2.2.2.1)) fun r3 => Option.bind (Z1 (r2.1, r2.2.1, r2.2.2.1, r2.2.2.2.1, r2.2.2.2.2.1, r2.2.2.2.2.2.1)) fun r4 => bif (!(r3.2.2.2.2.2.2 == (r4.1 != (0 : Int)))) then some false else bif (!r3.2.2.2.2.2.2) then Option.bind (j6 (r3.1, r3.2.1, r3.2.2.1, r3.2.2.2.1, r3.2.2.2.2.1, r3.2.2.2.2.2.1, r2.1, r2.2.1, r2.2.2.1, r2.2.2.2.1, r2.2.2.2.2.1, r2.2.2.2.2.2.1)) fun r5 => Option.bind (bif r5 then some (r4.2 == (0 : Int)) else some false) fun u6 => some u6 else Option.bind (za (r2.1, r2.2.1)) fun r7 => Option.bind (za (r3.1, r3.2.1)) fun r8 => Option.bind (bif (r4.1 == (3 : Int)) then some true else some (r4.1 == (4 : Int))) fun u9 => bif u9 then bif (r4.1 == (4 : Int)) then Option.bind (zO (r3.1, r3.2.1, r3.2.2.1, r3.2.2.2.1, r3.2.2.2.2.1, r3.2.2.2.2.2.1)) fun r10 => bif r10 then Option.bind (zL (r3.1, r3.2.1, r3.2.2.1, r3.2.2.2.1, r3.2.2.2.2.1, r3.2.2.2.2.2.1)) fun r11 => Option.bind (zL (r2.1, r2.2.1, r2.2.2.1, r2.2.2.2.1, r2.2.2.2.2.1, r2.2.2.2.2.2.1)) fun r12 => Option.bind (Yb (r11, r12)) fun r13 => Option.bind (bif r13 then some ((List.length r8 : Int) == (Go.IntKind.wrap .i64 ((List.length r7 : Int) - (0 : Int)))) else some false) fun u14 => Option.bind (bif u14 then some ((List.length r3.2.2.1 : Int) == (Go.IntKind.wrap .i64 ((List.length r2.2.2.1 : Int) - (1 : Int)))) else some false) fun u15 => Option.bind (bif u15 then Option.bind (yy r3.2.2.2.1) fun r17 => Option.bind (yy r2.2.2.2.1) fun r18 => some (decide (r17 ≤ r18)) else some false) fun u16 => some u16 else Option.bind (some false) fun u19 => Option.bind (bif u19 then some ((List.length r3.2.2.1 : Int) == (Go.IntKind.wrap .i64 ((List.length r2.2.2.1 : Int) - (1 : Int)))) else some false) fun u20 => Option.bind (bif u20 then Option.bind (yy r3.2.2.2.1) fun r22 => Option.bind (yy r2.2.2.2.1) fun r23 => some (decide (r22 ≤ r23)) else some false) fun u21 => some u21 else Option.bind (zO (r3.1, r3.2.1, r3.2.2.1, r3.2.2.2.1, r3.2.2.2.2.1, r3.2.2.2.2.2.1)) fun r24 => bif r24 then Option.bind (zL (r3.1, r3.2.1, r3.2.2.1, r3.2.2.2.1, r3.2.2.2.2.1, r3.2.2.2.2.2.1)) fun r25 => Option.bind (zL (r2.1, r2.2.1, r2.2.2.1, r2.2.2.2.1, r2.2.2.2.2.1, r2.2.2.2.2.2.1)) fun r26 => Option.bind (Yb (r25, r26)) fun r27 => Option.bind (bif r27 then some ((List.length r8 : Int) == (Go.IntKind.wrap .i64 ((List.length r7 : Int) - (0 : Int)))) else some false) fun u28 => Option.bind (bif u28 then some ((List.length r3.2.2.1 : Int) == (Go.IntKind.wrap .i64 ((List.length r2.2.2.1 : Int) - (0 : Int)))) else some false) fun u29 => Option.bind (bif u29 then Option.bind (yy r3.2.2.2.1) fun r31 => Option.bind (yy r2.2.2.2.1) fun r32 => some (decide (r31 ≤ r32)) else some false) fun u30 => some u30 else Option.bind (some false) fun u33 => Option.bind (bif u33 then some ((List.length r3.2.2.1 : Int) == (Go.IntKind.wrap .i64 ((List.length r2.2.2.1 : Int) - (0 : Int)))) else some false) fun u34 => Option.bind (bif u34 then Option.bind (yy r3.2.2.2.1) fun r36 => Option.bind (yy r2.2.2.2.1) fun r37 => some (decide (r36 ≤ r37)) else some false) fun u35 => some u35 else bif (r4.1 == (4 : Int)) then Option.bind (zO (r3.1, r3.2.1, r3.2.2.1, r3.2.2.2.1, r3.2.2.2.2.1, r3.2.2.2.2.2.1)) fun r38 => bif r38 then Option.bind (zL (r3.1, r3.2.1, r3.2.2.1, r3.2.2.2.1, r3.2.2.2.2.1, r3.2.2.2.2.2.1)) fun r39 => Option.bind (zL (r2.1, r2.2.1, r2.2.2.1, r2.2.2.2.1, r2.2.2.2.2.1, r2.2.2.2.2.2.1)) fun r40 => Option.bind (Yb (r39, r40)) fun r41 => Option.bind (bif r41 then some ((List.length r8 : Int) == (Go.IntKind.wrap .i64 ((List.length r7 : Int) - (1 : Int)))) else some false) fun u42 => Option.bind (bif u42 then some ((List.length r3.2.2.1 : Int) == (Go.IntKind.wrap .i64 ((List.length r2.2.2.1 : Int) - (1 : Int)))) else some false) fun u43 => Option.bind (bif u43 then Option.bind (yy r3.2.2.2.1) fun r45 => Option.bind (yy r2.2.2.2.1) fun r46 => some (decide (r45 ≤ r46)) else some false) fun u44 => some u44 else Option.bind (some false) fun u47 => Option.bind (bif u47 then some ((List.length r3.2.2.1 : Int) == (Go.IntKind.wrap .i64 ((List.length r2.2.2.1 : Int) - (1 : Int)))) else some false) fun u48 => Option.bind (bif u48 then Option.bind (yy r3.2.2.2.1) fun r50 => Option.bind (yy r2.2.2.2.1) fun r51 => some (decide (r50 ≤ r51)) else some false) fun u49 => some u49 else Option.bind (zO (r3.1, r3.2.1, r3.2.2.1, r3.2.2.2.1, r3.2.2.2.2.1, r3.2.2.2.2.2.1)) fun r52 => bif r52 then Option.bind (zL (r3.1, r3.2.1, r3.2.2.1, r3.2.2.2.1, r3.2.2.2.2.1, r3.2.2.2.2.2.1)) fun r53 => Option.bind (zL (r2.1, r2.2.1, r2.2.2.1, r2.2.2.2.1, r2.2.2.2.2.1, r2.2.2.2.2.2.1)) fun r54 => Option.bind (Yb (r53, r54)) fun r55 => Option.bind (bif r55 then some ((List.length r8 : Int) == (Go.IntKind.wrap .i64 ((List.length r7 : Int) - (1 : Int)))) else some false) fun u56 => Option.bind (bif u56 then some ((List.length r3.2.2.1 : Int) == (Go.IntKind.wrap .i64 ((List.length r2.2.2.1 : Int) - (0 : Int)))) else some false) fun u57 => Option.bind (bif u57 then Option.bind (yy r3.2.2.2.1) fun r59 => Option.bind (yy r2.2.2.2.1) fun r60 => some (decide (r59 ≤ r60)) else some false) fun u58 => some u58 else Option.bind (some false) fun u61 => Option.bind (bif u61 then some ((List.length r3.2.2.1 : Int) == (Go.IntKind.wrap .i64 ((List.length r2.2.2.1 : Int) - (0 : Int)))) else some false) fun u62 => Option.bind (bif u62 then Option.bind (yy r3.2.2.2.1) fun r64 => Option.bind (yy r2.2.2.2.1) fun r65 => some (decide (r64 ≤ r65)) else some false) fun u63 => some u63
theorem ev5 : EV [q7, q8, q12, q17, q18, q19, q20, q21, q22, q23] lpN 5 Tryz.f5 sg5 [(.sl 5 kL)] [.bool] Z3 := fun x => by kernel_rfl
def q5 : QF := ⟨5, Z3, okN (n := 0) Tryz.func5 trivial ev5⟩
end
end Go.Proofs.YtjllpipmaejeoaaGreat.XV
