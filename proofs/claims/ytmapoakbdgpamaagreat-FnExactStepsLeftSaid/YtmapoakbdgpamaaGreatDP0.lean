/- What functions compute, and that they do; part 0 of P; by a program (dec.py). No condition. -/
import Derived.Test.YtmapoakbdgpamaaGreatXP
import Derived.Test.YtmapoakbdgpamaaGreatHP0
set_option linter.all false
namespace Go.Proofs.YtmapoakbdgpamaaGreat.XP
open Go.Proofs.YtmapoakbdgpamaaGreat.R
set_option maxRecDepth 100000
noncomputable section
variable {R : Type}
def K9 (x : Qz0) : Option Int :=
 bif (decide ((Go.IntKind.wrap .i64 (x.2 - (List.length x.1 : Int))) < (0 : Int))) then some (-1 : Int) else some (Go.IntKind.wrap .i64 (x.2 - (List.length x.1 : Int)))
theorem ysX : EV [] lpN 117 Tryz.f117 ymD qz0 [(.int .i64)] K9 := fun x => by kernel_rfl
def yz3 : QF := ⟨117, K9, okN (n := 0) Tryz.func117 trivial ysX⟩
def Zu (x : Qz1) : Option Int :=
 bif (decide ((Go.IntKind.wrap .i64 (x.2 - (List.length x.1 : Int))) < (0 : Int))) then some (-1 : Int) else some (Go.IntKind.wrap .i64 (x.2 - (List.length x.1 : Int)))
theorem ysY : EV [] lpN 275 Tryz.f275 ymE qz1 [(.int .i64)] Zu := fun x => by kernel_rfl
def yz4 : QF := ⟨275, Zu, okN (n := 0) Tryz.func275 trivial ysY⟩
abbrev kB : Type := Qz2
def Yb (k0 : Qz3 → Option R) (k1 : Int → Option R) (again : kB → Option R) (t5 : kB) : Option R :=
 bif (decide (t5.2.2 < (List.length t5.1 : Int))) then if (0 : Int) ≤ t5.2.2 then if t5.2.2 < (List.length t5.1 : Int) then Option.bind (Zu ((qI t5.1 t5.2.2), t5.2.1)) fun r1 => bif (decide (r1 < (0 : Int))) then k0 (r1, (-1 : Int)) else again (t5.1, r1, (Go.IntKind.wrap .i64 (t5.2.2 + (1 : Int)))) else none else none else k1 t5.2.1
def VZ k0 k1 := zt (@Yb R k0 k1) zJ
def Jo (x : Qz4) : Option Int :=
 bif (decide ((Go.IntKind.wrap .i64 (x.2 - (List.length x.1 : Int))) < (0 : Int))) then some (-1 : Int) else VZ (fun x2 => some x2.2) (fun x3 => some x3) (x.1, (Go.IntKind.wrap .i64 (x.2 - (List.length x.1 : Int))), (0 : Int))
def yi7 : List QF := [yz4]
def y5v (t : Qz2) : St := ⟨yaR t.1 :: vI t.2.1 :: dd 3 (vI t.2.2 :: dd 21 []), []⟩
def yge : Gk kB := fun κ => Yb (fun t => κ none ⟨.dead :: vI t.1 :: dd 2 (vI t.2 :: dd 22 []), []⟩) (fun t => κ (some 0) ⟨.dead :: vI t :: dd 25 [], []⟩)
def yi8 : Lp := lpC 5 (unG qz2 y5v) @yge lpN
theorem yp6 : LF yi7 yi8 243 5 Tryz.f243 0 y5v @yge fun t => t := fun R κ again t => by kernel_rfl
theorem yp7 : LK yi7 yi8 243 Tryz.f243 0 := lkN (u := (unG qz2 y5v)) (ym fun t => by kernel_rfl) yp6
theorem ysZ : EV yi7 yi8 243 Tryz.f243 ymF qz4 [(.int .i64)] Jo := fun x => by kernel_rfl
def yz5 : QF := ⟨243, Jo, okN (n := 1) Tryz.func243 ⟨yp7, trivial⟩ ysZ⟩
def YJ (x : Qz4) : Option Int :=
 Option.bind (Jo x) fun r1 => bif (decide (r1 < (0 : Int))) then some (-1 : Int) else some r1
theorem yt0 : EV [yz5] lpN 194 Tryz.f194 ymG qz4 [(.int .i64)] YJ := fun x => by kernel_rfl
def yz6 : QF := ⟨194, YJ, okN (n := 0) Tryz.func194 trivial yt0⟩
abbrev kC : Type := Qz5
def Yc (k0 : Qz3 → Option R) (k1 : Int → Option R) (again : kC → Option R) (t5 : kC) : Option R :=
 bif (decide (t5.2.2 < (List.length t5.1 : Int))) then if (0 : Int) ≤ t5.2.2 then if t5.2.2 < (List.length t5.1 : Int) then Option.bind (YJ ((y0V t5.1 t5.2.2), t5.2.1)) fun r1 => bif (decide (r1 < (0 : Int))) then k0 (r1, (-1 : Int)) else again (t5.1, r1, (Go.IntKind.wrap .i64 (t5.2.2 + (1 : Int)))) else none else none else k1 t5.2.1
def qa k0 k1 := zt (@Yc R k0 k1) zJ
def j7 (x : Qz6) : Option Int :=
 bif (decide ((Go.IntKind.wrap .i64 (x.2 - (List.length x.1 : Int))) < (0 : Int))) then some (-1 : Int) else qa (fun x2 => some x2.2) (fun x3 => some x3) (x.1, (Go.IntKind.wrap .i64 (x.2 - (List.length x.1 : Int))), (0 : Int))
def yi9 : List QF := [yz6]
def y5w (t : Qz5) : St := ⟨yd4 t.1 :: vI t.2.1 :: dd 3 (vI t.2.2 :: dd 21 []), []⟩
def ygf : Gk kC := fun κ => Yc (fun t => κ none ⟨.dead :: vI t.1 :: dd 2 (vI t.2 :: dd 22 []), []⟩) (fun t => κ (some 0) ⟨.dead :: vI t :: dd 25 [], []⟩)
def yia : Lp := lpC 5 (unG qz5 y5w) @ygf lpN
theorem yp8 : LF yi9 yia 118 5 Tryz.f118 0 y5w @ygf fun t => t := fun R κ again t => by kernel_rfl
theorem yp9 : LK yi9 yia 118 Tryz.f118 0 := lkN (u := (unG qz5 y5w)) (ym fun t => by kernel_rfl) yp8
theorem yt1 : EV yi9 yia 118 Tryz.f118 ymH qz6 [(.int .i64)] j7 := fun x => by kernel_rfl
def yz7 : QF := ⟨118, j7, okN (n := 1) Tryz.func118 ⟨yp9, trivial⟩ yt1⟩
def jY (x : Qz7) : Option Int :=
 Option.bind (K9 (x.1, x.2.2)) fun r1 => bif (decide (r1 < (0 : Int))) then some (-1 : Int) else Option.bind (j7 (x.2.1, r1)) fun r2 => bif (decide (r2 < (0 : Int))) then some (-1 : Int) else some r2
theorem yz8 : EV [yz3, yz7] lpN 43 Tryz.f43 yxx qz7 [(.int .i64)] jY := fun x => by kernel_rfl
def q43 : QF := ⟨43, jY, okN (n := 0) Tryz.func43 trivial yz8⟩
def Ka (x : Qz8) : Option Int :=
 bif (decide ((Go.IntKind.wrap .i64 (x.2 - (List.length x.1 : Int))) < (0 : Int))) then some (-1 : Int) else some (Go.IntKind.wrap .i64 (x.2 - (List.length x.1 : Int)))
theorem yz9 : EV [] lpN 44 Tryz.f44 yxy qz8 [(.int .i64)] Ka := fun x => by kernel_rfl
def q44 : QF := ⟨44, Ka, okN (n := 0) Tryz.func44 trivial yz9⟩
def Jp (x : Qz9) : Option Int :=
 bif (decide ((Go.IntKind.wrap .i64 (x.2 - (List.length x.1 : Int))) < (0 : Int))) then some (-1 : Int) else some (Go.IntKind.wrap .i64 (x.2 - (List.length x.1 : Int)))
theorem yza : EV [] lpN 45 Tryz.f45 yxz qz9 [(.int .i64)] Jp := fun x => by kernel_rfl
def q45 : QF := ⟨45, Jp, okN (n := 0) Tryz.func45 trivial yza⟩
def w9 (x : ywa) : Option Int :=
 bif (decide ((Go.IntKind.wrap .i64 (x.2.2.2.2 - ((ByteArray.size x.1 : Nat) : Int))) < (0 : Int))) then some (-1 : Int) else some (Go.IntKind.wrap .i64 (x.2.2.2.2 - ((ByteArray.size x.1 : Nat) : Int)))
theorem yt2 : EV [] lpN 119 Tryz.f119 ymI ywb [(.int .i64)] w9 := fun x => by kernel_rfl
def yzb : QF := ⟨119, w9, okN (n := 0) Tryz.func119 trivial yt2⟩
abbrev Kz : Type := ywc
def Ys (k0 : Qz3 → Option R) (k1 : Int → Option R) (again : Kz → Option R) (t5 : Kz) : Option R :=
 bif (decide (t5.2.2 < (List.length t5.1 : Int))) then if (0 : Int) ≤ t5.2.2 then if t5.2.2 < (List.length t5.1 : Int) then Option.bind (w9 ((kA t5.1 t5.2.2).1, (kA t5.1 t5.2.2).2.1, (kA t5.1 t5.2.2).2.2.1, (kA t5.1 t5.2.2).2.2.2, t5.2.1)) fun r1 => bif (decide (r1 < (0 : Int))) then k0 (r1, (-1 : Int)) else again (t5.1, r1, (Go.IntKind.wrap .i64 (t5.2.2 + (1 : Int)))) else none else none else k1 t5.2.1
def qJ k0 k1 := zt (@Ys R k0 k1) zJ
def Zv (x : yyA) : Option Int :=
 bif (decide ((Go.IntKind.wrap .i64 (x.2 - (List.length x.1 : Int))) < (0 : Int))) then some (-1 : Int) else qJ (fun x2 => some x2.2) (fun x3 => some x3) (x.1, (Go.IntKind.wrap .i64 (x.2 - (List.length x.1 : Int))), (0 : Int))
def yt3 : List QF := [yzb]
def y9L (t : ywc) : St := ⟨yg8 t.1 :: vI t.2.1 :: dd 3 (vI t.2.2 :: dd 21 []), []⟩
def ypa : Gk Kz := fun κ => Ys (fun t => κ none ⟨.dead :: vI t.1 :: dd 2 (vI t.2 :: dd 22 []), []⟩) (fun t => κ (some 0) ⟨.dead :: vI t :: dd 25 [], []⟩)
def yt4 : Lp := lpC 5 (unG ywd y9L) @ypa lpN
theorem yt5 : LF yt3 yt4 46 5 Tryz.f46 0 y9L @ypa fun t => t := fun R κ again t => by kernel_rfl
theorem yt6 : LK yt3 yt4 46 Tryz.f46 0 := lkN (u := (unG ywd y9L)) (ym fun t => by kernel_rfl) yt5
theorem yzc : EV yt3 yt4 46 Tryz.f46 yxA yyB [(.int .i64)] Zv := fun x => by kernel_rfl
def q46 : QF := ⟨46, Zv, okN (n := 1) Tryz.func46 ⟨yt6, trivial⟩ yzc⟩
def jZ (x : yyC) : Option Int :=
 Option.bind (jY (x.1, x.2.1, x.2.2.2.2.2.2)) fun r1 => bif (decide (r1 < (0 : Int))) then some (-1 : Int) else Option.bind (Ka (x.2.2.1, r1)) fun r2 => bif (decide (r2 < (0 : Int))) then some (-1 : Int) else Option.bind (Jp (x.2.2.2.1, r2)) fun r3 => bif (decide (r3 < (0 : Int))) then some (-1 : Int) else Option.bind (Zv (x.2.2.2.2.1, r3)) fun r4 => bif (decide (r4 < (0 : Int))) then some (-1 : Int) else some r4
theorem yzd : EV [q43, q44, q45, q46] lpN 10 Tryz.f10 yxB yyD [(.int .i64)] jZ := fun x => by kernel_rfl
def q10 : QF := ⟨10, jZ, okN (n := 0) Tryz.func10 trivial yzd⟩
abbrev KA : Type := ywe
def ws (k0 : List yh → Option R) (again : KA → Option R) (t3 : KA) : Option R :=
 bif (decide (t3.2.1 < (List.length t3.1 : Int))) then if (0 : Int) ≤ t3.2.1 then if t3.2.1 < (List.length t3.1 : Int) then if (0 : Int) ≤ t3.2.1 then if t3.2.1 < (List.length t3.2.2 : Int) then again (t3.1, (Go.IntKind.wrap .i64 (t3.2.1 + (1 : Int))), (List.set t3.2.2 (Int.toNat t3.2.1) (z9 t3.1 t3.2.1))) else none else none else none else none else k0 t3.2.2
def qK k0 := zt (@ws R k0) zJ
def wu (x : List yh) : Option (List yh) :=
 if (0 : Int) ≤ (List.length x : Int) then if (List.length x : Int) ≤ (List.length x : Int) then if (List.length x : Int) * ((8 : Nat) : Int) ≤ 140737488351232 then qK (fun x1 => some x1) (x, (0 : Int), (List.replicate (Int.toNat (List.length x : Int)) yd2)) else none else none else none
def yib : List QF := []
def y5x (t : ywe) : St := ⟨ze t.1 :: dd 2 (.own 10000000 :: vI t.2.1 :: dd 17 []), [(10000000, .root true 3 yd t.2.2)]⟩
def ygg : Gk KA := fun κ => ws (fun t => κ (some 0) ⟨dd 3 (.own 10000000 :: dd 18 []), [(10000000, .root true 3 yd t)]⟩)
def yic : Lp := lpC 3 (unG ywf y5x) @ygg lpN
theorem ypb : LF yib yic 126 3 Tryz.f126 0 y5x @ygg fun t => t := fun R κ again t => by kernel_rfl
theorem ypc : LK yib yic 126 Tryz.f126 0 := lkN (u := (unG ywf y5x)) (ym fun t => by kernel_rfl) ypb
theorem yt7 : EV yib yic 126 Tryz.f126 ymJ [(.sl 3 yd)] [(.sl 3 yd)] wu := fun x => by kernel_rfl
def yze : QF := ⟨126, wu, okN (n := 1) Tryz.func126 ⟨ypc, trivial⟩ yt7⟩
def vF (x : yeY) : Option yeY :=
 some x
theorem yt8 : EV [] lpN 301 Tryz.f301 ymK K0 K0 vF := fun x => by kernel_rfl
def yzf : QF := ⟨301, vF, okN (n := 0) Tryz.func301 trivial yt8⟩
abbrev KB : Type := ywg
def wv (k0 : List y8 → Option R) (again : KB → Option R) (t3 : KB) : Option R :=
 bif (decide (t3.2.1 < (List.length t3.1 : Int))) then if (0 : Int) ≤ t3.2.1 then if t3.2.1 < (List.length t3.1 : Int) then Option.bind (vF ((y3r t3.1 t3.2.1).1, (y3r t3.1 t3.2.1).2.1, (y3r t3.1 t3.2.1).2.2.1, (y3r t3.1 t3.2.1).2.2.2.1, (y3r t3.1 t3.2.1).2.2.2.2)) fun r1 => if (0 : Int) ≤ t3.2.1 then if t3.2.1 < (List.length t3.2.2 : Int) then again (t3.1, (Go.IntKind.wrap .i64 (t3.2.1 + (1 : Int))), (List.set t3.2.2 (Int.toNat t3.2.1) r1)) else none else none else none else none else k0 t3.2.2
def qL k0 := zt (@wv R k0) zJ
def Zw (x : List y1Z) : Option (List y8) :=
 if (0 : Int) ≤ (List.length x : Int) then if (List.length x : Int) ≤ (List.length x : Int) then if (List.length x : Int) * ((40 : Nat) : Int) ≤ 140737488351232 then qL (fun x2 => some x2) (x, (0 : Int), (List.replicate (Int.toNat (List.length x : Int)) z0)) else none else none else none
def yid : List QF := [yzf]
def y5y (t : ywg) : St := ⟨yl1 t.1 :: dd 2 (.own 10000000 :: vI t.2.1 :: dd 18 []), [(10000000, .root true 106 yb t.2.2)]⟩
def ygh : Gk KB := fun κ => wv (fun t => κ (some 0) ⟨dd 3 (.own 10000000 :: dd 19 []), [(10000000, .root true 106 yb t)]⟩)
def yie : Lp := lpC 3 (unG ywh y5y) @ygh lpN
theorem ypd : LF yid yie 278 3 Tryz.f278 0 y5y @ygh fun t => t := fun R κ again t => by kernel_rfl
theorem ype : LK yid yie 278 Tryz.f278 0 := lkN (u := (unG ywh y5y)) (ym fun t => by kernel_rfl) ypd
theorem yt9 : EV yid yie 278 Tryz.f278 ymL [(.sl 279 VL)] [(.sl 106 yb)] Zw := fun x => by kernel_rfl
def yzg : QF := ⟨278, Zw, okN (n := 1) Tryz.func278 ⟨ype, trivial⟩ yt9⟩
abbrev kD : Type := ywi
def JM (k0 : List y9 → Option R) (again : kD → Option R) (t3 : kD) : Option R :=
 bif (decide (t3.2.1 < (List.length t3.1 : Int))) then if (0 : Int) ≤ t3.2.1 then if t3.2.1 < (List.length t3.1 : Int) then Option.bind (Zw (qI t3.1 t3.2.1)) fun r1 => if (0 : Int) ≤ t3.2.1 then if t3.2.1 < (List.length t3.2.2 : Int) then again (t3.1, (Go.IntKind.wrap .i64 (t3.2.1 + (1 : Int))), (List.set t3.2.2 (Int.toNat t3.2.1) r1)) else none else none else none else none else k0 t3.2.2
def qb k0 := zt (@JM R k0) zJ
def Jq (x : List za) : Option (List y9) :=
 if (0 : Int) ≤ (List.length x : Int) then if (List.length x : Int) ≤ (List.length x : Int) then if (List.length x : Int) * ((24 : Nat) : Int) ≤ 140737488351232 then qb (fun x2 => some x2) (x, (0 : Int), (List.replicate (Int.toNat (List.length x : Int)) yM)) else none else none else none
def yif : List QF := [yzg]
def y5z (t : ywi) : St := ⟨yaR t.1 :: dd 2 (.own 10000000 :: vI t.2.1 :: dd 18 []), [(10000000, .deep false 0 100 yi t.2.2)]⟩
def ygi : Gk kD := fun κ => JM (fun t => κ (some 0) ⟨dd 3 (.own 10000000 :: dd 19 []), [(10000000, .deep false 0 100 yi t)]⟩)
def yig : Lp := lpC 3 (unG ywj y5z) @ygi lpN
theorem ypf : LF yif yig 245 3 Tryz.f245 0 y5z @ygi fun t => t := fun R κ again t => by kernel_rfl
theorem ypg : LK yif yig 245 Tryz.f245 0 := lkN (u := (unG ywj y5z)) (ym fun t => by kernel_rfl) ypf
theorem yta : EV yif yig 245 Tryz.f245 ymM [(.sl 267 Yr)] [(.sl 100 yi)] Jq := fun x => by kernel_rfl
def yzh : QF := ⟨245, Jq, okN (n := 1) Tryz.func245 ⟨ypg, trivial⟩ yta⟩
def J0 (x : List za) : Option (List y9) :=
 Option.bind (Jq x) fun r1 => some r1
theorem ytb : EV [yzh] lpN 203 Tryz.f203 ymN [(.sl 267 Yr)] [(.sl 100 yi)] J0 := fun x => by kernel_rfl
def yzi : QF := ⟨203, J0, okN (n := 0) Tryz.func203 trivial ytb⟩
abbrev kE : Type := ywk
def JN (k0 : List y7 → Option R) (again : kE → Option R) (t3 : kE) : Option R :=
 bif (decide (t3.2.1 < (List.length t3.1 : Int))) then if (0 : Int) ≤ t3.2.1 then if t3.2.1 < (List.length t3.1 : Int) then Option.bind (J0 (y0V t3.1 t3.2.1)) fun r1 => if (0 : Int) ≤ t3.2.1 then if t3.2.1 < (List.length t3.2.2 : Int) then again (t3.1, (Go.IntKind.wrap .i64 (t3.2.1 + (1 : Int))), (List.set t3.2.2 (Int.toNat t3.2.1) r1)) else none else none else none else none else k0 t3.2.2
def qc k0 := zt (@JN R k0) zJ
def j8 (x : List Ya) : Option (List y7) :=
 if (0 : Int) ≤ (List.length x : Int) then if (List.length x : Int) ≤ (List.length x : Int) then if (List.length x : Int) * ((24 : Nat) : Int) ≤ 140737488351232 then qc (fun x2 => some x2) (x, (0 : Int), (List.replicate (Int.toNat (List.length x : Int)) yr)) else none else none else none
def yih : List QF := [yzi]
def y5A (t : ywk) : St := ⟨yd4 t.1 :: dd 2 (.own 10000000 :: vI t.2.1 :: dd 18 []), [(10000000, .deep false 0 98 yk t.2.2)]⟩
def ygj : Gk kE := fun κ => JN (fun t => κ (some 0) ⟨dd 3 (.own 10000000 :: dd 19 []), [(10000000, .deep false 0 98 yk t)]⟩)
def yii : Lp := lpC 3 (unG ywl y5A) @ygj lpN
theorem yph : LF yih yii 127 3 Tryz.f127 0 y5A @ygj fun t => t := fun R κ again t => by kernel_rfl
theorem ypi : LK yih yii 127 Tryz.f127 0 := lkN (u := (unG ywl y5A)) (ym fun t => by kernel_rfl) yph
theorem ytc : EV yih yii 127 Tryz.f127 ymO [(.sl 216 Yl)] [(.sl 98 yk)] j8 := fun x => by kernel_rfl
def yzj : QF := ⟨127, j8, okN (n := 1) Tryz.func127 ⟨ypi, trivial⟩ ytc⟩
def Kb (x : yyE) : Option y3Y :=
 Option.bind (wu x.1) fun r1 => Option.bind (j8 x.2) fun r2 => some (r1, r2)
theorem yzk : EV [yze, yzj] lpN 52 Tryz.f52 yxC ysu WA Kb := fun x => by kernel_rfl
def q52 : QF := ⟨52, Kb, okN (n := 0) Tryz.func52 trivial yzk⟩
def vG (x : Qz3) : Option Qz3 :=
 some x
theorem ytd : EV [] lpN 128 Tryz.f128 ymP qz3 qz3 vG := fun x => by kernel_rfl
def yzl : QF := ⟨128, vG, okN (n := 0) Tryz.func128 trivial ytd⟩
abbrev KC : Type := ywm
def ww (k0 : List yf → Option R) (again : KC → Option R) (t3 : KC) : Option R :=
 bif (decide (t3.2.1 < (List.length t3.1 : Int))) then if (0 : Int) ≤ t3.2.1 then if t3.2.1 < (List.length t3.1 : Int) then Option.bind (vG ((yd5 t3.1 t3.2.1).1, (yd5 t3.1 t3.2.1).2)) fun r1 => if (0 : Int) ≤ t3.2.1 then if t3.2.1 < (List.length t3.2.2 : Int) then again (t3.1, (Go.IntKind.wrap .i64 (t3.2.1 + (1 : Int))), (List.set t3.2.2 (Int.toNat t3.2.1) r1)) else none else none else none else none else k0 t3.2.2
def qM k0 := zt (@ww R k0) zJ
def wx (x : List kZ) : Option (List yf) :=
 if (0 : Int) ≤ (List.length x : Int) then if (List.length x : Int) ≤ (List.length x : Int) then if (List.length x : Int) * ((16 : Nat) : Int) ≤ 140737488351232 then qM (fun x2 => some x2) (x, (0 : Int), (List.replicate (Int.toNat (List.length x : Int)) Y1)) else none else none else none
def yte : List QF := [yzl]
def y9M (t : ywm) : St := ⟨yl2 t.1 :: dd 2 (.own 10000000 :: vI t.2.1 :: dd 18 []), [(10000000, .root true 89 yo t.2.2)]⟩
def ypj : Gk KC := fun κ => ww (fun t => κ (some 0) ⟨dd 3 (.own 10000000 :: dd 19 []), [(10000000, .root true 89 yo t)]⟩)
def ytf : Lp := lpC 3 (unG ywn y9M) @ypj lpN
theorem ytg : LF yte ytf 53 3 Tryz.f53 0 y9M @ypj fun t => t := fun R κ again t => by kernel_rfl
theorem yth : LK yte ytf 53 Tryz.f53 0 := lkN (u := (unG ywn y9M)) (ym fun t => by kernel_rfl) ytg
theorem yzm : EV yte ytf 53 Tryz.f53 yxD [(.sl 166 wq)] [(.sl 89 yo)] wx := fun x => by kernel_rfl
def q53 : QF := ⟨53, wx, okN (n := 1) Tryz.func53 ⟨yth, trivial⟩ yzm⟩
def Kc (x : ywo) : Option ywo :=
 some x
theorem yti : EV [] lpN 129 Tryz.f129 ymQ ykE ykE Kc := fun x => by kernel_rfl
def yzn : QF := ⟨129, Kc, okN (n := 0) Tryz.func129 trivial yti⟩
abbrev kF : Type := ywp
def JO (k0 : List yg → Option R) (again : kF → Option R) (t3 : kF) : Option R :=
 bif (decide (t3.2.1 < (List.length t3.1 : Int))) then if (0 : Int) ≤ t3.2.1 then if t3.2.1 < (List.length t3.1 : Int) then Option.bind (Kc ((y5u t3.1 t3.2.1).1, (y5u t3.1 t3.2.1).2.1, (y5u t3.1 t3.2.1).2.2)) fun r1 => if (0 : Int) ≤ t3.2.1 then if t3.2.1 < (List.length t3.2.2 : Int) then again (t3.1, (Go.IntKind.wrap .i64 (t3.2.1 + (1 : Int))), (List.set t3.2.2 (Int.toNat t3.2.1) r1)) else none else none else none else none else k0 t3.2.2
def qd k0 := zt (@JO R k0) zJ
def Jr (x : List Jh) : Option (List yg) :=
 if (0 : Int) ≤ (List.length x : Int) then if (List.length x : Int) ≤ (List.length x : Int) then if (List.length x : Int) * ((24 : Nat) : Int) ≤ 140737488351232 then qd (fun x2 => some x2) (x, (0 : Int), (List.replicate (Int.toNat (List.length x : Int)) jq)) else none else none else none
def ytj : List QF := [yzn]
def y9N (t : ywp) : St := ⟨yhZ t.1 :: dd 2 (.own 10000000 :: vI t.2.1 :: dd 18 []), [(10000000, .root true 95 yn t.2.2)]⟩
def ypk : Gk kF := fun κ => JO (fun t => κ (some 0) ⟨dd 3 (.own 10000000 :: dd 19 []), [(10000000, .root true 95 yn t)]⟩)
def ytk : Lp := lpC 3 (unG ywq y9N) @ypk lpN
theorem ytl : LF ytj ytk 54 3 Tryz.f54 0 y9N @ypk fun t => t := fun R κ again t => by kernel_rfl
theorem ytm : LK ytj ytk 54 Tryz.f54 0 := lkN (u := (unG ywq y9N)) (ym fun t => by kernel_rfl) ytl
theorem yzo : EV ytj ytk 54 Tryz.f54 yxE [(.sl 168 jl)] [(.sl 95 yn)] Jr := fun x => by kernel_rfl
def q54 : QF := ⟨54, Jr, okN (n := 1) Tryz.func54 ⟨ytm, trivial⟩ yzo⟩
def vH (x : ysv) : Option ysv :=
 some x
theorem ytn : EV [] lpN 130 Tryz.f130 ymR ycg ycg vH := fun x => by kernel_rfl
def yzp : QF := ⟨130, vH, okN (n := 0) Tryz.func130 trivial ytn⟩
abbrev KD : Type := ywr
def wy (k0 : List yF → Option R) (again : KD → Option R) (t3 : KD) : Option R :=
 bif (decide (t3.2.1 < (List.length t3.1 : Int))) then if (0 : Int) ≤ t3.2.1 then if t3.2.1 < (List.length t3.1 : Int) then Option.bind (vH ((kA t3.1 t3.2.1).1, (kA t3.1 t3.2.1).2.1, (kA t3.1 t3.2.1).2.2.1, (kA t3.1 t3.2.1).2.2.2)) fun r1 => if (0 : Int) ≤ t3.2.1 then if t3.2.1 < (List.length t3.2.2 : Int) then again (t3.1, (Go.IntKind.wrap .i64 (t3.2.1 + (1 : Int))), (List.set t3.2.2 (Int.toNat t3.2.1) r1)) else none else none else none else none else k0 t3.2.2
def qN k0 := zt (@wy R k0) zJ
def wz (x : List Jn) : Option (List yF) :=
 if (0 : Int) ≤ (List.length x : Int) then if (List.length x : Int) ≤ (List.length x : Int) then if (List.length x : Int) * ((40 : Nat) : Int) ≤ 140737488351232 then qN (fun x2 => some x2) (x, (0 : Int), (List.replicate (Int.toNat (List.length x : Int)) K8)) else none else none else none
def yto : List QF := [yzp]
def y9O (t : ywr) : St := ⟨yg8 t.1 :: dd 2 (.own 10000000 :: vI t.2.1 :: dd 18 []), [(10000000, .root true 91 z7 t.2.2)]⟩
def ypl : Gk KD := fun κ => wy (fun t => κ (some 0) ⟨dd 3 (.own 10000000 :: dd 19 []), [(10000000, .root true 91 z7 t)]⟩)
def ytp : Lp := lpC 3 (unG yws y9O) @ypl lpN
theorem ytq : LF yto ytp 55 3 Tryz.f55 0 y9O @ypl fun t => t := fun R κ again t => by kernel_rfl
theorem ytr : LK yto ytp 55 Tryz.f55 0 := lkN (u := (unG yws y9O)) (ym fun t => by kernel_rfl) ytq
theorem yzq : EV yto ytp 55 Tryz.f55 yxF [(.sl 158 Ji)] [(.sl 91 z7)] wz := fun x => by kernel_rfl
def q55 : QF := ⟨55, wz, okN (n := 1) Tryz.func55 ⟨ytr, trivial⟩ yzq⟩
def Zy (x : ywt) : Option y2s :=
 Option.bind (Kb (x.1, x.2.1)) fun r1 => Option.bind (wx x.2.2.1) fun r2 => Option.bind (Jr x.2.2.2.1) fun r3 => Option.bind (wz x.2.2.2.2.1) fun r4 => some (r1.1, r1.2, r2, r3, r4, x.2.2.2.2.2)
theorem yzr : EV [q52, q53, q54, q55] lpN 12 Tryz.f12 yxG yl3 WB Zy := fun x => by kernel_rfl
def q12 : QF := ⟨12, Zy, okN (n := 0) Tryz.func12 trivial yzr⟩
abbrev KE : Type := ywu
def wA (k0 : Bool → Option R) (k1 : Unit → Option R) (again : KE → Option R) (t4 : KE) : Option R :=
 bif (decide (t4.2.2 < (List.length t4.1 : Int))) then if (0 : Int) ≤ t4.2.2 then if t4.2.2 < (List.length t4.1 : Int) then if (0 : Int) ≤ t4.2.2 then if t4.2.2 < (List.length t4.2.1 : Int) then bif ((z9 t4.1 t4.2.2) != (z9 t4.2.1 t4.2.2)) then k0 false else again (t4.1, t4.2.1, (Go.IntKind.wrap .i64 (t4.2.2 + (1 : Int)))) else none else none else none else none else k1 ()
def qO k0 k1 := zt (@wA R k0 k1) zJ
def wB (x : yyF) : Option Bool :=
 bif ((List.length x.1 : Int) != (List.length x.2 : Int)) then some false else qO (fun x1 => some x1) (fun x2 => some true) (x.1, x.2, (0 : Int))
def yij : List QF := []
def y5B (t : ywu) : St := ⟨ze t.1 :: ze t.2.1 :: dd 3 (vI t.2.2 :: dd 20 []), []⟩
def ygk : Gk KE := fun κ => wA (fun t => κ none ⟨dd 4 (vB t :: dd 21 []), []⟩) (fun t => κ (some 0) ⟨dd 26 [], []⟩)
def yik : Lp := lpC 4 (unG ywv y5B) @ygk lpN
theorem ypm : LF yij yik 139 4 Tryz.f139 0 y5B @ygk fun t => t := fun R κ again t => by kernel_rfl
theorem ypn : LK yij yik 139 Tryz.f139 0 := lkN (u := (unG ywv y5B)) (ym fun t => by kernel_rfl) ypm
theorem yts : EV yij yik 139 Tryz.f139 ymS yyG [.bool] wB := fun x => by kernel_rfl
def yzs : QF := ⟨139, wB, okN (n := 1) Tryz.func139 ⟨ypn, trivial⟩ yts⟩
def vJ (x : yl4) : Option Bool :=
 bif (x.1 != x.2.2.2.2.2.1) then some false else bif (x.2.1 != x.2.2.2.2.2.2.1) then some false else bif (x.2.2.1 != x.2.2.2.2.2.2.2.1) then some false else bif (x.2.2.2.1 != x.2.2.2.2.2.2.2.2.1) then some false else bif (x.2.2.2.2.1 != x.2.2.2.2.2.2.2.2.2) then some false else some true
theorem ytt : EV [] lpN 303 Tryz.f303 ymT yl5 [.bool] vJ := fun x => by kernel_rfl
def yzt : QF := ⟨303, vJ, okN (n := 0) Tryz.func303 trivial ytt⟩
abbrev KF : Type := yww
def wC (k0 : Bool → Option R) (k1 : Unit → Option R) (again : KF → Option R) (t4 : KF) : Option R :=
 bif (decide (t4.2.2 < (List.length t4.1 : Int))) then if (0 : Int) ≤ t4.2.2 then if t4.2.2 < (List.length t4.1 : Int) then if (0 : Int) ≤ t4.2.2 then if t4.2.2 < (List.length t4.2.1 : Int) then Option.bind (vJ ((y0 t4.1 t4.2.2).1, (y0 t4.1 t4.2.2).2.1, (y0 t4.1 t4.2.2).2.2.1, (y0 t4.1 t4.2.2).2.2.2.1, (y0 t4.1 t4.2.2).2.2.2.2, (y0 t4.2.1 t4.2.2).1, (y0 t4.2.1 t4.2.2).2.1, (y0 t4.2.1 t4.2.2).2.2.1, (y0 t4.2.1 t4.2.2).2.2.2.1, (y0 t4.2.1 t4.2.2).2.2.2.2)) fun r1 => bif (!r1) then k0 false else again (t4.1, t4.2.1, (Go.IntKind.wrap .i64 (t4.2.2 + (1 : Int)))) else none else none else none else none else k1 ()
def qP k0 k1 := zt (@wC R k0 k1) zJ
def Zz (x : ysw) : Option Bool :=
 bif ((List.length x.1 : Int) != (List.length x.2 : Int)) then some false else qP (fun x2 => some x2) (fun x3 => some true) (x.1, x.2, (0 : Int))
def yil : List QF := [yzt]
def y5C (t : yww) : St := ⟨Vp t.1 :: Vp t.2.1 :: dd 3 (vI t.2.2 :: dd 21 []), []⟩
def ygl : Gk KF := fun κ => wC (fun t => κ none ⟨dd 4 (vB t :: dd 22 []), []⟩) (fun t => κ (some 0) ⟨dd 27 [], []⟩)
def yim : Lp := lpC 4 (unG ywx y5C) @ygl lpN
theorem ypo : LF yil yim 282 4 Tryz.f282 0 y5C @ygl fun t => t := fun R κ again t => by kernel_rfl
theorem ypp : LK yil yim 282 Tryz.f282 0 := lkN (u := (unG ywx y5C)) (ym fun t => by kernel_rfl) ypo
theorem ytu : EV yil yim 282 Tryz.f282 ymU ysx [.bool] Zz := fun x => by kernel_rfl
def yzu : QF := ⟨282, Zz, okN (n := 1) Tryz.func282 ⟨ypp, trivial⟩ ytu⟩
abbrev kG : Type := ywy
def JP (k0 : Bool → Option R) (k1 : Unit → Option R) (again : kG → Option R) (t4 : kG) : Option R :=
 bif (decide (t4.2.2 < (List.length t4.1 : Int))) then if (0 : Int) ≤ t4.2.2 then if t4.2.2 < (List.length t4.1 : Int) then if (0 : Int) ≤ t4.2.2 then if t4.2.2 < (List.length t4.2.1 : Int) then Option.bind (Zz ((yj t4.1 t4.2.2), (yj t4.2.1 t4.2.2))) fun r1 => bif (!r1) then k0 false else again (t4.1, t4.2.1, (Go.IntKind.wrap .i64 (t4.2.2 + (1 : Int)))) else none else none else none else none else k1 ()
def qe k0 k1 := zt (@JP R k0 k1) zJ
def Js (x : ywA) : Option Bool :=
 bif ((List.length x.1 : Int) != (List.length x.2 : Int)) then some false else qe (fun x2 => some x2) (fun x3 => some true) (x.1, x.2, (0 : Int))
def yin : List QF := [yzu]
def y5D (t : ywy) : St := ⟨Y6 t.1 :: Y6 t.2.1 :: dd 3 (vI t.2.2 :: dd 21 []), []⟩
def ygm : Gk kG := fun κ => JP (fun t => κ none ⟨dd 4 (vB t :: dd 22 []), []⟩) (fun t => κ (some 0) ⟨dd 27 [], []⟩)
def yio : Lp := lpC 4 (unG ywz y5D) @ygm lpN
theorem ypq : LF yin yio 253 4 Tryz.f253 0 y5D @ygm fun t => t := fun R κ again t => by kernel_rfl
theorem ypr : LK yin yio 253 Tryz.f253 0 := lkN (u := (unG ywz y5D)) (ym fun t => by kernel_rfl) ypq
theorem ytv : EV yin yio 253 Tryz.f253 ymV ywB [.bool] Js := fun x => by kernel_rfl
def yzv : QF := ⟨253, Js, okN (n := 1) Tryz.func253 ⟨ypr, trivial⟩ ytv⟩
def J1 (x : ywA) : Option Bool :=
 Option.bind (Js x) fun r1 => bif (!r1) then some false else some true
theorem ytw : EV [yzv] lpN 216 Tryz.f216 ymW ywB [.bool] J1 := fun x => by kernel_rfl
def yzw : QF := ⟨216, J1, okN (n := 0) Tryz.func216 trivial ytw⟩
abbrev kH : Type := ywC
def JQ (k0 : Bool → Option R) (k1 : Unit → Option R) (again : kH → Option R) (t4 : kH) : Option R :=
 bif (decide (t4.2.2 < (List.length t4.1 : Int))) then if (0 : Int) ≤ t4.2.2 then if t4.2.2 < (List.length t4.1 : Int) then if (0 : Int) ≤ t4.2.2 then if t4.2.2 < (List.length t4.2.1 : Int) then Option.bind (J1 ((ya t4.1 t4.2.2), (ya t4.2.1 t4.2.2))) fun r1 => bif (!r1) then k0 false else again (t4.1, t4.2.1, (Go.IntKind.wrap .i64 (t4.2.2 + (1 : Int)))) else none else none else none else none else k1 ()
def qf k0 k1 := zt (@JQ R k0 k1) zJ
def j9 (x : yyH) : Option Bool :=
 bif ((List.length x.1 : Int) != (List.length x.2 : Int)) then some false else qf (fun x2 => some x2) (fun x3 => some true) (x.1, x.2, (0 : Int))
def yip : List QF := [yzw]
def y5E (t : ywC) : St := ⟨yC t.1 :: yC t.2.1 :: dd 3 (vI t.2.2 :: dd 21 []), []⟩
def ygn : Gk kH := fun κ => JQ (fun t => κ none ⟨dd 4 (vB t :: dd 22 []), []⟩) (fun t => κ (some 0) ⟨dd 27 [], []⟩)
def yiq : Lp := lpC 4 (unG ywD y5E) @ygn lpN
theorem yps : LF yip yiq 140 4 Tryz.f140 0 y5E @ygn fun t => t := fun R κ again t => by kernel_rfl
theorem ypt : LK yip yiq 140 Tryz.f140 0 := lkN (u := (unG ywD y5E)) (ym fun t => by kernel_rfl) yps
theorem ytx : EV yip yiq 140 Tryz.f140 ymX yyI [.bool] j9 := fun x => by kernel_rfl
def yzx : QF := ⟨140, j9, okN (n := 1) Tryz.func140 ⟨ypt, trivial⟩ ytx⟩
def Kd (x : yyJ) : Option Bool :=
 Option.bind (wB (x.1, x.2.2.1)) fun r1 => bif (!r1) then some false else Option.bind (j9 (x.2.1, x.2.2.2)) fun r2 => bif (!r2) then some false else some true
theorem yzy : EV [yzs, yzx] lpN 61 Tryz.f61 yxH yyK [.bool] Kd := fun x => by kernel_rfl
def q61 : QF := ⟨61, Kd, okN (n := 0) Tryz.func61 trivial yzy⟩
def vK (x : yyL) : Option Bool :=
 bif (x.1 != x.2.2.1) then some false else bif (x.2.1 != x.2.2.2) then some false else some true
theorem yty : EV [] lpN 141 Tryz.f141 ymY yyM [.bool] vK := fun x => by kernel_rfl
def yzz : QF := ⟨141, vK, okN (n := 0) Tryz.func141 trivial yty⟩
abbrev KG : Type := ywE
def wD (k0 : Bool → Option R) (k1 : Unit → Option R) (again : KG → Option R) (t4 : KG) : Option R :=
 bif (decide (t4.2.2 < (List.length t4.1 : Int))) then if (0 : Int) ≤ t4.2.2 then if t4.2.2 < (List.length t4.1 : Int) then if (0 : Int) ≤ t4.2.2 then if t4.2.2 < (List.length t4.2.1 : Int) then Option.bind (vK ((yD t4.1 t4.2.2).1, (yD t4.1 t4.2.2).2, (yD t4.2.1 t4.2.2).1, (yD t4.2.1 t4.2.2).2)) fun r1 => bif (!r1) then k0 false else again (t4.1, t4.2.1, (Go.IntKind.wrap .i64 (t4.2.2 + (1 : Int)))) else none else none else none else none else k1 ()
def qQ k0 k1 := zt (@wD R k0 k1) zJ
def wE (x : yyN) : Option Bool :=
 bif ((List.length x.1 : Int) != (List.length x.2 : Int)) then some false else qQ (fun x2 => some x2) (fun x3 => some true) (x.1, x.2, (0 : Int))
def ytz : List QF := [yzz]
def y9P (t : ywE) : St := ⟨zu t.1 :: zu t.2.1 :: dd 3 (vI t.2.2 :: dd 21 []), []⟩
def ypu : Gk KG := fun κ => wD (fun t => κ none ⟨dd 4 (vB t :: dd 22 []), []⟩) (fun t => κ (some 0) ⟨dd 27 [], []⟩)
def ytA : Lp := lpC 4 (unG ywF y9P) @ypu lpN
theorem ytB : LF ytz ytA 62 4 Tryz.f62 0 y9P @ypu fun t => t := fun R κ again t => by kernel_rfl
theorem ytC : LK ytz ytA 62 Tryz.f62 0 := lkN (u := (unG ywF y9P)) (ym fun t => by kernel_rfl) ytB
theorem yzA : EV ytz ytA 62 Tryz.f62 yxI yyO [.bool] wE := fun x => by kernel_rfl
def q62 : QF := ⟨62, wE, okN (n := 1) Tryz.func62 ⟨ytC, trivial⟩ yzA⟩
def Ke (x : yyP) : Option Bool :=
 bif (x.1 != x.2.2.2.1) then some false else bif (!(x.2.1 == x.2.2.2.2.1)) then some false else bif (x.2.2.1 != x.2.2.2.2.2) then some false else some true
theorem ytD : EV [] lpN 142 Tryz.f142 ymZ yyQ [.bool] Ke := fun x => by kernel_rfl
def yzB : QF := ⟨142, Ke, okN (n := 0) Tryz.func142 trivial ytD⟩
abbrev kI : Type := ywG
def JR (k0 : Bool → Option R) (k1 : Unit → Option R) (again : kI → Option R) (t4 : kI) : Option R :=
 bif (decide (t4.2.2 < (List.length t4.1 : Int))) then if (0 : Int) ≤ t4.2.2 then if t4.2.2 < (List.length t4.1 : Int) then if (0 : Int) ≤ t4.2.2 then if t4.2.2 < (List.length t4.2.1 : Int) then Option.bind (Ke ((zw t4.1 t4.2.2).1, (zw t4.1 t4.2.2).2.1, (zw t4.1 t4.2.2).2.2, (zw t4.2.1 t4.2.2).1, (zw t4.2.1 t4.2.2).2.1, (zw t4.2.1 t4.2.2).2.2)) fun r1 => bif (!r1) then k0 false else again (t4.1, t4.2.1, (Go.IntKind.wrap .i64 (t4.2.2 + (1 : Int)))) else none else none else none else none else k1 ()
def qg k0 k1 := zt (@JR R k0 k1) zJ
def Jt (x : yyR) : Option Bool :=
 bif ((List.length x.1 : Int) != (List.length x.2 : Int)) then some false else qg (fun x2 => some x2) (fun x3 => some true) (x.1, x.2, (0 : Int))
def ytE : List QF := [yzB]
def y9Q (t : ywG) : St := ⟨yX t.1 :: yX t.2.1 :: dd 3 (vI t.2.2 :: dd 21 []), []⟩
def ypv : Gk kI := fun κ => JR (fun t => κ none ⟨dd 4 (vB t :: dd 22 []), []⟩) (fun t => κ (some 0) ⟨dd 27 [], []⟩)
def ytF : Lp := lpC 4 (unG ywH y9Q) @ypv lpN
theorem ytG : LF ytE ytF 63 4 Tryz.f63 0 y9Q @ypv fun t => t := fun R κ again t => by kernel_rfl
theorem ytH : LK ytE ytF 63 Tryz.f63 0 := lkN (u := (unG ywH y9Q)) (ym fun t => by kernel_rfl) ytG
theorem yzC : EV ytE ytF 63 Tryz.f63 yxJ yyS [.bool] Jt := fun x => by kernel_rfl
def q63 : QF := ⟨63, Jt, okN (n := 1) Tryz.func63 ⟨ytH, trivial⟩ yzC⟩
def vL (x : ywI) : Option Bool :=
 bif (!((ByteArray.toList x.1) == (ByteArray.toList x.2.2.2.2.1))) then some false else bif (x.2.1 != x.2.2.2.2.2.1) then some false else bif (x.2.2.1 != x.2.2.2.2.2.2.1) then some false else bif (!(x.2.2.2.1 == x.2.2.2.2.2.2.2)) then some false else some true
theorem ytI : EV [] lpN 143 Tryz.f143 yn0 ywJ [.bool] vL := fun x => by kernel_rfl
def yzD : QF := ⟨143, vL, okN (n := 0) Tryz.func143 trivial ytI⟩
abbrev KH : Type := ywK
def wF (k0 : Bool → Option R) (k1 : Unit → Option R) (again : KH → Option R) (t4 : KH) : Option R :=
 bif (decide (t4.2.2 < (List.length t4.1 : Int))) then if (0 : Int) ≤ t4.2.2 then if t4.2.2 < (List.length t4.1 : Int) then if (0 : Int) ≤ t4.2.2 then if t4.2.2 < (List.length t4.2.1 : Int) then Option.bind (vL ((zd t4.1 t4.2.2).1, (zd t4.1 t4.2.2).2.1, (zd t4.1 t4.2.2).2.2.1, (zd t4.1 t4.2.2).2.2.2, (zd t4.2.1 t4.2.2).1, (zd t4.2.1 t4.2.2).2.1, (zd t4.2.1 t4.2.2).2.2.1, (zd t4.2.1 t4.2.2).2.2.2)) fun r1 => bif (!r1) then k0 false else again (t4.1, t4.2.1, (Go.IntKind.wrap .i64 (t4.2.2 + (1 : Int)))) else none else none else none else none else k1 ()
def qR k0 k1 := zt (@wF R k0 k1) zJ
def wG (x : yyT) : Option Bool :=
 bif ((List.length x.1 : Int) != (List.length x.2 : Int)) then some false else qR (fun x2 => some x2) (fun x3 => some true) (x.1, x.2, (0 : Int))
def ytJ : List QF := [yzD]
def y9R (t : ywK) : St := ⟨zX t.1 :: zX t.2.1 :: dd 3 (vI t.2.2 :: dd 21 []), []⟩
def ypw : Gk KH := fun κ => wF (fun t => κ none ⟨dd 4 (vB t :: dd 22 []), []⟩) (fun t => κ (some 0) ⟨dd 27 [], []⟩)
def ytK : Lp := lpC 4 (unG ywL y9R) @ypw lpN
theorem ytL : LF ytJ ytK 64 4 Tryz.f64 0 y9R @ypw fun t => t := fun R κ again t => by kernel_rfl
theorem ytM : LK ytJ ytK 64 Tryz.f64 0 := lkN (u := (unG ywL y9R)) (ym fun t => by kernel_rfl) ytL
theorem yzE : EV ytJ ytK 64 Tryz.f64 yxK yyU [.bool] wG := fun x => by kernel_rfl
def q64 : QF := ⟨64, wG, okN (n := 1) Tryz.func64 ⟨ytM, trivial⟩ yzE⟩
def wH (x : yyV) : Option Bool :=
 Option.bind (Kd (x.1, x.2.1, x.2.2.2.2.2.2.1, x.2.2.2.2.2.2.2.1)) fun r1 => bif (!r1) then some false else Option.bind (wE (x.2.2.1, x.2.2.2.2.2.2.2.2.1)) fun r2 => bif (!r2) then some false else Option.bind (Jt (x.2.2.2.1, x.2.2.2.2.2.2.2.2.2.1)) fun r3 => bif (!r3) then some false else Option.bind (wG (x.2.2.2.2.1, x.2.2.2.2.2.2.2.2.2.2.1)) fun r4 => bif (!r4) then some false else bif (x.2.2.2.2.2.1 != x.2.2.2.2.2.2.2.2.2.2.2) then some false else some true
theorem yzF : EV [q61, q62, q63, q64] lpN 15 Tryz.f15 yxL yyW [.bool] wH := fun x => by kernel_rfl
def q15 : QF := ⟨15, wH, okN (n := 0) Tryz.func15 trivial yzF⟩
abbrev KI : Type := yg9 ⊕ yl6
def Yt (k0 : Unit → Option R) (k1 : List y9 → Option R) (again : KI → Option R) : KI → Option R
 | .inl t3 => bif (decide (t3.1 < (List.length t3.2 : Int))) then if (0 : Int) ≤ t3.1 then if t3.1 < (List.length t3.2 : Int) then if (List.length ([] : List y8) + List.length (yj t3.2 t3.1)) * 40 < 140737488355328 then if List.length ([(([] : List y8) ++ (yj t3.2 t3.1))] : List y9) * 24 < 140737488355328 then again (Sum.inr ((Go.IntKind.wrap .i64 (t3.1 + (1 : Int))), t3.2, ([(([] : List y8) ++ (yj t3.2 t3.1))] : List y9))) else none else none else none else none else k0 ()
 | .inr t3 => bif (decide (t3.1 < (List.length t3.2.1 : Int))) then if (0 : Int) ≤ t3.1 then if t3.1 < (List.length t3.2.1 : Int) then if (List.length ([] : List y8) + List.length (yj t3.2.1 t3.1)) * 40 < 140737488355328 then if (List.length t3.2.2 + List.length ([(([] : List y8) ++ (yj t3.2.1 t3.1))] : List y9)) * 24 < 140737488355328 then again (Sum.inr ((Go.IntKind.wrap .i64 (t3.1 + (1 : Int))), t3.2.1, (t3.2.2 ++ ([(([] : List y8) ++ (yj t3.2.1 t3.1))] : List y9)))) else none else none else none else none else k1 t3.2.2
def qS k0 k1 := zt (@Yt R k0 k1) zJ
def z4 (x : List y9) : Option (List y9) :=
 qS (fun x1 => some ([] : List y9)) (fun x2 => some x2) (Sum.inl ((0 : Int), x))
def ydh : List QF := []
def y2t (t : yg9) : St := ⟨.dead :: .box 1 0 :: .box 2 0 :: .box 3 0 :: vI t.1 :: dd 21 [], [(1, .box [Y6 t.2]), (2, .box [.nils]), (3, .box [.nils])]⟩
theorem yfa : ∀ s t, unG ys2 y2t s = some t → y2t t = s := ym fun t => by kernel_rfl
def y2u (t : yl6) : St := ⟨.dead :: .box 1 0 :: .box 2 0 :: .box 3 0 :: vI t.1 :: dd 21 [], [(1, .box [Y6 t.2.1]), (2, .box [.nils]), (3, .box [.own 10000000]), (10000000, .root true 100 yi t.2.2)]⟩
theorem yfb : ∀ s t, unG ywM y2u s = some t → y2u t = s := ym fun t => by kernel_rfl
def y2v : (yg9 ⊕ yl6) → St := Sum.elim y2t y2u
def y5F (s : St) : Option (yg9 ⊕ yl6) := ((unG ys2 y2t s).map Sum.inl).or (((unG ywM y2u) s).map Sum.inr)
theorem yfc : ∀ s t, y5F s = some t → y2v t = s := y9J yfa yfb
def yaY : Gk KI := fun κ => Yt (fun t => κ (some 0) ⟨dd 2 (.box 2 0 :: .box 3 0 :: dd 22 []), [(2, .box [.nils]), (3, .box [.nils])]⟩) (fun t => κ (some 0) ⟨dd 2 (.box 2 0 :: .box 3 0 :: dd 22 []), [(2, .box [.nils]), (3, .box [.own 10000000]), (10000000, .root true 100 yi t)]⟩)
def ydi : Lp := lpC 3 y5F @yaY lpN
theorem yfd : LF ydh ydi 227 3 Tryz.f227 0 y2v @yaY fun v : yg9 => .inl v := fun R κ again v => by kernel_rfl
theorem yfe : LF ydh ydi 227 3 Tryz.f227 0 y2v @yaY fun v : yl6 => .inr v := fun R κ again v => by kernel_rfl
theorem ypx : LF ydh ydi 227 3 Tryz.f227 0 y2v @yaY fun t => t := (LC.sum yfd yfe)
theorem ypy : LK ydh ydi 227 Tryz.f227 0 := lkN (u := y5F) yfc ypx
theorem ytN : EV ydh ydi 227 Tryz.f227 yn1 [(.sl 100 yi)] [(.sl 100 yi)] z4 := fun x => by kernel_rfl
def yxR : QF := ⟨227, z4, okN (n := 1) Tryz.func227 ⟨ypy, trivial⟩ ytN⟩
abbrev KJ : Type := yl7 ⊕ yl8
def Yu (k0 : List yh → Option R) (k1 : y3Y → Option R) (again : KJ → Option R) : KJ → Option R
 | .inl t3 => bif (decide (t3.1 < (List.length t3.2.2.1 : Int))) then if (0 : Int) ≤ t3.1 then if t3.1 < (List.length t3.2.2.1 : Int) then Option.bind (z4 (ya t3.2.2.1 t3.1)) fun r1 => if List.length ([r1] : List y7) * 24 < 140737488355328 then again (Sum.inr ((Go.IntKind.wrap .i64 (t3.1 + (1 : Int))), t3.2.1, t3.2.2.1, t3.2.2.2, ([r1] : List y7))) else none else none else none else k0 t3.2.2.2
 | .inr t3 => bif (decide (t3.1 < (List.length t3.2.2.1 : Int))) then if (0 : Int) ≤ t3.1 then if t3.1 < (List.length t3.2.2.1 : Int) then Option.bind (z4 (ya t3.2.2.1 t3.1)) fun r2 => if (List.length t3.2.2.2.2 + List.length ([r2] : List y7)) * 24 < 140737488355328 then again (Sum.inr ((Go.IntKind.wrap .i64 (t3.1 + (1 : Int))), t3.2.1, t3.2.2.1, t3.2.2.2.1, (t3.2.2.2.2 ++ ([r2] : List y7)))) else none else none else none else k1 t3.2.2.2
def qT k0 k1 := zt (@Yu R k0 k1) zJ
def ZA (x : y3Y) : Option y3Y :=
 if (List.length ([] : List yh) + List.length x.1) * 8 < 140737488355328 then qT (fun x3 => some (x3, ([] : List y7))) (fun x4 => some x4) (Sum.inl ((0 : Int), x.1, x.2, (([] : List yh) ++ x.1))) else none
def ydj : List QF := [yxR]
def y2w (t : yl7) : St := ⟨.dead :: .box 1 0 :: .box 2 0 :: .box 3 0 :: vI t.1 :: dd 24 [], [(1, .box [ze t.2.1, yC t.2.2.1]), (2, .box [.nils, .nils]), (3, .box [.own 10000000, .nils]), (10000000, .root true 3 yd t.2.2.2)]⟩
theorem yff : ∀ s t, unG ywN y2w s = some t → y2w t = s := ym fun t => by kernel_rfl
def y2x (t : yl8) : St := ⟨.dead :: .box 1 0 :: .box 2 0 :: .box 3 0 :: vI t.1 :: dd 24 [], [(1, .box [ze t.2.1, yC t.2.2.1]), (2, .box [.nils, .nils]), (3, .box [.own 10000000, .own 10000001]), (10000000, .root true 3 yd t.2.2.2.1), (10000001, .root true 98 yk t.2.2.2.2)]⟩
theorem yfg : ∀ s t, unG ywO y2x s = some t → y2x t = s := ym fun t => by kernel_rfl
def y2y : (yl7 ⊕ yl8) → St := Sum.elim y2w y2x
def y5G (s : St) : Option (yl7 ⊕ yl8) := ((unG ywN y2w s).map Sum.inl).or (((unG ywO y2x) s).map Sum.inr)
theorem yfh : ∀ s t, y5G s = some t → y2y t = s := y9J yff yfg
def yaZ : Gk KJ := fun κ => Yu (fun t => κ (some 0) ⟨dd 2 (.box 2 0 :: .box 3 0 :: dd 25 []), [(2, .box [.nils, .nils]), (3, .box [.own 10000000, .nils]), (10000000, .root true 3 yd t)]⟩) (fun t => κ (some 0) ⟨dd 2 (.box 2 0 :: .box 3 0 :: dd 25 []), [(2, .box [.nils, .nils]), (3, .box [.own 10000000, .own 10000001]), (10000000, .root true 3 yd t.1), (10000001, .root true 98 yk t.2)]⟩)
def ydk : Lp := lpC 3 y5G @yaZ lpN
theorem yfi : LF ydj ydk 185 3 Tryz.f185 0 y2y @yaZ fun v : yl7 => .inl v := fun R κ again v => by kernel_rfl
theorem yfj : LF ydj ydk 185 3 Tryz.f185 0 y2y @yaZ fun v : yl8 => .inr v := fun R κ again v => by kernel_rfl
theorem ypz : LF ydj ydk 185 3 Tryz.f185 0 y2y @yaZ fun t => t := (LC.sum yfi yfj)
theorem ypA : LK ydj ydk 185 Tryz.f185 0 := lkN (u := y5G) yfh ypz
theorem ytO : EV ydj ydk 185 Tryz.f185 yn2 WA WA ZA := fun x => by kernel_rfl
def yxS : QF := ⟨185, ZA, okN (n := 1) Tryz.func185 ⟨ypA, trivial⟩ ytO⟩
def ZB (x : List yg) : Option (List yg) :=
 if (List.length ([] : List yg) + List.length x) * 24 < 140737488355328 then some (([] : List yg) ++ x) else none
theorem ytP : EV [] lpN 186 Tryz.f186 yn3 [(.sl 95 yn)] [(.sl 95 yn)] ZB := fun x => by kernel_rfl
def yxT : QF := ⟨186, ZB, okN (n := 0) Tryz.func186 trivial ytP⟩
def z8 (x : y2s) : Option y2s :=
 Option.bind (ZA (x.1, x.2.1)) fun r1 => if (List.length ([] : List yf) + List.length x.2.2.1) * 16 < 140737488355328 then Option.bind (ZB x.2.2.2.1) fun r2 => if (List.length ([] : List yF) + List.length x.2.2.2.2.1) * 40 < 140737488355328 then some (r1.1, r1.2, (([] : List yf) ++ x.2.2.1), r2, (([] : List yF) ++ x.2.2.2.2.1), x.2.2.2.2.2) else none else none
theorem ytQ : EV [yxS, yxT] lpN 114 Tryz.f114 yn4 WB WB z8 := fun x => by kernel_rfl
def yxU : QF := ⟨114, z8, okN (n := 0) Tryz.func114 trivial ytQ⟩
def z3 (x : ysy) : Option Bool :=
 Option.bind (bif (decide (x.1 ≥ x.2.1)) then some (decide (x.1 ≤ x.2.2)) else some false) fun u1 => some u1
theorem ytR : EV [] lpN 107 Tryz.f107 yn5 ysz [.bool] z3 := fun x => by kernel_rfl
def ydl : QF := ⟨107, z3, okN (n := 0) Tryz.func107 trivial ytR⟩
abbrev VM : Type := ys3
def wI (k0 : List y8 → Option R) (again : VM → Option R) (t3 : VM) : Option R :=
 bif (decide (t3.2.1 < (List.length t3.1 : Int))) then if (0 : Int) ≤ t3.2.1 then if t3.2.1 < (List.length t3.1 : Int) then bif ((y0 t3.1 t3.2.1).2.2.1 != (0 : Int)) then if (0 : Int) ≤ t3.2.1 then if t3.2.1 < (List.length t3.1 : Int) then if (List.length t3.2.2 + List.length ([((y0 t3.1 t3.2.1).1, (y0 t3.1 t3.2.1).2.1, (y0 t3.1 t3.2.1).2.2.1, (y0 t3.1 t3.2.1).2.2.2.1, (y0 t3.1 t3.2.1).2.2.2.2)] : List y8)) * 40 < 140737488355328 then again (t3.1, (Go.IntKind.wrap .i64 (t3.2.1 + (1 : Int))), (t3.2.2 ++ ([((y0 t3.1 t3.2.1).1, (y0 t3.1 t3.2.1).2.1, (y0 t3.1 t3.2.1).2.2.1, (y0 t3.1 t3.2.1).2.2.2.1, (y0 t3.1 t3.2.1).2.2.2.2)] : List y8))) else none else none else none else again (t3.1, (Go.IntKind.wrap .i64 (t3.2.1 + (1 : Int))), t3.2.2) else none else none else k0 t3.2.2
def y0W k0 := zt (@wI R k0) zJ
def zN (x : List y8) : Option (List y8) :=
 y0W (fun x1 => some x1) (x, (0 : Int), ([] : List y8))
def yir : List QF := []
def y5H (t : ys3) : St := ⟨Vp t.1 :: dd 2 (.own 10000000 :: vI t.2.1 :: dd 21 []), [(10000000, .root true 106 yb t.2.2)]⟩
def ygo : Gk VM := fun κ => wI (fun t => κ (some 0) ⟨dd 3 (.own 10000000 :: dd 22 []), [(10000000, .root true 106 yb t)]⟩)
def yis : Lp := lpC 3 (unG ys4 y5H) @ygo lpN
theorem ypB : LF yir yis 235 3 Tryz.f235 0 y5H @ygo fun t => t := fun R κ again t => by kernel_rfl
theorem ypC : LK yir yis 235 Tryz.f235 0 := lkN (u := (unG ys4 y5H)) (ym fun t => by kernel_rfl) ypB
theorem ytS : EV yir yis 235 Tryz.f235 yn6 [(.sl 106 yb)] [(.sl 106 yb)] zN := fun x => by kernel_rfl
def ytT : QF := ⟨235, zN, okN (n := 1) Tryz.func235 ⟨ypC, trivial⟩ ytS⟩
def ja (x : yl4) : Option Bool :=
 bif (x.1 != x.2.2.2.2.2.1) then some (decide (x.1 < x.2.2.2.2.2.1)) else some (decide (x.2.1 < x.2.2.2.2.2.2.1))
theorem ytU : EV [] lpN 266 Tryz.f266 yn7 yl5 [.bool] ja := fun x => by kernel_rfl
def yxV : QF := ⟨266, ja, okN (n := 0) Tryz.func266 trivial ytU⟩
def Z8 (x : yl4) : Option Bool :=
 Option.bind (bif (x.1 == x.2.2.2.2.2.1) then some (x.2.1 == x.2.2.2.2.2.2.1) else some false) fun u1 => some u1
theorem ytV : EV [] lpN 267 Tryz.f267 yn8 yl5 [.bool] Z8 := fun x => by kernel_rfl
def yzG : QF := ⟨267, Z8, okN (n := 0) Tryz.func267 trivial ytV⟩
abbrev wL : Type := ywP
def Yv (k0 : ywR → Option R) (again : wL → Option R) (t4 : wL) : Option R :=
 bif (decide (t4.2.2.1 < (List.length t4.1 : Int))) then Option.bind (bif (!t4.2.1) then if (0 : Int) ≤ t4.2.2.1 then if t4.2.2.1 < (List.length t4.1 : Int) then Option.bind (ja ((y0 t4.1 t4.2.2.1).1, (y0 t4.1 t4.2.2.1).2.1, (y0 t4.1 t4.2.2.1).2.2.1, (y0 t4.1 t4.2.2.1).2.2.2.1, (y0 t4.1 t4.2.2.1).2.2.2.2, t4.2.2.2.1, t4.2.2.2.2.1, t4.2.2.2.2.2.1, t4.2.2.2.2.2.2.1, t4.2.2.2.2.2.2.2.1)) fun r2 => some (!r2) else none else none else some false) fun u1 => bif u1 then if (List.length t4.2.2.2.2.2.2.2.2 + List.length ([(t4.2.2.2.1, t4.2.2.2.2.1, t4.2.2.2.2.2.1, t4.2.2.2.2.2.2.1, t4.2.2.2.2.2.2.2.1)] : List y8)) * 40 < 140737488355328 then if (0 : Int) ≤ t4.2.2.1 then if t4.2.2.1 < (List.length t4.1 : Int) then Option.bind (Z8 ((y0 t4.1 t4.2.2.1).1, (y0 t4.1 t4.2.2.1).2.1, (y0 t4.1 t4.2.2.1).2.2.1, (y0 t4.1 t4.2.2.1).2.2.2.1, (y0 t4.1 t4.2.2.1).2.2.2.2, t4.2.2.2.1, t4.2.2.2.2.1, t4.2.2.2.2.2.1, t4.2.2.2.2.2.2.1, t4.2.2.2.2.2.2.2.1)) fun r3 => bif (!r3) then if (0 : Int) ≤ t4.2.2.1 then if t4.2.2.1 < (List.length t4.1 : Int) then if (List.length (t4.2.2.2.2.2.2.2.2 ++ ([(t4.2.2.2.1, t4.2.2.2.2.1, t4.2.2.2.2.2.1, t4.2.2.2.2.2.2.1, t4.2.2.2.2.2.2.2.1)] : List y8)) + List.length ([((y0 t4.1 t4.2.2.1).1, (y0 t4.1 t4.2.2.1).2.1, (y0 t4.1 t4.2.2.1).2.2.1, (y0 t4.1 t4.2.2.1).2.2.2.1, (y0 t4.1 t4.2.2.1).2.2.2.2)] : List y8)) * 40 < 140737488355328 then again (t4.1, true, (Go.IntKind.wrap .i64 (t4.2.2.1 + (1 : Int))), t4.2.2.2.1, t4.2.2.2.2.1, t4.2.2.2.2.2.1, t4.2.2.2.2.2.2.1, t4.2.2.2.2.2.2.2.1, ((t4.2.2.2.2.2.2.2.2 ++ ([(t4.2.2.2.1, t4.2.2.2.2.1, t4.2.2.2.2.2.1, t4.2.2.2.2.2.2.1, t4.2.2.2.2.2.2.2.1)] : List y8)) ++ ([((y0 t4.1 t4.2.2.1).1, (y0 t4.1 t4.2.2.1).2.1, (y0 t4.1 t4.2.2.1).2.2.1, (y0 t4.1 t4.2.2.1).2.2.2.1, (y0 t4.1 t4.2.2.1).2.2.2.2)] : List y8))) else none else none else none else again (t4.1, true, (Go.IntKind.wrap .i64 (t4.2.2.1 + (1 : Int))), t4.2.2.2.1, t4.2.2.2.2.1, t4.2.2.2.2.2.1, t4.2.2.2.2.2.2.1, t4.2.2.2.2.2.2.2.1, (t4.2.2.2.2.2.2.2.2 ++ ([(t4.2.2.2.1, t4.2.2.2.2.1, t4.2.2.2.2.2.1, t4.2.2.2.2.2.2.1, t4.2.2.2.2.2.2.2.1)] : List y8))) else none else none else none else if (0 : Int) ≤ t4.2.2.1 then if t4.2.2.1 < (List.length t4.1 : Int) then Option.bind (Z8 ((y0 t4.1 t4.2.2.1).1, (y0 t4.1 t4.2.2.1).2.1, (y0 t4.1 t4.2.2.1).2.2.1, (y0 t4.1 t4.2.2.1).2.2.2.1, (y0 t4.1 t4.2.2.1).2.2.2.2, t4.2.2.2.1, t4.2.2.2.2.1, t4.2.2.2.2.2.1, t4.2.2.2.2.2.2.1, t4.2.2.2.2.2.2.2.1)) fun r4 => bif (!r4) then if (0 : Int) ≤ t4.2.2.1 then if t4.2.2.1 < (List.length t4.1 : Int) then if (List.length t4.2.2.2.2.2.2.2.2 + List.length ([((y0 t4.1 t4.2.2.1).1, (y0 t4.1 t4.2.2.1).2.1, (y0 t4.1 t4.2.2.1).2.2.1, (y0 t4.1 t4.2.2.1).2.2.2.1, (y0 t4.1 t4.2.2.1).2.2.2.2)] : List y8)) * 40 < 140737488355328 then again (t4.1, t4.2.1, (Go.IntKind.wrap .i64 (t4.2.2.1 + (1 : Int))), t4.2.2.2.1, t4.2.2.2.2.1, t4.2.2.2.2.2.1, t4.2.2.2.2.2.2.1, t4.2.2.2.2.2.2.2.1, (t4.2.2.2.2.2.2.2.2 ++ ([((y0 t4.1 t4.2.2.1).1, (y0 t4.1 t4.2.2.1).2.1, (y0 t4.1 t4.2.2.1).2.2.1, (y0 t4.1 t4.2.2.1).2.2.2.1, (y0 t4.1 t4.2.2.1).2.2.2.2)] : List y8))) else none else none else none else again (t4.1, t4.2.1, (Go.IntKind.wrap .i64 (t4.2.2.1 + (1 : Int))), t4.2.2.2.1, t4.2.2.2.2.1, t4.2.2.2.2.2.1, t4.2.2.2.2.2.2.1, t4.2.2.2.2.2.2.2.1, t4.2.2.2.2.2.2.2.2) else none else none else k0 (t4.2.1, t4.2.2.2)
def KK k0 := zt (@Yv R k0) zJ
def zo (x : ywS) : Option (List y8) :=
 KK (fun x5 => bif (!x5.1) then if (List.length x5.2.2.2.2.2.2 + List.length ([(x5.2.1, x5.2.2.1, x5.2.2.2.1, x5.2.2.2.2.1, x5.2.2.2.2.2.1)] : List y8)) * 40 < 140737488355328 then some (x5.2.2.2.2.2.2 ++ ([(x5.2.1, x5.2.2.1, x5.2.2.2.1, x5.2.2.2.2.1, x5.2.2.2.2.2.1)] : List y8)) else none else some x5.2.2.2.2.2.2) (x.1, false, (0 : Int), x.2.1, x.2.2.1, x.2.2.2.1, x.2.2.2.2.1, x.2.2.2.2.2, ([] : List y8))
def yit : List QF := [yxV, yzG]
def y5I (t : ywP) : St := ⟨Vp t.1 :: dd 2 (.box 3 0 :: .dead :: .own 10000000 :: vB t.2.1 :: vI t.2.2.1 :: dd 43 []), [(3, .box [vI t.2.2.2.1, vI t.2.2.2.2.1, vI t.2.2.2.2.2.1, vI t.2.2.2.2.2.2.1, vI t.2.2.2.2.2.2.2.1]), (10000000, .root true 106 yb t.2.2.2.2.2.2.2.2)]⟩
def ygp : Gk wL := fun κ => Yv (fun t => κ (some 0) ⟨dd 3 (.box 3 0 :: .dead :: .own 10000000 :: vB t.1 :: dd 44 []), [(3, .box [vI t.2.1, vI t.2.2.1, vI t.2.2.2.1, vI t.2.2.2.2.1, vI t.2.2.2.2.2.1]), (10000000, .root true 106 yb t.2.2.2.2.2.2)]⟩)
def yiu : Lp := lpC 4 (unG ywQ y5I) @ygp lpN
theorem ypD : LF yit yiu 236 4 Tryz.f236 0 y5I @ygp fun t => t := fun R κ again t => by kernel_rfl
theorem ypE : LK yit yiu 236 Tryz.f236 0 := lkN (u := (unG ywQ y5I)) (ym fun t => by kernel_rfl) ypD
theorem ytW : EV yit yiu 236 Tryz.f236 yn9 ywT [(.sl 106 yb)] zo := fun x => by kernel_rfl
def ytX : QF := ⟨236, zo, okN (n := 1) Tryz.func236 ⟨ypE, trivial⟩ ytW⟩
abbrev wM : Type := ys3
def YK (k0 : List y8 → Option R) (again : wM → Option R) (t3 : wM) : Option R :=
 bif (decide (t3.2.1 < (List.length t3.1 : Int))) then if (0 : Int) ≤ t3.2.1 then if t3.2.1 < (List.length t3.1 : Int) then Option.bind (zo (t3.2.2, (y0 t3.1 t3.2.1).1, (y0 t3.1 t3.2.1).2.1, (y0 t3.1 t3.2.1).2.2.1, (y0 t3.1 t3.2.1).2.2.2.1, (y0 t3.1 t3.2.1).2.2.2.2)) fun r1 => again (t3.1, (Go.IntKind.wrap .i64 (t3.2.1 + (1 : Int))), r1) else none else none else k0 t3.2.2
def vM k0 := zt (@YK R k0) zJ
def YD (x : ysw) : Option (List y8) :=
 if (List.length ([] : List y8) + List.length x.1) * 40 < 140737488355328 then vM (fun x2 => some x2) (x.2, (0 : Int), (([] : List y8) ++ x.1)) else none
def yiv : List QF := [ytX]
def y5J (t : ys3) : St := ⟨.dead :: Vp t.1 :: dd 3 (.own 10000000 :: vI t.2.1 :: dd 16 []), [(10000000, .root true 106 yb t.2.2)]⟩
def ygq : Gk wM := fun κ => YK (fun t => κ (some 0) ⟨dd 5 (.own 10000000 :: dd 17 []), [(10000000, .root true 106 yb t)]⟩)
def yiw : Lp := lpC 3 (unG ys4 y5J) @ygq lpN
theorem ypF : LF yiv yiw 261 3 Tryz.f261 0 y5J @ygq fun t => t := fun R κ again t => by kernel_rfl
theorem ypG : LK yiv yiw 261 Tryz.f261 0 := lkN (u := (unG ys4 y5J)) (ym fun t => by kernel_rfl) ypF
theorem ytY : EV yiv yiw 261 Tryz.f261 yna ysx [(.sl 106 yb)] YD := fun x => by kernel_rfl
def yzH : QF := ⟨261, YD, okN (n := 1) Tryz.func261 ⟨ypG, trivial⟩ ytY⟩
abbrev WK : Type := ywU
def Z9 (k0 : List y8 → Option R) (again : WK → Option R) (t3 : WK) : Option R :=
 bif (decide (t3.1 < (List.length t3.2.1 : Int))) then if (0 : Int) ≤ t3.1 then if t3.1 < (List.length t3.2.1 : Int) then Option.bind (YD (t3.2.2, (yj t3.2.1 t3.1))) fun r1 => again ((Go.IntKind.wrap .i64 (t3.1 + (1 : Int))), t3.2.1, r1) else none else none else k0 t3.2.2
def Vq k0 := zt (@Z9 R k0) zJ
def yx (x : List y9) : Option (List y8) :=
 Vq (fun x2 => Option.bind (zN x2) fun r3 => some r3) ((0 : Int), x, ([] : List y8))
def yix : List QF := [ytT, yzH]
def y5K (t : ywU) : St := ⟨.dead :: .box 1 0 :: .dead :: .own 10000000 :: vI t.1 :: dd 17 [], [(1, .box [Y6 t.2.1]), (10000000, .root true 106 yb t.2.2)]⟩
def ygr : Gk WK := fun κ => Z9 (fun t => κ (some 0) ⟨dd 3 (.own 10000000 :: dd 18 []), [(10000000, .root true 106 yb t)]⟩)
def yiy : Lp := lpC 3 (unG ywV y5K) @ygr lpN
theorem ypH : LF yix yiy 230 3 Tryz.f230 0 y5K @ygr fun t => t := fun R κ again t => by kernel_rfl
theorem ypI : LK yix yiy 230 Tryz.f230 0 := lkN (u := (unG ywV y5K)) (ym fun t => by kernel_rfl) ypH
theorem ytZ : EV yix yiy 230 Tryz.f230 ynb [(.sl 100 yi)] [(.sl 106 yb)] yx := fun x => by kernel_rfl
def ykI : QF := ⟨230, yx, okN (n := 1) Tryz.func230 ⟨ypI, trivial⟩ ytZ⟩
abbrev WL : Type := ywW
def Za (k0 : List y8 → Option R) (again : WL → Option R) (t3 : WL) : Option R :=
 bif (decide (t3.1 < (List.length t3.2.2.1 : Int))) then if (0 : Int) ≤ t3.1 then if t3.1 < (List.length t3.2.2.1 : Int) then Option.bind (yx (ya t3.2.2.1 t3.1)) fun r1 => if (List.length t3.2.2.2 + List.length r1) * 40 < 140737488355328 then again ((Go.IntKind.wrap .i64 (t3.1 + (1 : Int))), t3.2.1, t3.2.2.1, (t3.2.2.2 ++ r1)) else none else none else none else k0 t3.2.2.2
def Vr k0 := zt (@Za R k0) zJ
def yJ (x : y3Y) : Option (List y8) :=
 Vr (fun x2 => some x2) ((0 : Int), x.1, x.2, ([] : List y8))
def yiz : List QF := [ykI]
def y5L (t : ywW) : St := ⟨.dead :: .box 1 0 :: .dead :: .own 10000000 :: vI t.1 :: dd 17 [], [(1, .box [ze t.2.1, yC t.2.2.1]), (10000000, .root true 106 yb t.2.2.2)]⟩
def ygs : Gk WL := fun κ => Za (fun t => κ (some 0) ⟨dd 3 (.own 10000000 :: dd 18 []), [(10000000, .root true 106 yb t)]⟩)
def yiA : Lp := lpC 3 (unG ywX y5L) @ygs lpN
theorem ypJ : LF yiz yiA 188 3 Tryz.f188 0 y5L @ygs fun t => t := fun R κ again t => by kernel_rfl
theorem ypK : LK yiz yiA 188 Tryz.f188 0 := lkN (u := (unG ywX y5L)) (ym fun t => by kernel_rfl) ypJ
theorem yu0 : EV yiz yiA 188 Tryz.f188 ync WA [(.sl 106 yb)] yJ := fun x => by kernel_rfl
def ykJ : QF := ⟨188, yJ, okN (n := 1) Tryz.func188 ⟨ypK, trivial⟩ yu0⟩
def J2 (x : Qz3) : Option Int :=
 some (Go.IntKind.wrap .i64 ((Go.IntKind.wrap .i64 ((64 : Int) * x.1)) + x.2))
theorem yu1 : EV [] lpN 264 Tryz.f264 ynd qz3 [(.int .i64)] J2 := fun x => by kernel_rfl
def yxW : QF := ⟨264, J2, okN (n := 0) Tryz.func264 trivial yu1⟩
def J3 (x : yeY) : Option Int :=
 Option.bind (J2 (x.1, x.2.1)) fun r1 => some r1
theorem yu2 : EV [yxW] lpN 237 Tryz.f237 yne K0 [(.int .i64)] J3 := fun x => by kernel_rfl
def yxX : QF := ⟨237, J3, okN (n := 0) Tryz.func237 trivial yu2⟩
def wc (x : yeY) : Option Bool :=
 Option.bind (z3 (x.1, (0 : Int), (15 : Int))) fun r1 => Option.bind (bif (!r1) then some true else Option.bind (z3 (x.2.1, (1 : Int), (60 : Int))) fun r3 => some (!r3)) fun u2 => Option.bind (bif u2 then some true else Option.bind (z3 (x.2.2.1, (0 : Int), (2 : Int))) fun r5 => some (!r5)) fun u4 => bif u4 then some false else bif (x.2.2.1 == (1 : Int)) then Option.bind (z3 (x.2.2.2.1, (0 : Int), (23 : Int))) fun r6 => Option.bind (bif r6 then Option.bind (z3 (x.2.2.2.2, (0 : Int), (999 : Int))) fun r8 => some r8 else some false) fun u7 => some u7 else Option.bind (bif (x.2.2.2.1 == (0 : Int)) then some (x.2.2.2.2 == (0 : Int)) else some false) fun u9 => some u9
theorem yu3 : EV [ydl] lpN 202 Tryz.f202 ynf K0 [.bool] wc := fun x => by kernel_rfl
def yxY : QF := ⟨202, wc, okN (n := 0) Tryz.func202 trivial yu3⟩
abbrev kJ : Type := yl9
def ZH (k0 : Bool → Option R) (k1 : Unit → Option R) (again : kJ → Option R) (t2 : kJ) : Option R :=
 bif (decide (t2.2 < (List.length t2.1 : Int))) then if (0 : Int) ≤ (Go.IntKind.wrap .i64 (t2.2 - (1 : Int))) then if (Go.IntKind.wrap .i64 (t2.2 - (1 : Int))) < (List.length t2.1 : Int) then if (0 : Int) ≤ t2.2 then if t2.2 < (List.length t2.1 : Int) then Option.bind (ja ((y0 t2.1 (Go.IntKind.wrap .i64 (t2.2 - (1 : Int)))).1, (y0 t2.1 (Go.IntKind.wrap .i64 (t2.2 - (1 : Int)))).2.1, (y0 t2.1 (Go.IntKind.wrap .i64 (t2.2 - (1 : Int)))).2.2.1, (y0 t2.1 (Go.IntKind.wrap .i64 (t2.2 - (1 : Int)))).2.2.2.1, (y0 t2.1 (Go.IntKind.wrap .i64 (t2.2 - (1 : Int)))).2.2.2.2, (y0 t2.1 t2.2).1, (y0 t2.1 t2.2).2.1, (y0 t2.1 t2.2).2.2.1, (y0 t2.1 t2.2).2.2.2.1, (y0 t2.1 t2.2).2.2.2.2)) fun r1 => bif (!r1) then k0 false else again (t2.1, (Go.IntKind.wrap .i64 (t2.2 + (1 : Int)))) else none else none else none else none else k1 ()
def qh k0 k1 := zt (@ZH R k0 k1) zJ
def Ju (x : List y8) : Option Bool :=
 qh (fun x2 => some x2) (fun x3 => some true) (x, (1 : Int))
def yiB : List QF := [yxV]
def y5M (t : yl9) : St := ⟨Vp t.1 :: dd 2 (vI t.2 :: dd 17 []), []⟩
def ygt : Gk kJ := fun κ => ZH (fun t => κ none ⟨dd 2 (vB t :: dd 18 []), []⟩) (fun t => κ (some 0) ⟨dd 21 [], []⟩)
def yiC : Lp := lpC 2 (unG yla y5M) @ygt lpN
theorem ypL : LF yiB yiC 300 2 Tryz.f300 0 y5M @ygt fun t => t := fun R κ again t => by kernel_rfl
theorem ypM : LK yiB yiC 300 Tryz.f300 0 := lkN (u := (unG yla y5M)) (ym fun t => by kernel_rfl) ypL
theorem yu4 : EV yiB yiC 300 Tryz.f300 yng [(.sl 106 yb)] [.bool] Ju := fun x => by kernel_rfl
def yzI : QF := ⟨300, Ju, okN (n := 1) Tryz.func300 ⟨ypM, trivial⟩ yu4⟩
abbrev V0 : Type := yl9
def Jv (k0 : ywY → Option R) (k1 : List y8 → Option R) (again : V0 → Option R) (t2 : V0) : Option R :=
 bif (decide (t2.2 < (List.length t2.1 : Int))) then if (0 : Int) ≤ t2.2 then if t2.2 < (List.length t2.1 : Int) then Option.bind (wc ((y0 t2.1 t2.2).1, (y0 t2.1 t2.2).2.1, (y0 t2.1 t2.2).2.2.1, (y0 t2.1 t2.2).2.2.2.1, (y0 t2.1 t2.2).2.2.2.2)) fun r1 => bif (!r1) then k0 (t2.1, false) else again (t2.1, (Go.IntKind.wrap .i64 (t2.2 + (1 : Int)))) else none else none else k1 t2.1
def QX k0 k1 := zt (@Jv R k0 k1) zJ
def ku (x : List y8) : Option Bool :=
 QX (fun x2 => some x2.2) (fun x3 => Option.bind (Ju x3) fun r4 => Option.bind (bif r4 then some (decide ((List.length x3 : Int) ≤ (60 : Int))) else some false) fun u5 => some u5) (x, (0 : Int))
def yiD : List QF := [yxY, yzI]
def y5N (t : yl9) : St := ⟨Vp t.1 :: dd 2 (vI t.2 :: dd 19 []), []⟩
def ygu : Gk V0 := fun κ => Jv (fun t => κ none ⟨Vp t.1 :: .dead :: vB t.2 :: dd 20 [], []⟩) (fun t => κ (some 0) ⟨Vp t :: dd 22 [], []⟩)
def yiE : Lp := lpC 2 (unG yla y5N) @ygu lpN
theorem ypN : LF yiD yiE 276 2 Tryz.f276 0 y5N @ygu fun t => t := fun R κ again t => by kernel_rfl
theorem ypO : LK yiD yiE 276 Tryz.f276 0 := lkN (u := (unG yla y5N)) (ym fun t => by kernel_rfl) ypN
theorem yu5 : EV yiD yiE 276 Tryz.f276 ynh [(.sl 106 yb)] [.bool] ku := fun x => by kernel_rfl
def yzJ : QF := ⟨276, ku, okN (n := 1) Tryz.func276 ⟨ypO, trivial⟩ yu5⟩
abbrev kK : Type := ywZ
def ZI (k0 : Int → Option R) (again : kK → Option R) (t3 : kK) : Option R :=
 bif (decide (t3.2.1 < (List.length t3.2.2 : Int))) then if (0 : Int) ≤ t3.2.1 then if t3.2.1 < (List.length t3.2.2 : Int) then again ((Go.IntKind.wrap .i64 (t3.1 + (List.length (yj t3.2.2 t3.2.1) : Int))), (Go.IntKind.wrap .i64 (t3.2.1 + (1 : Int))), t3.2.2) else none else none else k0 t3.1
def qi k0 := zt (@ZI R k0) zJ
def Jw (x : List y9) : Option Int :=
 qi (fun x1 => some x1) ((0 : Int), (0 : Int), x)
def yiF : List QF := []
def y5O (t : ywZ) : St := ⟨.dead :: .box 1 0 :: .dead :: vI t.1 :: vI t.2.1 :: dd 16 [], [(1, .box [Y6 t.2.2])]⟩
def ygv : Gk kK := fun κ => ZI (fun t => κ (some 0) ⟨dd 3 (vI t :: dd 17 []), []⟩)
def yiG : Lp := lpC 3 (unG yx0 y5O) @ygv lpN
theorem ypP : LF yiF yiG 277 3 Tryz.f277 0 y5O @ygv fun t => t := fun R κ again t => by kernel_rfl
theorem ypQ : LK yiF yiG 277 Tryz.f277 0 := lkN (u := (unG yx0 y5O)) (ym fun t => by kernel_rfl) ypP
theorem yu6 : EV yiF yiG 277 Tryz.f277 yni [(.sl 100 yi)] [(.int .i64)] Jw := fun x => by kernel_rfl
def yzK : QF := ⟨277, Jw, okN (n := 1) Tryz.func277 ⟨ypQ, trivial⟩ yu6⟩
abbrev KL : Type := yg9
def jr (k0 : yyX → Option R) (k1 : List y9 → Option R) (again : KL → Option R) (t2 : KL) : Option R :=
 bif (decide (t2.1 < (List.length t2.2 : Int))) then if (0 : Int) ≤ t2.1 then if t2.1 < (List.length t2.2 : Int) then Option.bind (ku (yj t2.2 t2.1)) fun r1 => Option.bind (bif (!r1) then some true else if (0 : Int) ≤ t2.1 then if t2.1 < (List.length t2.2 : Int) then some ((List.length (yj t2.2 t2.1) : Int) == (0 : Int)) else none else none) fun u2 => bif u2 then k0 (false, t2.2) else again ((Go.IntKind.wrap .i64 (t2.1 + (1 : Int))), t2.2) else none else none else k1 t2.2
def qU k0 k1 := zt (@jr R k0 k1) zJ
def zb (x : List y9) : Option Bool :=
 qU (fun x3 => some x3.1) (fun x4 => Option.bind (bif (decide ((List.length x4 : Int) ≤ (3 : Int))) then Option.bind (Jw x4) fun r6 => some (decide (r6 ≤ (8 : Int))) else some false) fun u5 => some u5) ((0 : Int), x)
def yiH : List QF := [yzJ, yzK]
def y5P (t : yg9) : St := ⟨.dead :: .box 1 0 :: .dead :: vI t.1 :: dd 32 [], [(1, .box [Y6 t.2])]⟩
def ygw : Gk KL := fun κ => jr (fun t => κ none ⟨.dead :: .box 1 0 :: vB t.1 :: dd 33 [], [(1, .box [Y6 t.2])]⟩) (fun t => κ (some 0) ⟨.dead :: .box 1 0 :: dd 34 [], [(1, .box [Y6 t])]⟩)
def yiI : Lp := lpC 2 (unG ys2 y5P) @ygw lpN
theorem ypR : LF yiH yiI 244 2 Tryz.f244 0 y5P @ygw fun t => t := fun R κ again t => by kernel_rfl
theorem ypS : LK yiH yiI 244 Tryz.f244 0 := lkN (u := (unG ys2 y5P)) (ym fun t => by kernel_rfl) ypR
theorem yu7 : EV yiH yiI 244 Tryz.f244 ynj [(.sl 100 yi)] [.bool] zb := fun x => by kernel_rfl
def yxZ : QF := ⟨244, zb, okN (n := 1) Tryz.func244 ⟨ypS, trivial⟩ yu7⟩
abbrev KM : Type := yx1
def jt (k0 : yyY → Option R) (k1 : ysA → Option R) (again : KM → Option R) (t8 : KM) : Option R :=
 if (0 : Int) ≤ t8.2.1 then if t8.2.1 < (List.length t8.2.2.2.2.2 : Int) then bif (decide (t8.2.2.1 < (List.length (yj t8.2.2.2.2.2 t8.2.1) : Int))) then if (0 : Int) ≤ t8.2.1 then if t8.2.1 < (List.length t8.2.2.2.2.2 : Int) then if (0 : Int) ≤ t8.2.2.1 then if t8.2.2.1 < (List.length (yj t8.2.2.2.2.2 t8.2.1) : Int) then Option.bind (J3 ((y0 (yj t8.2.2.2.2.2 t8.2.1) t8.2.2.1).1, (y0 (yj t8.2.2.2.2.2 t8.2.1) t8.2.2.1).2.1, (y0 (yj t8.2.2.2.2.2 t8.2.1) t8.2.2.1).2.2.1, (y0 (yj t8.2.2.2.2.2 t8.2.1) t8.2.2.1).2.2.2.1, (y0 (yj t8.2.2.2.2.2 t8.2.1) t8.2.2.1).2.2.2.2)) fun r5 => if (0 : Int) ≤ t8.1 then if t8.1 < (List.length t8.2.2.2.1 : Int) then Option.bind (bif (decide (r5 < (z9 t8.2.2.2.1 t8.1))) then some true else Option.bind (bif (decide ((Go.IntKind.wrap .i64 (t8.1 + (1 : Int))) < (List.length t8.2.2.2.1 : Int))) then if (0 : Int) ≤ (Go.IntKind.wrap .i64 (t8.1 + (1 : Int))) then if (Go.IntKind.wrap .i64 (t8.1 + (1 : Int))) < (List.length t8.2.2.2.1 : Int) then some (decide (r5 ≥ (z9 t8.2.2.2.1 (Go.IntKind.wrap .i64 (t8.1 + (1 : Int)))))) else none else none else some false) fun u7 => some u7) fun u6 => bif u6 then k0 (t8.1, false, t8.2.1, t8.2.2.2) else again (t8.1, t8.2.1, (Go.IntKind.wrap .i64 (t8.2.2.1 + (1 : Int))), t8.2.2.2.1, t8.2.2.2.2.1, t8.2.2.2.2.2) else none else none else none else none else none else none else k1 (t8.1, t8.2.1, t8.2.2.2) else none else none
def KN k0 k1 := zt (@jt R k0 k1) zJ
abbrev KO : Type := ysA
def ju (k0 : Bool → Option R) (k1 : Unit → Option R) (again : KO → Option R) (t5 : KO) : Option R :=
 bif (decide (t5.2.1 < (List.length t5.2.2.2.2 : Int))) then KN (fun x8 => k0 x8.2.1) (fun x9 => again (x9.1, (Go.IntKind.wrap .i64 (x9.2.1 + (1 : Int))), x9.2.2.1, x9.2.2.2.1, x9.2.2.2.2)) (t5.1, t5.2.1, (0 : Int), t5.2.2.1, t5.2.2.2.1, t5.2.2.2.2) else k1 ()
def KP k0 k1 := zt (@ju R k0 k1) zJ
def wN (x : ys5) : Option Bool :=
 if (0 : Int) ≤ x.2.2 then if x.2.2 < (List.length x.2.1 : Int) then Option.bind (zb (ya x.2.1 x.2.2)) fun r1 => Option.bind (bif (!r1) then some true else Option.bind (bif (decide (x.2.2 > (0 : Int))) then Option.bind (yx (ya x.2.1 x.2.2)) fun r4 => some ((List.length r4 : Int) == (0 : Int)) else some false) fun u3 => some u3) fun u2 => bif u2 then some false else KP (fun x10 => some x10) (fun x11 => some true) (x.2.2, (0 : Int), x.1, x.2.1, (ya x.2.1 x.2.2)) else none else none
def ydm : List QF := [ykI, yxX, yxZ]
def y5Q (t : yx1) : St := ⟨.dead :: vI t.1 :: .box 2 0 :: dd 2 (.box 5 0 :: vI t.2.1 :: vI t.2.2.1 :: dd 70 []), [(2, .box [ze t.2.2.2.1, yC t.2.2.2.2.1]), (5, .box [Y6 t.2.2.2.2.2])]⟩
def ygx : Gk KM := fun κ => jt (fun t => κ none ⟨.dead :: vI t.1 :: .box 2 0 :: .dead :: vB t.2.1 :: .box 5 0 :: vI t.2.2.1 :: dd 71 [], [(2, .box [ze t.2.2.2.1, yC t.2.2.2.2.1]), (5, .box [Y6 t.2.2.2.2.2])]⟩) (fun t => κ (some 2) ⟨.dead :: vI t.1 :: .box 2 0 :: dd 2 (.box 5 0 :: vI t.2.1 :: dd 71 []), [(2, .box [ze t.2.2.1, yC t.2.2.2.1]), (5, .box [Y6 t.2.2.2.2])]⟩)
def y5R (t : ysA) : St := ⟨.dead :: vI t.1 :: .box 2 0 :: dd 2 (.box 5 0 :: vI t.2.1 :: dd 71 []), [(2, .box [ze t.2.2.1, yC t.2.2.2.1]), (5, .box [Y6 t.2.2.2.2])]⟩
def ygy : Gk KO := fun κ => ju (fun t => κ none ⟨dd 4 (vB t :: dd 73 []), []⟩) (fun t => κ (some 0) ⟨dd 78 [], []⟩)
def ydn : Lp := lpC 5 (unG yx3 y5R) @ygy (lpC 8 (unG yx2 y5Q) @ygx lpN)
theorem ypT : LF ydm ydn 195 8 Tryz.f195 1 y5Q @ygx fun t => t := fun R κ again t => by kernel_rfl
theorem ypU : LK ydm ydn 195 Tryz.f195 1 := lkN (u := (unG yx2 y5Q)) (ym fun t => by kernel_rfl) ypT
theorem ypV : LF ydm ydn 195 5 Tryz.f195 0 y5R @ygy fun t => t := fun R κ again t => by kernel_rfl
theorem ypW : LK ydm ydn 195 Tryz.f195 0 := lkN (u := (unG yx3 y5R)) (ym fun t => by kernel_rfl) ypV
theorem yu8 : EV ydm ydn 195 Tryz.f195 ynk ys6 [.bool] wN := fun x => by kernel_rfl
def yzL : QF := ⟨195, wN, okN (n := 2) Tryz.func195 ⟨ypW, ypU, trivial⟩ yu8⟩
abbrev KQ : Type := y9b
def jx (k0 : yyZ → Option R) (k1 : y3Y → Option R) (again : KQ → Option R) (t4 : KQ) : Option R :=
 bif (decide (t4.1 < (List.length t4.2.2 : Int))) then Option.bind (bif (decide (t4.1 > (0 : Int))) then if (0 : Int) ≤ (Go.IntKind.wrap .i64 (t4.1 - (1 : Int))) then if (Go.IntKind.wrap .i64 (t4.1 - (1 : Int))) < (List.length t4.2.1 : Int) then if (0 : Int) ≤ t4.1 then if t4.1 < (List.length t4.2.1 : Int) then some (decide ((z9 t4.2.1 (Go.IntKind.wrap .i64 (t4.1 - (1 : Int)))) ≥ (z9 t4.2.1 t4.1))) else none else none else none else none else some false) fun u4 => Option.bind (bif u4 then some true else Option.bind (wN (t4.2.1, t4.2.2, t4.1)) fun r6 => some (!r6)) fun u5 => bif u5 then k0 (false, t4.2) else again ((Go.IntKind.wrap .i64 (t4.1 + (1 : Int))), t4.2.1, t4.2.2) else k1 t4.2
def qV k0 k1 := zt (@jx R k0 k1) zJ
def Y2 (x : y3Y) : Option Bool :=
 Option.bind (z3 ((List.length x.2 : Int), (1 : Int), (20 : Int))) fun r1 => Option.bind (bif (!r1) then some true else some ((List.length x.1 : Int) != (List.length x.2 : Int))) fun u2 => Option.bind (bif u2 then some true else if (0 : Int) ≤ (0 : Int) then if (0 : Int) < (List.length x.1 : Int) then some ((z9 x.1 (0 : Int)) != (0 : Int)) else none else none) fun u3 => bif u3 then some false else qV (fun x7 => some x7.1) (fun x8 => Option.bind (yJ x8) fun r9 => some (decide ((List.length r9 : Int) ≤ (60 : Int)))) ((0 : Int), x.1, x.2)
def yiJ : List QF := [ydl, ykJ, yzL]
def y5S (t : y9b) : St := ⟨.dead :: .box 1 0 :: .dead :: vI t.1 :: dd 54 [], [(1, .box [ze t.2.1, yC t.2.2])]⟩
def ygz : Gk KQ := fun κ => jx (fun t => κ none ⟨.dead :: .box 1 0 :: vB t.1 :: dd 55 [], [(1, .box [ze t.2.1, yC t.2.2])]⟩) (fun t => κ (some 0) ⟨.dead :: .box 1 0 :: dd 56 [], [(1, .box [ze t.1, yC t.2])]⟩)
def yiK : Lp := lpC 4 (unG yei y5S) @ygz lpN
theorem ypX : LF yiJ yiK 120 4 Tryz.f120 0 y5S @ygz fun t => t := fun R κ again t => by kernel_rfl
theorem ypY : LK yiJ yiK 120 Tryz.f120 0 := lkN (u := (unG yei y5S)) (ym fun t => by kernel_rfl) ypX
theorem yu9 : EV yiJ yiK 120 Tryz.f120 ynl WA [.bool] Y2 := fun x => by kernel_rfl
def yy0 : QF := ⟨120, Y2, okN (n := 1) Tryz.func120 ⟨ypY, trivial⟩ yu9⟩
abbrev V1 : Type := yx4
def Jx (k0 : Int → Option R) (k1 : Unit → Option R) (again : V1 → Option R) (t2 : V1) : Option R :=
 bif (decide (t2.2.2 < (List.length t2.1 : Int))) then if (0 : Int) ≤ t2.2.2 then if t2.2.2 < (List.length t2.1 : Int) then bif ((yD t2.1 t2.2.2).1 == t2.2.1) then k0 t2.2.2 else again (t2.1, t2.2.1, (Go.IntKind.wrap .i64 (t2.2.2 + (1 : Int)))) else none else none else k1 ()
def QY k0 k1 := zt (@Jx R k0 k1) zJ
def Y7 (x : yd8) : Option Int :=
 QY (fun x1 => some x1) (fun x2 => some (-1 : Int)) (x.1, x.2, (0 : Int))
def yiL : List QF := []
def y5T (t : yx4) : St := ⟨zu t.1 :: vI t.2.1 :: dd 3 (vI t.2.2 :: dd 14 []), []⟩
def ygA : Gk V1 := fun κ => Jx (fun t => κ none ⟨dd 4 (vI t :: dd 15 []), []⟩) (fun t => κ (some 0) ⟨dd 20 [], []⟩)
def yiM : Lp := lpC 2 (unG yx5 y5T) @ygA lpN
theorem ypZ : LF yiL yiM 196 2 Tryz.f196 0 y5T @ygA fun t => t := fun R κ again t => by kernel_rfl
theorem yq0 : LK yiL yiM 196 Tryz.f196 0 := lkN (u := (unG yx5 y5T)) (ym fun t => by kernel_rfl) ypZ
theorem yua : EV yiL yiM 196 Tryz.f196 ynm yd9 [(.int .i64)] Y7 := fun x => by kernel_rfl
def yq1 : QF := ⟨196, Y7, okN (n := 1) Tryz.func196 ⟨yq0, trivial⟩ yua⟩
abbrev KR : Type := yd8
def jy (k0 : ys7 → Option R) (k1 : List yf → Option R) (again : KR → Option R) (t2 : KR) : Option R :=
 bif (decide (t2.2 < (List.length t2.1 : Int))) then if (0 : Int) ≤ t2.2 then if t2.2 < (List.length t2.1 : Int) then Option.bind (z3 ((yD t2.1 t2.2).1, (1 : Int), (60 : Int))) fun r1 => Option.bind (bif (!r1) then some true else Option.bind (bif (decide (t2.2 > (0 : Int))) then if (0 : Int) ≤ (Go.IntKind.wrap .i64 (t2.2 - (1 : Int))) then if (Go.IntKind.wrap .i64 (t2.2 - (1 : Int))) < (List.length t2.1 : Int) then if (0 : Int) ≤ t2.2 then if t2.2 < (List.length t2.1 : Int) then some (decide ((yD t2.1 (Go.IntKind.wrap .i64 (t2.2 - (1 : Int)))).1 ≥ (yD t2.1 t2.2).1)) else none else none else none else none else some false) fun u3 => some u3) fun u2 => bif u2 then k0 (t2.1, false) else if (0 : Int) ≤ t2.2 then if t2.2 < (List.length t2.1 : Int) then Option.bind (bif ((yD t2.1 t2.2).2 != (0 : Int)) then if (0 : Int) ≤ (0 : Int) then if (0 : Int) ≤ t2.2 then if t2.2 ≤ (List.length t2.1 : Int) then if (0 : Int) ≤ t2.2 then if t2.2 < (List.length t2.1 : Int) then Option.bind (Y7 ((List.drop (Int.toNat (0 : Int)) (List.take (Int.toNat t2.2) t2.1)), (yD t2.1 t2.2).2)) fun r5 => some (decide (r5 < (0 : Int))) else none else none else none else none else none else some false) fun u4 => bif u4 then k0 (t2.1, false) else again (t2.1, (Go.IntKind.wrap .i64 (t2.2 + (1 : Int)))) else none else none else none else none else k1 t2.1
def qW k0 k1 := zt (@jy R k0 k1) zJ
def J4 (x : List yf) : Option Bool :=
 qW (fun x6 => some x6.2) (fun x7 => some (decide ((List.length x7 : Int) ≤ (16 : Int)))) (x, (0 : Int))
def yiN : List QF := [ydl, yq1]
def y5U (t : yd8) : St := ⟨zu t.1 :: dd 2 (vI t.2 :: dd 52 []), []⟩
def ygB : Gk KR := fun κ => jy (fun t => κ none ⟨zu t.1 :: .dead :: vB t.2 :: dd 53 [], []⟩) (fun t => κ (some 0) ⟨zu t :: dd 55 [], []⟩)
def yiO : Lp := lpC 2 (unG yd9 y5U) @ygB lpN
theorem yq2 : LF yiN yiO 121 2 Tryz.f121 0 y5U @ygB fun t => t := fun R κ again t => by kernel_rfl
theorem yq3 : LK yiN yiO 121 Tryz.f121 0 := lkN (u := (unG yd9 y5U)) (ym fun t => by kernel_rfl) yq2
theorem yub : EV yiN yiO 121 Tryz.f121 ynn [(.sl 89 yo)] [.bool] J4 := fun x => by kernel_rfl
def yy1 : QF := ⟨121, J4, okN (n := 1) Tryz.func121 ⟨yq3, trivial⟩ yub⟩
def wO (x : Int) : Option Bool :=
 Option.bind (z3 (x, (0 : Int), (65535 : Int))) fun r1 => some r1
theorem yuc : EV [ydl] lpN 197 Tryz.f197 yno [(.int .i64)] [.bool] wO := fun x => by kernel_rfl
def yzM : QF := ⟨197, wO, okN (n := 0) Tryz.func197 trivial yuc⟩
abbrev kL : Type := ys8
def ZJ (k0 : yx7 → Option R) (k1 : List yg → Option R) (again : kL → Option R) (t2 : kL) : Option R :=
 bif (decide (t2.2 < (List.length t2.1 : Int))) then if (0 : Int) ≤ t2.2 then if t2.2 < (List.length t2.1 : Int) then Option.bind (z3 ((zw t2.1 t2.2).1, (0 : Int), (999 : Int))) fun r1 => Option.bind (bif (!r1) then some true else if (0 : Int) ≤ t2.2 then if t2.2 < (List.length t2.1 : Int) then Option.bind (wO ((zw t2.1 t2.2).2.2)) fun r3 => some (!r3) else none else none) fun u2 => Option.bind (bif u2 then some true else if (0 : Int) ≤ t2.2 then if t2.2 < (List.length t2.1 : Int) then Option.bind (bif (!((zw t2.1 t2.2).2.1)) then if (0 : Int) ≤ t2.2 then if t2.2 < (List.length t2.1 : Int) then some ((zw t2.1 t2.2).2.2 != (0 : Int)) else none else none else some false) fun u5 => some u5 else none else none) fun u4 => bif u4 then k0 (t2.1, false) else again (t2.1, (Go.IntKind.wrap .i64 (t2.2 + (1 : Int)))) else none else none else k1 t2.1
def qj k0 k1 := zt (@ZJ R k0 k1) zJ
def jb (x : List yg) : Option Bool :=
 qj (fun x6 => some x6.2) (fun x7 => some ((List.length x7 : Int) == (24 : Int))) (x, (0 : Int))
def yiP : List QF := [ydl, yzM]
def y5V (t : ys8) : St := ⟨yX t.1 :: dd 2 (vI t.2 :: dd 41 []), []⟩
def ygC : Gk kL := fun κ => ZJ (fun t => κ none ⟨yX t.1 :: .dead :: vB t.2 :: dd 42 [], []⟩) (fun t => κ (some 0) ⟨yX t :: dd 44 [], []⟩)
def yiQ : Lp := lpC 2 (unG ys9 y5V) @ygC lpN
theorem yq4 : LF yiP yiQ 122 2 Tryz.f122 0 y5V @ygC fun t => t := fun R κ again t => by kernel_rfl
theorem yq5 : LK yiP yiQ 122 Tryz.f122 0 := lkN (u := (unG ys9 y5V)) (ym fun t => by kernel_rfl) yq4
theorem yud : EV yiP yiQ 122 Tryz.f122 ynp [(.sl 95 yn)] [.bool] jb := fun x => by kernel_rfl
def yy2 : QF := ⟨122, jb, okN (n := 1) Tryz.func122 ⟨yq5, trivial⟩ yud⟩
abbrev KS : Type := ysa
def KT (k0 : yx8 → Option R) (k1 : ByteArray → Option R) (again : KS → Option R) (t2 : KS) : Option R :=
 bif (decide (t2.2 < ((ByteArray.size t2.1 : Nat) : Int))) then if (0 : Int) ≤ t2.2 then if h1 : Int.toNat t2.2 < ByteArray.size t2.1 then Option.bind (z3 ((Go.IntKind.wrap .i64 ((UInt8.toNat (ByteArray.get t2.1 (Int.toNat t2.2) h1) : Nat) : Int)), (97 : Int), (122 : Int))) fun r2 => Option.bind (bif (!r2) then if (0 : Int) ≤ t2.2 then if h4 : Int.toNat t2.2 < ByteArray.size t2.1 then Option.bind (z3 ((Go.IntKind.wrap .i64 ((UInt8.toNat (ByteArray.get t2.1 (Int.toNat t2.2) h4) : Nat) : Int)), (48 : Int), (57 : Int))) fun r5 => some (!r5) else none else none else some false) fun u3 => bif u3 then k0 (t2.1, false) else again (t2.1, (Go.IntKind.wrap .i64 (t2.2 + (1 : Int)))) else none else none else k1 t2.1
def qX k0 k1 := zt (@KT R k0 k1) zJ
def wP (x : ByteArray) : Option Bool :=
 qX (fun x6 => some x6.2) (fun x7 => Option.bind (z3 (((ByteArray.size x7 : Nat) : Int), (1 : Int), (6 : Int))) fun r8 => some r8) (x, (0 : Int))
def yiR : List QF := [ydl]
def y5W (t : ysa) : St := ⟨vS t.1 :: dd 2 (vI t.2 :: dd 23 []), []⟩
def ygD : Gk KS := fun κ => KT (fun t => κ none ⟨vS t.1 :: .dead :: vB t.2 :: dd 24 [], []⟩) (fun t => κ (some 0) ⟨vS t :: dd 26 [], []⟩)
def yiS : Lp := lpC 2 (unG ysb y5W) @ygD lpN
theorem yq6 : LF yiR yiS 198 2 Tryz.f198 0 y5W @ygD fun t => t := fun R κ again t => by kernel_rfl
theorem yq7 : LK yiR yiS 198 Tryz.f198 0 := lkN (u := (unG ysb y5W)) (ym fun t => by kernel_rfl) yq6
theorem yue : EV yiR yiS 198 Tryz.f198 ynq [.str] [.bool] wP := fun x => by kernel_rfl
def yzN : QF := ⟨198, wP, okN (n := 1) Tryz.func198 ⟨yq7, trivial⟩ yue⟩
abbrev KU : Type := yx9
def jz (k0 : List yh → Option R) (again : KU → Option R) (t3 : KU) : Option R :=
 bif (decide (t3.2.2.1 < (List.length t3.1 : Int))) then if (0 : Int) ≤ t3.2.2.1 then if t3.2.2.1 < (List.length t3.1 : Int) then Option.bind (bif ((yD t3.1 t3.2.2.1).2 == t3.2.1) then some (t3.2.1 != (0 : Int)) else some false) fun u1 => bif u1 then if (0 : Int) ≤ t3.2.2.1 then if t3.2.2.1 < (List.length t3.1 : Int) then if (List.length t3.2.2.2 + List.length ([(yD t3.1 t3.2.2.1).1] : List yh)) * 8 < 140737488355328 then again (t3.1, t3.2.1, (Go.IntKind.wrap .i64 (t3.2.2.1 + (1 : Int))), (t3.2.2.2 ++ ([(yD t3.1 t3.2.2.1).1] : List yh))) else none else none else none else again (t3.1, t3.2.1, (Go.IntKind.wrap .i64 (t3.2.2.1 + (1 : Int))), t3.2.2.2) else none else none else k0 t3.2.2.2
def qY k0 := zt (@jz R k0) zJ
def ZC (x : yd8) : Option (List yh) :=
 qY (fun x2 => some x2) (x.1, x.2, (0 : Int), ([] : List yh))
def yiT : List QF := []
def y5X (t : yx9) : St := ⟨zu t.1 :: vI t.2.1 :: dd 3 (.own 10000000 :: vI t.2.2.1 :: dd 27 []), [(10000000, .root true 3 yd t.2.2.2)]⟩
def ygE : Gk KU := fun κ => jz (fun t => κ (some 0) ⟨dd 5 (.own 10000000 :: dd 28 []), [(10000000, .root true 3 yd t)]⟩)
def yiU : Lp := lpC 3 (unG yxa y5X) @ygE lpN
theorem yq8 : LF yiT yiU 199 3 Tryz.f199 0 y5X @ygE fun t => t := fun R κ again t => by kernel_rfl
theorem yq9 : LK yiT yiU 199 Tryz.f199 0 := lkN (u := (unG yxa y5X)) (ym fun t => by kernel_rfl) yq8
theorem yuf : EV yiT yiU 199 Tryz.f199 ynr yd9 [(.sl 3 yd)] ZC := fun x => by kernel_rfl
def yug : QF := ⟨199, ZC, okN (n := 1) Tryz.func199 ⟨yq9, trivial⟩ yuf⟩
abbrev kM : Type := yxb
def ZK (k0 : ysB → Option R) (k1 : y9c → Option R) (again : kM → Option R) (t8 : kM) : Option R :=
 bif (decide (t8.2.1 < t8.1)) then if (0 : Int) ≤ t8.2.1 then if t8.2.1 < (List.length t8.2.2.2.2.2.2.1 : Int) then bif ((zd t8.2.2.2.2.2.2.1 t8.2.1).2.1 == t8.2.2.2.2.2.2.2.2.2.1) then k0 (false, t8.1, t8.2.2.1, t8.2.2.2.1, t8.2.2.2.2.1, t8.2.2.2.2.2.1, t8.2.2.2.2.2.2.1, t8.2.2.2.2.2.2.2.1) else again (t8.1, (Go.IntKind.wrap .i64 (t8.2.1 + (1 : Int))), t8.2.2.1, t8.2.2.2.1, t8.2.2.2.2.1, t8.2.2.2.2.2.1, t8.2.2.2.2.2.2.1, t8.2.2.2.2.2.2.2.1, t8.2.2.2.2.2.2.2.2.1, t8.2.2.2.2.2.2.2.2.2.1, t8.2.2.2.2.2.2.2.2.2.2.1, t8.2.2.2.2.2.2.2.2.2.2.2) else none else none else k1 (t8.1, t8.2.2.1, t8.2.2.2.1, t8.2.2.2.2.1, t8.2.2.2.2.2.1, t8.2.2.2.2.2.2.1, t8.2.2.2.2.2.2.2.1)
def kN k0 k1 := zt (@ZK R k0 k1) zJ
abbrev kO : Type := y9c
def ZL (k0 : ygb → Option R) (k1 : y2s → Option R) (again : kO → Option R) (t2 : kO) : Option R :=
 bif (decide (t2.1 < (List.length t2.2.2.2.2.2.1 : Int))) then if (0 : Int) ≤ t2.1 then if t2.1 < (List.length t2.2.2.2.2.2.1 : Int) then Option.bind (wP ((zd t2.2.2.2.2.2.1 t2.1).1)) fun r1 => Option.bind (bif (!r1) then some true else Option.bind (z3 ((zd t2.2.2.2.2.2.1 t2.1).2.2.1, (1 : Int), (12 : Int))) fun r3 => some (!r3)) fun u2 => Option.bind (bif u2 then some true else Option.bind (Y7 (t2.2.2.2.1, (zd t2.2.2.2.2.2.1 t2.1).2.1)) fun r5 => some (decide (r5 < (0 : Int)))) fun u4 => Option.bind (bif u4 then some true else Option.bind (ZC (t2.2.2.2.1, (zd t2.2.2.2.2.2.1 t2.1).2.1)) fun r7 => some (decide ((List.length r7 : Int) > (0 : Int)))) fun u6 => Option.bind (bif u6 then some true else Option.bind (bif (decide (t2.1 > (0 : Int))) then if (0 : Int) ≤ (Go.IntKind.wrap .i64 (t2.1 - (1 : Int))) then if (Go.IntKind.wrap .i64 (t2.1 - (1 : Int))) < (List.length t2.2.2.2.2.2.1 : Int) then some (!Go.Op.bytesLess (ByteArray.toList ((zd t2.2.2.2.2.2.1 (Go.IntKind.wrap .i64 (t2.1 - (1 : Int)))).1)) (ByteArray.toList ((zd t2.2.2.2.2.2.1 t2.1).1))) else none else none else some false) fun u9 => some u9) fun u8 => bif u8 then k0 (false, t2.2) else kN (fun x10 => k0 (x10.1, x10.2.2)) (fun x11 => again ((Go.IntKind.wrap .i64 (x11.1 + (1 : Int))), x11.2.1, x11.2.2.1, x11.2.2.2.1, x11.2.2.2.2.1, x11.2.2.2.2.2.1, x11.2.2.2.2.2.2)) (t2.1, (0 : Int), t2.2.1, t2.2.2.1, t2.2.2.2.1, t2.2.2.2.2.1, t2.2.2.2.2.2.1, t2.2.2.2.2.2.2, (zd t2.2.2.2.2.2.1 t2.1).1, (zd t2.2.2.2.2.2.1 t2.1).2.1, (zd t2.2.2.2.2.2.1 t2.1).2.2.1, (zd t2.2.2.2.2.2.1 t2.1).2.2.2) else none else none else k1 t2.2
def qk k0 k1 := zt (@ZL R k0 k1) zJ
def Jy (x : y2s) : Option Bool :=
 qk (fun x12 => some x12.1) (fun x13 => some (decide ((List.length x13.2.2.2.2.1 : Int) ≤ (6 : Int)))) ((0 : Int), x.1, x.2.1, x.2.2.1, x.2.2.2.1, x.2.2.2.2.1, x.2.2.2.2.2)
def ydo : List QF := [ydl, yq1, yzN, yug]
def y5Y (t : yxb) : St := ⟨.dead :: .box 1 0 :: .dead :: vI t.1 :: .box 4 0 :: vI t.2.1 :: dd 73 [], [(1, .box [ze t.2.2.1, yC t.2.2.2.1, zu t.2.2.2.2.1, yX t.2.2.2.2.2.1, zX t.2.2.2.2.2.2.1, vI t.2.2.2.2.2.2.2.1]), (4, .box [vS t.2.2.2.2.2.2.2.2.1, vI t.2.2.2.2.2.2.2.2.2.1, vI t.2.2.2.2.2.2.2.2.2.2.1, vB t.2.2.2.2.2.2.2.2.2.2.2])]⟩
def ygF : Gk kM := fun κ => ZK (fun t => κ none ⟨.dead :: .box 1 0 :: vB t.1 :: vI t.2.1 :: dd 75 [], [(1, .box [ze t.2.2.1, yC t.2.2.2.1, zu t.2.2.2.2.1, yX t.2.2.2.2.2.1, zX t.2.2.2.2.2.2.1, vI t.2.2.2.2.2.2.2])]⟩) (fun t => κ (some 2) ⟨.dead :: .box 1 0 :: .dead :: vI t.1 :: dd 75 [], [(1, .box [ze t.2.1, yC t.2.2.1, zu t.2.2.2.1, yX t.2.2.2.2.1, zX t.2.2.2.2.2.1, vI t.2.2.2.2.2.2])]⟩)
def y5Z (t : y9c) : St := ⟨.dead :: .box 1 0 :: .dead :: vI t.1 :: dd 75 [], [(1, .box [ze t.2.1, yC t.2.2.1, zu t.2.2.2.1, yX t.2.2.2.2.1, zX t.2.2.2.2.2.1, vI t.2.2.2.2.2.2])]⟩
def ygG : Gk kO := fun κ => ZL (fun t => κ none ⟨.dead :: .box 1 0 :: vB t.1 :: dd 76 [], [(1, .box [ze t.2.1, yC t.2.2.1, zu t.2.2.2.1, yX t.2.2.2.2.1, zX t.2.2.2.2.2.1, vI t.2.2.2.2.2.2])]⟩) (fun t => κ (some 0) ⟨.dead :: .box 1 0 :: dd 77 [], [(1, .box [ze t.1, yC t.2.1, zu t.2.2.1, yX t.2.2.2.1, zX t.2.2.2.2.1, vI t.2.2.2.2.2])]⟩)
def ydp : Lp := lpC 2 (unG yga y5Z) @ygG (lpC 8 (unG yxc y5Y) @ygF lpN)
theorem yqa : LF ydo ydp 123 8 Tryz.f123 1 y5Y @ygF fun t => t := fun R κ again t => by kernel_rfl
theorem yqb : LK ydo ydp 123 Tryz.f123 1 := lkN (u := (unG yxc y5Y)) (ym fun t => by kernel_rfl) yqa
theorem yqc : LF ydo ydp 123 2 Tryz.f123 0 y5Z @ygG fun t => t := fun R κ again t => by kernel_rfl
theorem yqd : LK ydo ydp 123 Tryz.f123 0 := lkN (u := (unG yga y5Z)) (ym fun t => by kernel_rfl) yqc
theorem yuh : EV ydo ydp 123 Tryz.f123 yns WB [.bool] Jy := fun x => by kernel_rfl
def yzO : QF := ⟨123, Jy, okN (n := 2) Tryz.func123 ⟨yqd, yqb, trivial⟩ yuh⟩
def J5 (x : ysd) : Option yxd :=
 Option.bind (z3 (x.2.1, (0 : Int), (Go.IntKind.wrap .i64 ((List.length x.1 : Int) - (1 : Int))))) fun r1 => Option.bind (bif (!r1) then some true else if (0 : Int) ≤ x.2.1 then if x.2.1 < (List.length x.1 : Int) then some (!((zw x.1 x.2.1).2.1)) else none else none) fun u2 => Option.bind (bif u2 then some true else if (0 : Int) ≤ x.2.1 then if x.2.1 < (List.length x.1 : Int) then some ((zw x.1 x.2.1).1 != x.2.2) else none else none) fun u3 => bif u3 then some ((0 : Int), false) else if (0 : Int) ≤ x.2.1 then if x.2.1 < (List.length x.1 : Int) then some ((zw x.1 x.2.1).2.2, true) else none else none
theorem yui : EV [ydl] lpN 200 Tryz.f200 ynt yse yxe J5 := fun x => by kernel_rfl
def yzP : QF := ⟨200, J5, okN (n := 0) Tryz.func200 trivial yui⟩
abbrev wQ : Type := ysd
def YL (k0 : Int → Option R) (again : wQ → Option R) (t3 : wQ) : Option R :=
 bif (decide (t3.2.2 < (List.length t3.1 : Int))) then if (0 : Int) ≤ t3.2.2 then if t3.2.2 < (List.length t3.1 : Int) then bif (zw t3.1 t3.2.2).2.1 then again (t3.1, (Go.IntKind.wrap .i64 (t3.2.1 + (1 : Int))), (Go.IntKind.wrap .i64 (t3.2.2 + (1 : Int)))) else again (t3.1, t3.2.1, (Go.IntKind.wrap .i64 (t3.2.2 + (1 : Int)))) else none else none else k0 t3.2.1
def vN k0 := zt (@YL R k0) zJ
def ZM (x : List yg) : Option Int :=
 vN (fun x1 => some x1) (x, (0 : Int), (0 : Int))
def yiV : List QF := []
def y60 (t : ysd) : St := ⟨yX t.1 :: dd 2 (vI t.2.1 :: vI t.2.2 :: dd 14 []), []⟩
def ygH : Gk wQ := fun κ => YL (fun t => κ (some 0) ⟨dd 3 (vI t :: dd 15 []), []⟩)
def yiW : Lp := lpC 3 (unG yse y60) @ygH lpN
theorem yqe : LF yiV yiW 201 3 Tryz.f201 0 y60 @ygH fun t => t := fun R κ again t => by kernel_rfl
theorem yqf : LK yiV yiW 201 Tryz.f201 0 := lkN (u := (unG yse y60)) (ym fun t => by kernel_rfl) yqe
theorem yuj : EV yiV yiW 201 Tryz.f201 ynu [(.sl 95 yn)] [(.int .i64)] ZM := fun x => by kernel_rfl
def yzQ : QF := ⟨201, ZM, okN (n := 1) Tryz.func201 ⟨yqf, trivial⟩ yuj⟩
abbrev WM : Type := ysC
def Zb (k0 : yz0 → Option R) (k1 : ygc → Option R) (again : WM → Option R) (t14 : WM) : Option R :=
 bif (decide (t14.2.2.1 < t14.2.1)) then if (0 : Int) ≤ t14.2.2.1 then if t14.2.2.1 < (List.length t14.2.2.2.2.2.2.2.2.2 : Int) then Option.bind (bif ((y0 t14.2.2.2.2.2.2.2.2.2 t14.2.2.1).2.2.1 == (1 : Int)) then if (0 : Int) ≤ t14.2.2.1 then if t14.2.2.1 < (List.length t14.2.2.2.2.2.2.2.2.2 : Int) then if (0 : Int) ≤ t14.2.1 then if t14.2.1 < (List.length t14.2.2.2.2.2.2.2.2.2 : Int) then some ((y0 t14.2.2.2.2.2.2.2.2.2 t14.2.2.1).2.2.2.1 == (y0 t14.2.2.2.2.2.2.2.2.2 t14.2.1).2.2.2.1) else none else none else none else none else some false) fun u4 => bif u4 then k0 (false, t14.1, t14.2.1, t14.2.2.2) else again (t14.1, t14.2.1, (Go.IntKind.wrap .i64 (t14.2.2.1 + (1 : Int))), t14.2.2.2.1, t14.2.2.2.2.1, t14.2.2.2.2.2.1, t14.2.2.2.2.2.2.1, t14.2.2.2.2.2.2.2.1, t14.2.2.2.2.2.2.2.2.1, t14.2.2.2.2.2.2.2.2.2) else none else none else k1 (t14.1, t14.2.1, t14.2.2.2)
def WN k0 k1 := zt (@Zb R k0 k1) zJ
abbrev kP : Type := ygc
def ZN (k0 : ysB → Option R) (k1 : y9c → Option R) (again : kP → Option R) (t4 : kP) : Option R :=
 bif (decide (t4.2.1 < (List.length t4.2.2.2.2.2.2.2.2 : Int))) then if (0 : Int) ≤ t4.2.1 then if t4.2.1 < (List.length t4.2.2.2.2.2.2.2.2 : Int) then Option.bind (Y7 (t4.2.2.2.2.1, (y0 t4.2.2.2.2.2.2.2.2 t4.2.1).2.1)) fun r2 => bif (decide (r2 < (0 : Int))) then k0 (false, t4.1, t4.2.2.1, t4.2.2.2.1, t4.2.2.2.2.1, t4.2.2.2.2.2.1, t4.2.2.2.2.2.2.1, t4.2.2.2.2.2.2.2.1) else if (0 : Int) ≤ t4.2.1 then if t4.2.1 < (List.length t4.2.2.2.2.2.2.2.2 : Int) then bif ((y0 t4.2.2.2.2.2.2.2.2 t4.2.1).2.2.1 != (1 : Int)) then again (t4.1, (Go.IntKind.wrap .i64 (t4.2.1 + (1 : Int))), t4.2.2.1, t4.2.2.2.1, t4.2.2.2.2.1, t4.2.2.2.2.2.1, t4.2.2.2.2.2.2.1, t4.2.2.2.2.2.2.2.1, t4.2.2.2.2.2.2.2.2) else if (0 : Int) ≤ t4.2.1 then if t4.2.1 < (List.length t4.2.2.2.2.2.2.2.2 : Int) then if (0 : Int) ≤ t4.2.1 then if t4.2.1 < (List.length t4.2.2.2.2.2.2.2.2 : Int) then Option.bind (J5 (t4.2.2.2.2.2.1, (y0 t4.2.2.2.2.2.2.2.2 t4.2.1).2.2.2.1, (y0 t4.2.2.2.2.2.2.2.2 t4.2.1).2.2.2.2)) fun r3 => bif (!r3.2) then k0 (false, (Go.IntKind.wrap .i64 (t4.1 + (1 : Int))), t4.2.2.1, t4.2.2.2.1, t4.2.2.2.2.1, t4.2.2.2.2.2.1, t4.2.2.2.2.2.2.1, t4.2.2.2.2.2.2.2.1) else WN (fun x5 => k0 (x5.1, x5.2.1, x5.2.2.2.1, x5.2.2.2.2.1, x5.2.2.2.2.2.1, x5.2.2.2.2.2.2.1, x5.2.2.2.2.2.2.2.1, x5.2.2.2.2.2.2.2.2.1)) (fun x6 => again (x6.1, (Go.IntKind.wrap .i64 (x6.2.1 + (1 : Int))), x6.2.2.1, x6.2.2.2.1, x6.2.2.2.2.1, x6.2.2.2.2.2.1, x6.2.2.2.2.2.2.1, x6.2.2.2.2.2.2.2.1, x6.2.2.2.2.2.2.2.2)) ((Go.IntKind.wrap .i64 (t4.1 + (1 : Int))), t4.2.1, (0 : Int), t4.2.2.1, t4.2.2.2.1, t4.2.2.2.2.1, t4.2.2.2.2.2.1, t4.2.2.2.2.2.2.1, t4.2.2.2.2.2.2.2.1, t4.2.2.2.2.2.2.2.2) else none else none else none else none else none else none else none else none else k1 (t4.1, t4.2.2.1, t4.2.2.2.1, t4.2.2.2.2.1, t4.2.2.2.2.2.1, t4.2.2.2.2.2.2.1, t4.2.2.2.2.2.2.2.1)
def qm k0 k1 := zt (@ZN R k0 k1) zJ
def Jz (x : y2s) : Option Bool :=
 Option.bind (yJ (x.1, x.2.1)) fun r1 => qm (fun x7 => some x7.1) (fun x8 => Option.bind (ZM x8.2.2.2.2.1) fun r9 => some (x8.1 == r9)) ((0 : Int), (0 : Int), x.1, x.2.1, x.2.2.1, x.2.2.2.1, x.2.2.2.2.1, x.2.2.2.2.2, r1)
def ydq : List QF := [ykJ, yq1, yzP, yzQ]
def y3t (t : ysC) : St := ⟨.dead :: .box 1 0 :: .dead :: .own 10000000 :: vI t.1 :: vI t.2.1 :: dd 2 (vI t.2.2.1 :: dd 73 []), [(1, .box [ze t.2.2.2.1, yC t.2.2.2.2.1, zu t.2.2.2.2.2.1, yX t.2.2.2.2.2.2.1, zX t.2.2.2.2.2.2.2.1, vI t.2.2.2.2.2.2.2.2.1]), (10000000, .root true 106 yb t.2.2.2.2.2.2.2.2.2)]⟩
def ydr : Gk WM := fun κ => Zb (fun t => κ none ⟨.dead :: .box 1 0 :: vB t.1 :: .own 10000000 :: vI t.2.1 :: vI t.2.2.1 :: dd 76 [], [(1, .box [ze t.2.2.2.1, yC t.2.2.2.2.1, zu t.2.2.2.2.2.1, yX t.2.2.2.2.2.2.1, zX t.2.2.2.2.2.2.2.1, vI t.2.2.2.2.2.2.2.2.1]), (10000000, .root true 106 yb t.2.2.2.2.2.2.2.2.2)]⟩) (fun t => κ (some 2) ⟨.dead :: .box 1 0 :: .dead :: .own 10000000 :: vI t.1 :: vI t.2.1 :: dd 76 [], [(1, .box [ze t.2.2.1, yC t.2.2.2.1, zu t.2.2.2.2.1, yX t.2.2.2.2.2.1, zX t.2.2.2.2.2.2.1, vI t.2.2.2.2.2.2.2.1]), (10000000, .root true 106 yb t.2.2.2.2.2.2.2.2)]⟩)
def y61 (t : ygc) : St := ⟨.dead :: .box 1 0 :: .dead :: .own 10000000 :: vI t.1 :: vI t.2.1 :: dd 76 [], [(1, .box [ze t.2.2.1, yC t.2.2.2.1, zu t.2.2.2.2.1, yX t.2.2.2.2.2.1, zX t.2.2.2.2.2.2.1, vI t.2.2.2.2.2.2.2.1]), (10000000, .root true 106 yb t.2.2.2.2.2.2.2.2)]⟩
def ygI : Gk kP := fun κ => ZN (fun t => κ none ⟨.dead :: .box 1 0 :: vB t.1 :: .dead :: vI t.2.1 :: dd 77 [], [(1, .box [ze t.2.2.1, yC t.2.2.2.1, zu t.2.2.2.2.1, yX t.2.2.2.2.2.1, zX t.2.2.2.2.2.2.1, vI t.2.2.2.2.2.2.2])]⟩) (fun t => κ (some 0) ⟨.dead :: .box 1 0 :: dd 2 (vI t.1 :: dd 77 []), [(1, .box [ze t.2.1, yC t.2.2.1, zu t.2.2.2.1, yX t.2.2.2.2.1, zX t.2.2.2.2.2.1, vI t.2.2.2.2.2.2])]⟩)
def yds : Lp := lpC 4 (unG ykF y61) @ygI (lpC 14 (unG yxf y3t) @ydr lpN)
theorem yiX : LF ydq yds 124 14 Tryz.f124 1 y3t @ydr fun t => t := fun R κ again t => by kernel_rfl
theorem yiY : LK ydq yds 124 Tryz.f124 1 := lkN (u := (unG yxf y3t)) (ym fun t => by kernel_rfl) yiX
theorem yqg : LF ydq yds 124 4 Tryz.f124 0 y61 @ygI fun t => t := fun R κ again t => by kernel_rfl
theorem yqh : LK ydq yds 124 Tryz.f124 0 := lkN (u := (unG ykF y61)) (ym fun t => by kernel_rfl) yqg
theorem yuk : EV ydq yds 124 Tryz.f124 ynv WB [.bool] Jz := fun x => by kernel_rfl
def yzR : QF := ⟨124, Jz, okN (n := 2) Tryz.func124 ⟨yqh, yiY, trivial⟩ yuk⟩
abbrev KV : Type := y9c
def jA (k0 : ygb → Option R) (k1 : y2s → Option R) (again : KV → Option R) (t2 : KV) : Option R :=
 bif (decide (t2.1 < (List.length t2.2.2.2.1 : Int))) then if (0 : Int) ≤ t2.1 then if t2.1 < (List.length t2.2.2.2.1 : Int) then bif (decide ((yD t2.2.2.2.1 t2.1).1 ≥ t2.2.2.2.2.2.2)) then k0 (false, t2.2) else again ((Go.IntKind.wrap .i64 (t2.1 + (1 : Int))), t2.2.1, t2.2.2.1, t2.2.2.2.1, t2.2.2.2.2.1, t2.2.2.2.2.2.1, t2.2.2.2.2.2.2) else none else none else k1 t2.2
def qZ k0 k1 := zt (@jA R k0 k1) zJ
def z5 (x : y2s) : Option Bool :=
 qZ (fun x1 => some x1.1) (fun x2 => Option.bind (Y2 (x2.1, x2.2.1)) fun r3 => Option.bind (bif r3 then Option.bind (J4 x2.2.2.1) fun r5 => some r5 else some false) fun u4 => Option.bind (bif u4 then Option.bind (jb x2.2.2.2.1) fun r7 => some r7 else some false) fun u6 => Option.bind (bif u6 then Option.bind (z3 (x2.2.2.2.2.2, (1 : Int), (61 : Int))) fun r9 => some r9 else some false) fun u8 => Option.bind (bif u8 then Option.bind (Jy x2) fun r11 => some r11 else some false) fun u10 => Option.bind (bif u10 then Option.bind (Jz x2) fun r13 => some r13 else some false) fun u12 => some u12) ((0 : Int), x.1, x.2.1, x.2.2.1, x.2.2.2.1, x.2.2.2.2.1, x.2.2.2.2.2)
def yul : List QF := [ydl, yy0, yy1, yy2, yzO, yzR]
def y9S (t : y9c) : St := ⟨.dead :: .box 1 0 :: .dead :: vI t.1 :: dd 42 [], [(1, .box [ze t.2.1, yC t.2.2.1, zu t.2.2.2.1, yX t.2.2.2.2.1, zX t.2.2.2.2.2.1, vI t.2.2.2.2.2.2])]⟩
def yqi : Gk KV := fun κ => jA (fun t => κ none ⟨.dead :: .box 1 0 :: vB t.1 :: dd 43 [], [(1, .box [ze t.2.1, yC t.2.2.1, zu t.2.2.2.1, yX t.2.2.2.2.1, zX t.2.2.2.2.2.1, vI t.2.2.2.2.2.2])]⟩) (fun t => κ (some 0) ⟨.dead :: .box 1 0 :: dd 44 [], [(1, .box [ze t.1, yC t.2.1, zu t.2.2.1, yX t.2.2.2.1, zX t.2.2.2.2.1, vI t.2.2.2.2.2])]⟩)
def yum : Lp := lpC 2 (unG yga y9S) @yqi lpN
theorem yun : LF yul yum 47 2 Tryz.f47 0 y9S @yqi fun t => t := fun R κ again t => by kernel_rfl
theorem yuo : LK yul yum 47 Tryz.f47 0 := lkN (u := (unG yga y9S)) (ym fun t => by kernel_rfl) yun
theorem yzS : EV yul yum 47 Tryz.f47 yxM WB [.bool] z5 := fun x => by kernel_rfl
def q47 : QF := ⟨47, z5, okN (n := 1) Tryz.func47 ⟨yuo, trivial⟩ yzS⟩
abbrev wR : Type := yxg
def wS (k0 : List yh → Option R) (again : wR → Option R) (t3 : wR) : Option R :=
 Option.bind (bif (decide (t3.2.1 ≥ (0 : Int))) then some (decide ((List.length t3.2.2 : Int) ≤ (List.length t3.1 : Int))) else some false) fun u2 => bif u2 then if (0 : Int) ≤ t3.2.1 then if t3.2.1 < (List.length t3.1 : Int) then if (List.length t3.2.2 + List.length ([(yD t3.1 t3.2.1).1] : List yh)) * 8 < 140737488355328 then if (0 : Int) ≤ t3.2.1 then if t3.2.1 < (List.length t3.1 : Int) then Option.bind (Y7 (t3.1, (yD t3.1 t3.2.1).2)) fun r3 => again (t3.1, r3, (t3.2.2 ++ ([(yD t3.1 t3.2.1).1] : List yh))) else none else none else none else none else none else k0 t3.2.2
def Q0 k0 := zt (@wS R k0) zJ
def J6 (x : yd8) : Option (List yh) :=
 Option.bind (Y7 x) fun r1 => Q0 (fun x4 => some x4) (x.1, r1, ([] : List yh))
def yiZ : List QF := [yq1]
def y62 (t : yxg) : St := ⟨zu t.1 :: dd 4 (.own 10000000 :: vI t.2.1 :: dd 29 []), [(10000000, .root true 3 yd t.2.2)]⟩
def ygJ : Gk wR := fun κ => wS (fun t => κ (some 0) ⟨dd 5 (.own 10000000 :: dd 30 []), [(10000000, .root true 3 yd t)]⟩)
def yj0 : Lp := lpC 3 (unG yxh y62) @ygJ lpN
theorem yqj : LF yiZ yj0 284 3 Tryz.f284 0 y62 @ygJ fun t => t := fun R κ again t => by kernel_rfl
theorem yqk : LK yiZ yj0 284 Tryz.f284 0 := lkN (u := (unG yxh y62)) (ym fun t => by kernel_rfl) yqj
theorem yup : EV yiZ yj0 284 Tryz.f284 ynw yd9 [(.sl 3 yd)] J6 := fun x => by kernel_rfl
def yy3 : QF := ⟨284, J6, okN (n := 1) Tryz.func284 ⟨yqk, trivial⟩ yup⟩
abbrev KW : Type := yxi
def jB (k0 : List y8 → Option R) (again : KW → Option R) (t4 : KW) : Option R :=
 bif (decide (t4.2.1 < (List.length t4.2.2.2 : Int))) then if (0 : Int) ≤ t4.2.1 then if t4.2.1 < (List.length t4.2.2.2 : Int) then bif ((y0 t4.2.2.2 t4.2.1).1 == t4.1) then if (0 : Int) ≤ t4.2.1 then if t4.2.1 < (List.length t4.2.2.2 : Int) then if (List.length t4.2.2.1 + List.length ([((y0 t4.2.2.2 t4.2.1).1, (y0 t4.2.2.2 t4.2.1).2.1, (y0 t4.2.2.2 t4.2.1).2.2.1, (y0 t4.2.2.2 t4.2.1).2.2.2.1, (y0 t4.2.2.2 t4.2.1).2.2.2.2)] : List y8)) * 40 < 140737488355328 then again (t4.1, (Go.IntKind.wrap .i64 (t4.2.1 + (1 : Int))), (t4.2.2.1 ++ ([((y0 t4.2.2.2 t4.2.1).1, (y0 t4.2.2.2 t4.2.1).2.1, (y0 t4.2.2.2 t4.2.1).2.2.1, (y0 t4.2.2.2 t4.2.1).2.2.2.1, (y0 t4.2.2.2 t4.2.1).2.2.2.2)] : List y8)), t4.2.2.2) else none else none else none else again (t4.1, (Go.IntKind.wrap .i64 (t4.2.1 + (1 : Int))), t4.2.2.1, t4.2.2.2) else none else none else k0 t4.2.2.1
def Q1 k0 := zt (@jB R k0) zJ
def wT (x : ys5) : Option (List y8) :=
 Option.bind (yJ (x.1, x.2.1)) fun r1 => Q1 (fun x2 => some x2) (x.2.2, (0 : Int), ([] : List y8), r1)
def yj1 : List QF := [ykJ]
def y63 (t : yxi) : St := ⟨.dead :: vI t.1 :: dd 3 (.own 10000000 :: .own 10000001 :: vI t.2.1 :: dd 24 []), [(10000000, .root true 106 yb t.2.2.1), (10000001, .root true 106 yb t.2.2.2)]⟩
def ygK : Gk KW := fun κ => jB (fun t => κ (some 0) ⟨dd 5 (.own 10000000 :: dd 26 []), [(10000000, .root true 106 yb t)]⟩)
def yj2 : Lp := lpC 4 (unG yxj y63) @ygK lpN
theorem yql : LF yj1 yj2 305 4 Tryz.f305 0 y63 @ygK fun t => t := fun R κ again t => by kernel_rfl
theorem yqm : LK yj1 yj2 305 Tryz.f305 0 := lkN (u := (unG yxj y63)) (ym fun t => by kernel_rfl) yql
theorem yuq : EV yj1 yj2 305 Tryz.f305 ynx ys6 [(.sl 106 yb)] wT := fun x => by kernel_rfl
def yzT : QF := ⟨305, wT, okN (n := 1) Tryz.func305 ⟨yqm, trivial⟩ yuq⟩
abbrev V2 : Type := yxk
def JA (k0 : Bool → Option R) (k1 : Unit → Option R) (again : V2 → Option R) (t2 : V2) : Option R :=
 bif (decide (t2.2.2 < (List.length t2.1 : Int))) then if (0 : Int) ≤ t2.2.2 then if t2.2.2 < (List.length t2.1 : Int) then bif ((z9 t2.1 t2.2.2) == t2.2.1) then k0 true else again (t2.1, t2.2.1, (Go.IntKind.wrap .i64 (t2.2.2 + (1 : Int)))) else none else none else k1 ()
def QZ k0 k1 := zt (@JA R k0 k1) zJ
def kv (x : Qz0) : Option Bool :=
 QZ (fun x1 => some x1) (fun x2 => some false) (x.1, x.2, (0 : Int))
def yj3 : List QF := []
def y64 (t : yxk) : St := ⟨ze t.1 :: vI t.2.1 :: dd 3 (vI t.2.2 :: dd 12 []), []⟩
def ygL : Gk V2 := fun κ => JA (fun t => κ none ⟨dd 4 (vB t :: dd 13 []), []⟩) (fun t => κ (some 0) ⟨dd 18 [], []⟩)
def yj4 : Lp := lpC 2 (unG yxl y64) @ygL lpN
theorem yqn : LF yj3 yj4 306 2 Tryz.f306 0 y64 @ygL fun t => t := fun R κ again t => by kernel_rfl
theorem yqo : LK yj3 yj4 306 Tryz.f306 0 := lkN (u := (unG yxl y64)) (ym fun t => by kernel_rfl) yqn
theorem yur : EV yj3 yj4 306 Tryz.f306 yny qz0 [.bool] kv := fun x => by kernel_rfl
def yzU : QF := ⟨306, kv, okN (n := 1) Tryz.func306 ⟨yqo, trivial⟩ yur⟩
abbrev KX : Type := yxm
def jC (k0 : yxo → Option R) (again : KX → Option R) (t5 : KX) : Option R :=
 bif (decide (t5.2.2.1 < (List.length t5.2.2.2.2.2.2.2.2.2.2.2.2.2 : Int))) then if (0 : Int) ≤ t5.2.2.1 then if t5.2.2.1 < (List.length t5.2.2.2.2.2.2.2.2.2.2.2.2.2 : Int) then Option.bind (kv (t5.1, (y0 t5.2.2.2.2.2.2.2.2.2.2.2.2.2 t5.2.2.1).2.1)) fun r2 => Option.bind (bif r2 then Option.bind (bif (!t5.2.1) then some true else if (0 : Int) ≤ t5.2.2.1 then if t5.2.2.1 < (List.length t5.2.2.2.2.2.2.2.2.2.2.2.2.2 : Int) then some (decide ((y0 t5.2.2.2.2.2.2.2.2.2.2.2.2.2 t5.2.2.1).2.1 > t5.2.2.2.2.2.2.2.2.2.1)) else none else none) fun u4 => some u4 else some false) fun u3 => bif u3 then if (0 : Int) ≤ t5.2.2.1 then if t5.2.2.1 < (List.length t5.2.2.2.2.2.2.2.2.2.2.2.2.2 : Int) then again (t5.1, true, (Go.IntKind.wrap .i64 (t5.2.2.1 + (1 : Int))), t5.2.2.2.1, t5.2.2.2.2.1, t5.2.2.2.2.2.1, t5.2.2.2.2.2.2.1, t5.2.2.2.2.2.2.2.1, (y0 t5.2.2.2.2.2.2.2.2.2.2.2.2.2 t5.2.2.1).1, (y0 t5.2.2.2.2.2.2.2.2.2.2.2.2.2 t5.2.2.1).2.1, (y0 t5.2.2.2.2.2.2.2.2.2.2.2.2.2 t5.2.2.1).2.2.1, (y0 t5.2.2.2.2.2.2.2.2.2.2.2.2.2 t5.2.2.1).2.2.2.1, (y0 t5.2.2.2.2.2.2.2.2.2.2.2.2.2 t5.2.2.1).2.2.2.2, t5.2.2.2.2.2.2.2.2.2.2.2.2.2) else none else none else again (t5.1, t5.2.1, (Go.IntKind.wrap .i64 (t5.2.2.1 + (1 : Int))), t5.2.2.2.1, t5.2.2.2.2.1, t5.2.2.2.2.2.1, t5.2.2.2.2.2.2.1, t5.2.2.2.2.2.2.2.1, t5.2.2.2.2.2.2.2.2.1, t5.2.2.2.2.2.2.2.2.2.1, t5.2.2.2.2.2.2.2.2.2.2.1, t5.2.2.2.2.2.2.2.2.2.2.2.1, t5.2.2.2.2.2.2.2.2.2.2.2.2.1, t5.2.2.2.2.2.2.2.2.2.2.2.2.2) else none else none else k0 (t5.2.1, t5.2.2.2.1, t5.2.2.2.2.1, t5.2.2.2.2.2.1, t5.2.2.2.2.2.2.1, t5.2.2.2.2.2.2.2.1, t5.2.2.2.2.2.2.2.2.1, t5.2.2.2.2.2.2.2.2.2.1, t5.2.2.2.2.2.2.2.2.2.2.1, t5.2.2.2.2.2.2.2.2.2.2.2.1, t5.2.2.2.2.2.2.2.2.2.2.2.2.1)
def Q2 k0 := zt (@jC R k0) zJ
def ZD (x : yxp) : Option ych :=
 Option.bind (wT (x.1, x.2.1, x.2.2.1)) fun r1 => Q2 (fun x5 => some (x5.2.2.2.2.2.2.1, x5.2.2.2.2.2.2.2.1, x5.2.2.2.2.2.2.2.2.1, x5.2.2.2.2.2.2.2.2.2.1, x5.2.2.2.2.2.2.2.2.2.2, x5.1)) (x.2.2.2, false, (0 : Int), (0 : Int), (0 : Int), (0 : Int), (0 : Int), (0 : Int), (0 : Int), (0 : Int), (0 : Int), (0 : Int), (0 : Int), r1)
def yj5 : List QF := [yzT, yzU]
def y65 (t : yxm) : St := ⟨dd 2 (ze t.1 :: dd 3 (.box 6 0 :: .dead :: .box 8 0 :: vB t.2.1 :: .own 10000000 :: vI t.2.2.1 :: dd 37 [])), [(6, .box [vI t.2.2.2.1, vI t.2.2.2.2.1, vI t.2.2.2.2.2.1, vI t.2.2.2.2.2.2.1, vI t.2.2.2.2.2.2.2.1]), (8, .box [vI t.2.2.2.2.2.2.2.2.1, vI t.2.2.2.2.2.2.2.2.2.1, vI t.2.2.2.2.2.2.2.2.2.2.1, vI t.2.2.2.2.2.2.2.2.2.2.2.1, vI t.2.2.2.2.2.2.2.2.2.2.2.2.1]), (10000000, .root true 106 yb t.2.2.2.2.2.2.2.2.2.2.2.2.2)]⟩
def ygM : Gk KX := fun κ => jC (fun t => κ (some 0) ⟨dd 6 (.box 6 0 :: .dead :: .box 8 0 :: vB t.1 :: dd 39 []), [(6, .box [vI t.2.1, vI t.2.2.1, vI t.2.2.2.1, vI t.2.2.2.2.1, vI t.2.2.2.2.2.1]), (8, .box [vI t.2.2.2.2.2.2.1, vI t.2.2.2.2.2.2.2.1, vI t.2.2.2.2.2.2.2.2.1, vI t.2.2.2.2.2.2.2.2.2.1, vI t.2.2.2.2.2.2.2.2.2.2])]⟩)
def yj6 : Lp := lpC 5 (unG yxn y65) @ygM lpN
theorem yqp : LF yj5 yj6 285 5 Tryz.f285 0 y65 @ygM fun t => t := fun R κ again t => by kernel_rfl
theorem yqq : LK yj5 yj6 285 Tryz.f285 0 := lkN (u := (unG yxn y65)) (ym fun t => by kernel_rfl) yqp
theorem yus : EV yj5 yj6 285 Tryz.f285 ynz yxq yci ZD := fun x => by kernel_rfl
def yy4 : QF := ⟨285, ZD, okN (n := 1) Tryz.func285 ⟨yqq, trivial⟩ yus⟩
def KY (x : ysf) : Option ych :=
 Option.bind (J6 (x.2.2.1, x.2.2.2.2)) fun r1 => Option.bind (ZD (x.1, x.2.1, x.2.2.2.1, r1)) fun r2 => some r2
theorem yut : EV [yy3, yy4] lpN 304 Tryz.f304 ynA ysg yci KY := fun x => by kernel_rfl
def yzV : QF := ⟨304, KY, okN (n := 0) Tryz.func304 trivial yut⟩
def KZ (x : yxr) : Option Bool :=
 Option.bind (KY (x.1, x.2.1, x.2.2.1, x.2.2.2.1, x.2.2.2.2.2.2.2.2)) fun r1 => Option.bind (bif r1.2.2.2.2.2 then some (r1.2.1 == x.2.2.2.2.1) else some false) fun u2 => some u2
theorem yuu : EV [yzV] lpN 283 Tryz.f283 ynB yxs [.bool] KZ := fun x => by kernel_rfl
def yzW : QF := ⟨283, KZ, okN (n := 0) Tryz.func283 trivial yuu⟩
abbrev wU : Type := yxt
def YM (k0 : Bool → Option R) (k1 : Unit → Option R) (again : wU → Option R) (t2 : wU) : Option R :=
 bif (decide (t2.1 < (List.length t2.2.2.2.2.2.1 : Int))) then if (0 : Int) ≤ t2.1 then if t2.1 < (List.length t2.2.2.2.2.2.1 : Int) then Option.bind (bif (decide ((zd t2.2.2.2.2.2.1 t2.1).2.2.1 > t2.2.2.2.2.2.2.2.1)) then if (0 : Int) ≤ t2.1 then if t2.1 < (List.length t2.2.2.2.2.2.1 : Int) then Option.bind (KZ (t2.2.1, t2.2.2.1, t2.2.2.2.1, t2.2.2.2.2.2.2.2.1, t2.2.2.2.2.2.2.2.2.1, t2.2.2.2.2.2.2.2.2.2.1, t2.2.2.2.2.2.2.2.2.2.2.1, t2.2.2.2.2.2.2.2.2.2.2.2, (zd t2.2.2.2.2.2.1 t2.1).2.1)) fun r2 => some r2 else none else none else some false) fun u1 => bif u1 then k0 true else again ((Go.IntKind.wrap .i64 (t2.1 + (1 : Int))), t2.2.1, t2.2.2.1, t2.2.2.2.1, t2.2.2.2.2.1, t2.2.2.2.2.2.1, t2.2.2.2.2.2.2.1, t2.2.2.2.2.2.2.2.1, t2.2.2.2.2.2.2.2.2.1, t2.2.2.2.2.2.2.2.2.2.1, t2.2.2.2.2.2.2.2.2.2.2.1, t2.2.2.2.2.2.2.2.2.2.2.2) else none else none else k1 ()
def vO k0 k1 := zt (@YM R k0 k1) zJ
def ZO (x : ykG) : Option Bool :=
 vO (fun x3 => some x3) (fun x4 => some false) ((0 : Int), x.1, x.2.1, x.2.2.1, x.2.2.2.1, x.2.2.2.2.1, x.2.2.2.2.2.1, x.2.2.2.2.2.2.1, x.2.2.2.2.2.2.2.1, x.2.2.2.2.2.2.2.2.1, x.2.2.2.2.2.2.2.2.2.1, x.2.2.2.2.2.2.2.2.2.2)
def yj7 : List QF := [yzW]
def y66 (t : yxt) : St := ⟨dd 2 (.box 2 0 :: .box 3 0 :: .dead :: vI t.1 :: dd 30 []), [(2, .box [ze t.2.1, yC t.2.2.1, zu t.2.2.2.1, yX t.2.2.2.2.1, zX t.2.2.2.2.2.1, vI t.2.2.2.2.2.2.1]), (3, .box [vI t.2.2.2.2.2.2.2.1, vI t.2.2.2.2.2.2.2.2.1, vI t.2.2.2.2.2.2.2.2.2.1, vI t.2.2.2.2.2.2.2.2.2.2.1, vI t.2.2.2.2.2.2.2.2.2.2.2])]⟩
def ygN : Gk wU := fun κ => YM (fun t => κ none ⟨dd 4 (vB t :: dd 31 []), []⟩) (fun t => κ (some 0) ⟨dd 36 [], []⟩)
def yj8 : Lp := lpC 2 (unG yxu y66) @ygN lpN
theorem yqr : LF yj7 yj8 258 2 Tryz.f258 0 y66 @ygN fun t => t := fun R κ again t => by kernel_rfl
theorem yqs : LK yj7 yj8 258 Tryz.f258 0 := lkN (u := (unG yxu y66)) (ym fun t => by kernel_rfl) yqr
theorem yuv : EV yj7 yj8 258 Tryz.f258 ynC ykH [.bool] ZO := fun x => by kernel_rfl
def yzX : QF := ⟨258, ZO, okN (n := 1) Tryz.func258 ⟨yqs, trivial⟩ yuv⟩
def ZP (x : ysf) : Option ych :=
 Option.bind (J6 (x.2.2.1, x.2.2.2.2)) fun r1 => bif ((List.length r1 : Int) == (0 : Int)) then some ((0 : Int), (0 : Int), (0 : Int), (0 : Int), (0 : Int), false) else if (0 : Int) ≤ (1 : Int) then if (1 : Int) ≤ (List.length r1 : Int) then if (List.length r1 : Int) ≤ (List.length r1 : Int) then Option.bind (ZD (x.1, x.2.1, x.2.2.2.1, (List.drop (Int.toNat (1 : Int)) (List.take (Int.toNat (List.length r1 : Int)) r1)))) fun r2 => some r2 else none else none else none
theorem yuw : EV [yy3, yy4] lpN 259 Tryz.f259 ynD ysg yci ZP := fun x => by kernel_rfl
def yzY : QF := ⟨259, ZP, okN (n := 0) Tryz.func259 trivial yuw⟩
abbrev VN : Type := ygd
def wV (k0 : Bool → Option R) (k1 : Unit → Option R) (again : VN → Option R) (t2 : VN) : Option R :=
 bif (decide (t2.2.1 < (List.length t2.2.2.2.2.2.2.1 : Int))) then if (0 : Int) ≤ t2.2.1 then if t2.2.1 < (List.length t2.2.2.2.2.2.2.1 : Int) then bif ((zd t2.2.2.2.2.2.2.1 t2.2.1).2.1 == t2.1) then k0 false else again (t2.1, (Go.IntKind.wrap .i64 (t2.2.1 + (1 : Int))), t2.2.2.1, t2.2.2.2.1, t2.2.2.2.2.1, t2.2.2.2.2.2.1, t2.2.2.2.2.2.2.1, t2.2.2.2.2.2.2.2) else none else none else k1 ()
def y0X k0 k1 := zt (@wV R k0 k1) zJ
def WO (x : ylb) : Option Bool :=
 y0X (fun x1 => some x1) (fun x2 => some true) (x.2.2.2.2.2.2, (0 : Int), x.1, x.2.1, x.2.2.1, x.2.2.2.1, x.2.2.2.2.1, x.2.2.2.2.2.1)
def yj9 : List QF := []
def y67 (t : ygd) : St := ⟨.dead :: vI t.1 :: .box 2 0 :: dd 2 (vI t.2.1 :: dd 15 []), [(2, .box [ze t.2.2.1, yC t.2.2.2.1, zu t.2.2.2.2.1, yX t.2.2.2.2.2.1, zX t.2.2.2.2.2.2.1, vI t.2.2.2.2.2.2.2])]⟩
def ygO : Gk VN := fun κ => wV (fun t => κ none ⟨dd 4 (vB t :: dd 16 []), []⟩) (fun t => κ (some 0) ⟨dd 21 [], []⟩)
def yja : Lp := lpC 2 (unG ysh y67) @ygO lpN
theorem yqt : LF yj9 yja 240 2 Tryz.f240 0 y67 @ygO fun t => t := fun R κ again t => by kernel_rfl
theorem yqu : LK yj9 yja 240 Tryz.f240 0 := lkN (u := (unG ysh y67)) (ym fun t => by kernel_rfl) yqt
theorem yux : EV yj9 yja 240 Tryz.f240 ynE ylc [.bool] WO := fun x => by kernel_rfl
def yy5 : QF := ⟨240, WO, okN (n := 1) Tryz.func240 ⟨yqu, trivial⟩ yux⟩
def YN (x : ylb) : Option Int :=
 Option.bind (ZC (x.2.2.1, x.2.2.2.2.2.2)) fun r1 => Option.bind (WO x) fun r2 => Option.bind (bif (!r2) then some true else some ((List.length r1 : Int) != (1 : Int))) fun u3 => bif u3 then some (0 : Int) else if (0 : Int) ≤ (0 : Int) then if (0 : Int) < (List.length r1 : Int) then some (z9 r1 (0 : Int)) else none else none
theorem yuy : EV [yug, yy5] lpN 191 Tryz.f191 ynF ylc [(.int .i64)] YN := fun x => by kernel_rfl
def yy6 : QF := ⟨191, YN, okN (n := 0) Tryz.func191 trivial yuy⟩
abbrev JS : Type := yxv
def JT (k0 : Int → Option R) (again : JS → Option R) (t3 : JS) : Option R :=
 bif (decide (t3.2.2.2.1 < (List.length t3.2.2.2.2.1 : Int))) then if (0 : Int) ≤ t3.2.2.2.1 then if t3.2.2.2.1 < (List.length t3.2.2.2.2.1 : Int) then Option.bind (J2 (t3.1, t3.2.1)) fun r1 => bif (decide ((z9 t3.2.2.2.2.1 t3.2.2.2.1) ≤ r1)) then again (t3.1, t3.2.1, t3.2.2.2.1, (Go.IntKind.wrap .i64 (t3.2.2.2.1 + (1 : Int))), t3.2.2.2.2.1, t3.2.2.2.2.2) else again (t3.1, t3.2.1, t3.2.2.1, (Go.IntKind.wrap .i64 (t3.2.2.2.1 + (1 : Int))), t3.2.2.2.2.1, t3.2.2.2.2.2) else none else none else k0 t3.2.2.1
def qn k0 := zt (@JT R k0) zJ
def jc (x : yeZ) : Option Int :=
 qn (fun x2 => some x2) (x.2.2.1, x.2.2.2, (-1 : Int), (0 : Int), x.1, x.2.1)
def yjb : List QF := [yxW]
def y68 (t : yxv) : St := ⟨.dead :: vI t.1 :: vI t.2.1 :: .box 3 0 :: dd 3 (vI t.2.2.1 :: vI t.2.2.2.1 :: dd 18 []), [(3, .box [ze t.2.2.2.2.1, yC t.2.2.2.2.2])]⟩
def ygP : Gk JS := fun κ => JT (fun t => κ (some 0) ⟨dd 7 (vI t :: dd 19 []), []⟩)
def yjc : Lp := lpC 3 (unG yxw y68) @ygP lpN
theorem yqv : LF yjb yjc 232 3 Tryz.f232 0 y68 @ygP fun t => t := fun R κ again t => by kernel_rfl
theorem yqw : LK yjb yjc 232 Tryz.f232 0 := lkN (u := (unG yxw y68)) (ym fun t => by kernel_rfl) yqv
theorem yuz : EV yjb yjc 232 Tryz.f232 ynG yf0 [(.int .i64)] jc := fun x => by kernel_rfl
def yy7 : QF := ⟨232, jc, okN (n := 1) Tryz.func232 ⟨yqw, trivial⟩ yuz⟩
abbrev V3 : Type := yld
def JB (k0 : yf1 → Option R) (k1 : yeY → Option R) (again : V3 → Option R) (t2 : V3) : Option R :=
 bif (decide (t2.2.2.2.1 < (List.length t2.1 : Int))) then if (0 : Int) ≤ t2.2.2.2.1 then if t2.2.2.2.1 < (List.length t2.1 : Int) then Option.bind (bif ((y0 t2.1 t2.2.2.2.1).1 == t2.2.1) then if (0 : Int) ≤ t2.2.2.2.1 then if t2.2.2.2.1 < (List.length t2.1 : Int) then some ((y0 t2.1 t2.2.2.2.1).2.1 == t2.2.2.1) else none else none else some false) fun u1 => bif u1 then if (0 : Int) ≤ t2.2.2.2.1 then if t2.2.2.2.1 < (List.length t2.1 : Int) then k0 (true, (y0 t2.1 t2.2.2.2.1).1, (y0 t2.1 t2.2.2.2.1).2.1, (y0 t2.1 t2.2.2.2.1).2.2.1, (y0 t2.1 t2.2.2.2.1).2.2.2.1, (y0 t2.1 t2.2.2.2.1).2.2.2.2) else none else none else again (t2.1, t2.2.1, t2.2.2.1, (Go.IntKind.wrap .i64 (t2.2.2.2.1 + (1 : Int))), t2.2.2.2.2.1, t2.2.2.2.2.2.1, t2.2.2.2.2.2.2.1, t2.2.2.2.2.2.2.2.1, t2.2.2.2.2.2.2.2.2) else none else none else k1 t2.2.2.2.2
def y00 k0 k1 := zt (@JB R k0 k1) zJ
def wd (x : ylf) : Option ych :=
 y00 (fun x2 => some (x2.2.1, x2.2.2.1, x2.2.2.2.1, x2.2.2.2.2.1, x2.2.2.2.2.2, x2.1)) (fun x3 => some ((0 : Int), (0 : Int), (0 : Int), (0 : Int), (0 : Int), false)) (x.1, x.2.1, x.2.2, (0 : Int), (0 : Int), (0 : Int), (0 : Int), (0 : Int), (0 : Int))
def yjd : List QF := []
def y69 (t : yld) : St := ⟨Vp t.1 :: vI t.2.1 :: vI t.2.2.1 :: dd 3 (.box 6 0 :: .dead :: vI t.2.2.2.1 :: dd 27 []), [(6, .box [vI t.2.2.2.2.1, vI t.2.2.2.2.2.1, vI t.2.2.2.2.2.2.1, vI t.2.2.2.2.2.2.2.1, vI t.2.2.2.2.2.2.2.2])]⟩
def ygQ : Gk V3 := fun κ => JB (fun t => κ none ⟨dd 6 (.box 6 0 :: vB t.1 :: dd 28 []), [(6, .box [vI t.2.1, vI t.2.2.1, vI t.2.2.2.1, vI t.2.2.2.2.1, vI t.2.2.2.2.2])]⟩) (fun t => κ (some 0) ⟨dd 6 (.box 6 0 :: dd 29 []), [(6, .box [vI t.1, vI t.2.1, vI t.2.2.1, vI t.2.2.2.1, vI t.2.2.2.2])]⟩)
def yje : Lp := lpC 2 (unG yle y69) @ygQ lpN
theorem yqx : LF yjd yje 265 2 Tryz.f265 0 y69 @ygQ fun t => t := fun R κ again t => by kernel_rfl
theorem yqy : LK yjd yje 265 Tryz.f265 0 := lkN (u := (unG yle y69)) (ym fun t => by kernel_rfl) yqx
theorem yuA : EV yjd yje 265 Tryz.f265 ynH ylg yci wd := fun x => by kernel_rfl
def yy8 : QF := ⟨265, wd, okN (n := 1) Tryz.func265 ⟨yqy, trivial⟩ yuA⟩
abbrev wW : Type := yf2
def wX (k0 : yf1 → Option R) (k1 : yeY → Option R) (again : wW → Option R) (t2 : wW) : Option R :=
 bif (decide (t2.2.2.1 ≥ (0 : Int))) then if (0 : Int) ≤ t2.2.2.1 then if t2.2.2.1 < (List.length t2.2.2.2.1 : Int) then Option.bind (wd ((yj t2.2.2.2.1 t2.2.2.1), t2.1, t2.2.1)) fun r1 => Option.bind (bif r1.2.2.2.2.2 then some (r1.2.2.1 == (0 : Int)) else some false) fun u2 => bif u2 then k0 (false, (0 : Int), (0 : Int), (0 : Int), (0 : Int), (0 : Int)) else bif r1.2.2.2.2.2 then k0 (true, r1.1, r1.2.1, r1.2.2.1, r1.2.2.2.1, r1.2.2.2.2.1) else again (t2.1, t2.2.1, (Go.IntKind.wrap .i64 (t2.2.2.1 - (1 : Int))), t2.2.2.2.1, t2.2.2.2.2.1, t2.2.2.2.2.2.1, t2.2.2.2.2.2.2.1, t2.2.2.2.2.2.2.2.1, t2.2.2.2.2.2.2.2.2) else none else none else k1 t2.2.2.2.2
def Q3 k0 k1 := zt (@wX R k0 k1) zJ
def wY (x : y9K) : Option ych :=
 Q3 (fun x3 => some (x3.2.1, x3.2.2.1, x3.2.2.2.1, x3.2.2.2.2.1, x3.2.2.2.2.2, x3.1)) (fun x4 => some ((0 : Int), (0 : Int), (0 : Int), (0 : Int), (0 : Int), false)) (x.2.1, x.2.2, (Go.IntKind.wrap .i64 ((List.length x.1 : Int) - (1 : Int))), x.1, (0 : Int), (0 : Int), (0 : Int), (0 : Int), (0 : Int))
def yjf : List QF := [yy8]
def y6a (t : yf2) : St := ⟨.dead :: vI t.1 :: vI t.2.1 :: .box 3 0 :: dd 2 (.box 6 0 :: .dead :: vI t.2.2.1 :: dd 31 []), [(3, .box [Y6 t.2.2.2.1]), (6, .box [vI t.2.2.2.2.1, vI t.2.2.2.2.2.1, vI t.2.2.2.2.2.2.1, vI t.2.2.2.2.2.2.2.1, vI t.2.2.2.2.2.2.2.2])]⟩
def ygR : Gk wW := fun κ => wX (fun t => κ none ⟨dd 6 (.box 6 0 :: vB t.1 :: dd 32 []), [(6, .box [vI t.2.1, vI t.2.2.1, vI t.2.2.2.1, vI t.2.2.2.2.1, vI t.2.2.2.2.2])]⟩) (fun t => κ (some 0) ⟨dd 6 (.box 6 0 :: dd 33 []), [(6, .box [vI t.1, vI t.2.1, vI t.2.2.1, vI t.2.2.2.1, vI t.2.2.2.2])]⟩)
def yjg : Lp := lpC 2 (unG yf3 y6a) @ygR lpN
theorem yqz : LF yjf yjg 286 2 Tryz.f286 0 y6a @ygR fun t => t := fun R κ again t => by kernel_rfl
theorem yqA : LK yjf yjg 286 Tryz.f286 0 := lkN (u := (unG yf3 y6a)) (ym fun t => by kernel_rfl) yqz
theorem yuB : EV yjf yjg 286 Tryz.f286 ynI yf4 yci wY := fun x => by kernel_rfl
def yzZ : QF := ⟨286, wY, okN (n := 1) Tryz.func286 ⟨yqA, trivial⟩ yuB⟩
def J8 (x : yeZ) : Option ych :=
 Option.bind (jc x) fun r1 => Option.bind (z3 (r1, (0 : Int), (Go.IntKind.wrap .i64 ((List.length x.2.1 : Int) - (1 : Int))))) fun r2 => bif (!r2) then some ((0 : Int), (0 : Int), (0 : Int), (0 : Int), (0 : Int), false) else if (0 : Int) ≤ r1 then if r1 < (List.length x.2.1 : Int) then Option.bind (wY ((ya x.2.1 r1), x.2.2.1, x.2.2.2)) fun r3 => some r3 else none else none
theorem yuC : EV [ydl, yy7, yzZ] lpN 262 Tryz.f262 ynJ yf0 yci J8 := fun x => by kernel_rfl
def yy9 : QF := ⟨262, J8, okN (n := 0) Tryz.func262 trivial yuC⟩
def kg (x : ykG) : Option Bool :=
 Option.bind (YN (x.1, x.2.1, x.2.2.1, x.2.2.2.1, x.2.2.2.2.1, x.2.2.2.2.2.1, x.2.2.2.2.2.2.2.1)) fun r1 => bif (r1 == (0 : Int)) then some false else Option.bind (J8 (x.1, x.2.1, x.2.2.2.2.2.2.1, r1)) fun r2 => some (!r2.2.2.2.2.2)
theorem yuD : EV [yy6, yy9] lpN 260 Tryz.f260 ynK ykH [.bool] kg := fun x => by kernel_rfl
def yA0 : QF := ⟨260, kg, okN (n := 0) Tryz.func260 trivial yuD⟩
def wZ (x : ylh) : Option Bool :=
 bif (x.2.2.2.2.2.2.1 == (1 : Int)) then Option.bind (ZO (x.1, x.2.1, x.2.2.1, x.2.2.2.1, x.2.2.2.2.1, x.2.2.2.2.2.1, x.2.2.2.2.2.2.2)) fun r1 => some (!r1) else bif (x.2.2.2.2.2.2.1 == (2 : Int)) then Option.bind (ZP (x.1, x.2.1, x.2.2.1, x.2.2.2.2.2.2.2.1, x.2.2.2.2.2.2.2.2.1)) fun r2 => Option.bind (bif (x.2.2.2.2.2.2.2.2.2.1 == (2 : Int)) then some (!r2.2.2.2.2.2) else some false) fun u3 => some u3 else Option.bind (kg (x.1, x.2.1, x.2.2.1, x.2.2.2.1, x.2.2.2.2.1, x.2.2.2.2.2.1, x.2.2.2.2.2.2.2)) fun r4 => some r4
theorem yuE : EV [yzX, yzY, yA0] lpN 228 Tryz.f228 ynL yli [.bool] wZ := fun x => by kernel_rfl
def yA1 : QF := ⟨228, wZ, okN (n := 0) Tryz.func228 trivial yuE⟩
abbrev v5 : Type := ygc
def jD (k0 : ysD → Option R) (k1 : y9c → Option R) (again : v5 → Option R) (t3 : v5) : Option R :=
 bif (decide (t3.2.1 < (List.length t3.2.2.2.2.2.2.2.2 : Int))) then if (0 : Int) ≤ t3.2.1 then if t3.2.1 < (List.length t3.2.2.2.2.2.2.2.2 : Int) then bif ((y0 t3.2.2.2.2.2.2.2.2 t3.2.1).2.1 == t3.1) then k0 (t3.1, false, t3.2.2.1, t3.2.2.2.1, t3.2.2.2.2.1, t3.2.2.2.2.2.1, t3.2.2.2.2.2.2.1, t3.2.2.2.2.2.2.2.1) else again (t3.1, (Go.IntKind.wrap .i64 (t3.2.1 + (1 : Int))), t3.2.2.1, t3.2.2.2.1, t3.2.2.2.2.1, t3.2.2.2.2.2.1, t3.2.2.2.2.2.2.1, t3.2.2.2.2.2.2.2.1, t3.2.2.2.2.2.2.2.2) else none else none else k1 (t3.1, t3.2.2.1, t3.2.2.2.1, t3.2.2.2.2.1, t3.2.2.2.2.2.1, t3.2.2.2.2.2.2.1, t3.2.2.2.2.2.2.2.1)
def Q4 k0 k1 := zt (@jD R k0 k1) zJ
def W0 (x : ylb) : Option Bool :=
 Option.bind (yJ (x.1, x.2.1)) fun r1 => Q4 (fun x2 => some x2.2.1) (fun x3 => Option.bind (WO (x3.2.1, x3.2.2.1, x3.2.2.2.1, x3.2.2.2.2.1, x3.2.2.2.2.2.1, x3.2.2.2.2.2.2, x3.1)) fun r4 => Option.bind (bif r4 then Option.bind (ZC (x3.2.2.2.1, x3.1)) fun r6 => some (decide ((List.length r6 : Int) ≤ (1 : Int))) else some false) fun u5 => some u5) (x.2.2.2.2.2.2, (0 : Int), x.1, x.2.1, x.2.2.1, x.2.2.2.1, x.2.2.2.2.1, x.2.2.2.2.2.1, r1)
def yjh : List QF := [ykJ, yug, yy5]
def y6b (t : ygc) : St := ⟨.dead :: vI t.1 :: .box 2 0 :: dd 2 (.own 10000000 :: vI t.2.1 :: dd 27 []), [(2, .box [ze t.2.2.1, yC t.2.2.2.1, zu t.2.2.2.2.1, yX t.2.2.2.2.2.1, zX t.2.2.2.2.2.2.1, vI t.2.2.2.2.2.2.2.1]), (10000000, .root true 106 yb t.2.2.2.2.2.2.2.2)]⟩
def ygS : Gk v5 := fun κ => jD (fun t => κ none ⟨.dead :: vI t.1 :: .box 2 0 :: .dead :: vB t.2.1 :: dd 29 [], [(2, .box [ze t.2.2.1, yC t.2.2.2.1, zu t.2.2.2.2.1, yX t.2.2.2.2.2.1, zX t.2.2.2.2.2.2.1, vI t.2.2.2.2.2.2.2])]⟩) (fun t => κ (some 0) ⟨.dead :: vI t.1 :: .box 2 0 :: dd 31 [], [(2, .box [ze t.2.1, yC t.2.2.1, zu t.2.2.2.1, yX t.2.2.2.2.1, zX t.2.2.2.2.2.1, vI t.2.2.2.2.2.2])]⟩)
def yji : Lp := lpC 3 (unG ykF y6b) @ygS lpN
theorem yqB : LF yjh yji 229 3 Tryz.f229 0 y6b @ygS fun t => t := fun R κ again t => by kernel_rfl
theorem yqC : LK yjh yji 229 Tryz.f229 0 := lkN (u := (unG ykF y6b)) (ym fun t => by kernel_rfl) yqB
theorem yuF : EV yjh yji 229 Tryz.f229 ynM ylc [.bool] W0 := fun x => by kernel_rfl
def yA2 : QF := ⟨229, W0, okN (n := 1) Tryz.func229 ⟨yqC, trivial⟩ yuF⟩
abbrev WP : Type := ygc
def Zc (k0 : ysC → Option R) (k1 : yi0 → Option R) (again : WP → Option R) (t8 : WP) : Option R :=
 bif (decide (t8.2.1 < (List.length t8.2.2.2.2.2.2.2.2 : Int))) then if (0 : Int) ≤ t8.2.1 then if t8.2.1 < (List.length t8.2.2.2.2.2.2.2.2 : Int) then Option.bind (wZ (t8.2.2.1, t8.2.2.2.1, t8.2.2.2.2.1, t8.2.2.2.2.2.1, t8.2.2.2.2.2.2.1, t8.2.2.2.2.2.2.2.1, t8.1, (y0 t8.2.2.2.2.2.2.2.2 t8.2.1).1, (y0 t8.2.2.2.2.2.2.2.2 t8.2.1).2.1, (y0 t8.2.2.2.2.2.2.2.2 t8.2.1).2.2.1, (y0 t8.2.2.2.2.2.2.2.2 t8.2.1).2.2.2.1, (y0 t8.2.2.2.2.2.2.2.2 t8.2.1).2.2.2.2)) fun r3 => bif r3 then k0 (t8.1, t8.2.1, t8.1, t8.2.2) else again (t8.1, (Go.IntKind.wrap .i64 (t8.2.1 + (1 : Int))), t8.2.2.1, t8.2.2.2.1, t8.2.2.2.2.1, t8.2.2.2.2.2.1, t8.2.2.2.2.2.2.1, t8.2.2.2.2.2.2.2.1, t8.2.2.2.2.2.2.2.2) else none else none else k1 (t8.1, t8.2.2)
def Vs k0 k1 := zt (@Zc R k0 k1) zJ
abbrev WQ : Type := yi0
def Zd (k0 : ygd → Option R) (k1 : y2s → Option R) (again : WQ → Option R) (t5 : WQ) : Option R :=
 bif (decide (t5.1 ≤ (3 : Int))) then Vs (fun x4 => k0 (x4.1, x4.2.1, x4.2.2.2.1, x4.2.2.2.2.1, x4.2.2.2.2.2.1, x4.2.2.2.2.2.2.1, x4.2.2.2.2.2.2.2.1, x4.2.2.2.2.2.2.2.2.1)) (fun x5 => again ((Go.IntKind.wrap .i64 (x5.1 + (1 : Int))), x5.2.1, x5.2.2.1, x5.2.2.2.1, x5.2.2.2.2.1, x5.2.2.2.2.2.1, x5.2.2.2.2.2.2.1, x5.2.2.2.2.2.2.2)) (t5.1, (0 : Int), t5.2.1, t5.2.2.1, t5.2.2.2.1, t5.2.2.2.2.1, t5.2.2.2.2.2.1, t5.2.2.2.2.2.2.1, t5.2.2.2.2.2.2.2) else k1 (t5.2.1, t5.2.2.1, t5.2.2.2.1, t5.2.2.2.2.1, t5.2.2.2.2.2.1, t5.2.2.2.2.2.2.1)
def Vt k0 k1 := zt (@Zd R k0 k1) zJ
abbrev W2 : Type := y9c
def YO (k0 : Qz3 → Option R) (k1 : Unit → Option R) (again : W2 → Option R) (t13 : W2) : Option R :=
 bif (decide (t13.1 < (List.length t13.2.2.2.1 : Int))) then if (0 : Int) ≤ t13.1 then if t13.1 < (List.length t13.2.2.2.1 : Int) then Option.bind (W0 (t13.2.1, t13.2.2.1, t13.2.2.2.1, t13.2.2.2.2.1, t13.2.2.2.2.2.1, t13.2.2.2.2.2.2, (yD t13.2.2.2.1 t13.1).1)) fun r8 => bif r8 then k0 ((4 : Int), t13.1) else again ((Go.IntKind.wrap .i64 (t13.1 + (1 : Int))), t13.2.1, t13.2.2.1, t13.2.2.2.1, t13.2.2.2.2.1, t13.2.2.2.2.2.1, t13.2.2.2.2.2.2) else none else none else k1 ()
def vP k0 k1 := zt (@YO R k0 k1) zJ
def jE (x : y2s) : Option Qz3 :=
 Option.bind (z5 x) fun r1 => bif (!r1) then some ((0 : Int), (0 : Int)) else Option.bind (yJ (x.1, x.2.1)) fun r2 => Vt (fun x6 => some (x6.1, x6.2.1)) (fun x7 => vP (fun x9 => some x9) (fun x10 => some ((0 : Int), (0 : Int))) ((0 : Int), x7.1, x7.2.1, x7.2.2.1, x7.2.2.2.1, x7.2.2.2.2.1, x7.2.2.2.2.2)) ((1 : Int), x.1, x.2.1, x.2.2.1, x.2.2.2.1, x.2.2.2.2.1, x.2.2.2.2.2, r2)
def y9T : List QF := [q47, ykJ, yA1, yA2]
def y6c (t : ygc) : St := ⟨.dead :: .box 1 0 :: dd 2 (.own 10000000 :: vI t.1 :: vI t.2.1 :: dd 42 []), [(1, .box [ze t.2.2.1, yC t.2.2.2.1, zu t.2.2.2.2.1, yX t.2.2.2.2.2.1, zX t.2.2.2.2.2.2.1, vI t.2.2.2.2.2.2.2.1]), (10000000, .root true 106 yb t.2.2.2.2.2.2.2.2)]⟩
def ygT : Gk WP := fun κ => Zc (fun t => κ none ⟨.dead :: .box 1 0 :: vI t.1 :: vI t.2.1 :: .own 10000000 :: vI t.2.2.1 :: dd 43 [], [(1, .box [ze t.2.2.2.1, yC t.2.2.2.2.1, zu t.2.2.2.2.2.1, yX t.2.2.2.2.2.2.1, zX t.2.2.2.2.2.2.2.1, vI t.2.2.2.2.2.2.2.2.1]), (10000000, .root true 106 yb t.2.2.2.2.2.2.2.2.2)]⟩) (fun t => κ (some 2) ⟨.dead :: .box 1 0 :: dd 2 (.own 10000000 :: vI t.1 :: dd 43 []), [(1, .box [ze t.2.1, yC t.2.2.1, zu t.2.2.2.1, yX t.2.2.2.2.1, zX t.2.2.2.2.2.1, vI t.2.2.2.2.2.2.1]), (10000000, .root true 106 yb t.2.2.2.2.2.2.2)]⟩)
def y6d (t : yi0) : St := ⟨.dead :: .box 1 0 :: dd 2 (.own 10000000 :: vI t.1 :: dd 43 []), [(1, .box [ze t.2.1, yC t.2.2.1, zu t.2.2.2.1, yX t.2.2.2.2.1, zX t.2.2.2.2.2.1, vI t.2.2.2.2.2.2.1]), (10000000, .root true 106 yb t.2.2.2.2.2.2.2)]⟩
def ygU : Gk WQ := fun κ => Zd (fun t => κ none ⟨.dead :: .box 1 0 :: vI t.1 :: vI t.2.1 :: dd 45 [], [(1, .box [ze t.2.2.1, yC t.2.2.2.1, zu t.2.2.2.2.1, yX t.2.2.2.2.2.1, zX t.2.2.2.2.2.2.1, vI t.2.2.2.2.2.2.2])]⟩) (fun t => κ (some 0) ⟨.dead :: .box 1 0 :: dd 47 [], [(1, .box [ze t.1, yC t.2.1, zu t.2.2.1, yX t.2.2.2.1, zX t.2.2.2.2.1, vI t.2.2.2.2.2])]⟩)
def y3u (t : y9c) : St := ⟨.dead :: .box 1 0 :: dd 5 (vI t.1 :: dd 41 []), [(1, .box [ze t.2.1, yC t.2.2.1, zu t.2.2.2.1, yX t.2.2.2.2.1, zX t.2.2.2.2.2.1, vI t.2.2.2.2.2.2])]⟩
def ydt : Gk W2 := fun κ => YO (fun t => κ none ⟨dd 2 (vI t.1 :: vI t.2 :: dd 45 []), []⟩) (fun t => κ (some 4) ⟨dd 49 [], []⟩)
def y9U : Lp := lpC 13 (unG yga y3u) @ydt (lpC 5 (unG ylj y6d) @ygU (lpC 8 (unG ykF y6c) @ygT lpN))
theorem yqD : LF y9T y9U 187 8 Tryz.f187 1 y6c @ygT fun t => t := fun R κ again t => by kernel_rfl
theorem yqE : LK y9T y9U 187 Tryz.f187 1 := lkN (u := (unG ykF y6c)) (ym fun t => by kernel_rfl) yqD
theorem yqF : LF y9T y9U 187 5 Tryz.f187 0 y6d @ygU fun t => t := fun R κ again t => by kernel_rfl
theorem yqG : LK y9T y9U 187 Tryz.f187 0 := lkN (u := (unG ylj y6d)) (ym fun t => by kernel_rfl) yqF
theorem yjj : LF y9T y9U 187 13 Tryz.f187 2 y3u @ydt fun t => t := fun R κ again t => by kernel_rfl
theorem yjk : LK y9T y9U 187 Tryz.f187 2 := lkN (u := (unG yga y3u)) (ym fun t => by kernel_rfl) yjj
theorem yuG : EV y9T y9U 187 Tryz.f187 ynN WB qz3 jE := fun x => by kernel_rfl
def yA3 : QF := ⟨187, jE, okN (n := 3) Tryz.func187 ⟨yqG, yqE, yjk, trivial⟩ yuG⟩
def yN (x : List y8) : Option (List y9) :=
 bif ((List.length x : Int) == (0 : Int)) then some ([] : List y9) else if (List.length ([] : List y8) + List.length x) * 40 < 140737488355328 then some ([(([] : List y8) ++ x)] : List y9) else none
theorem yuH : EV [] lpN 238 Tryz.f238 ynO [(.sl 106 yb)] [(.sl 100 yi)] yN := fun x => by kernel_rfl
def yuI : QF := ⟨238, yN, okN (n := 0) Tryz.func238 trivial yuH⟩
def JC (x : yi1) : Option ylk :=
 Option.bind (z4 x.1) fun r1 => bif (decide ((Go.IntKind.wrap .i64 ((List.length r1 : Int) - (1 : Int))) ≥ (0 : Int))) then if (0 : Int) ≤ (Go.IntKind.wrap .i64 ((List.length r1 : Int) - (1 : Int))) then if (Go.IntKind.wrap .i64 ((List.length r1 : Int) - (1 : Int))) < (List.length r1 : Int) then Option.bind (wd ((yj r1 (Go.IntKind.wrap .i64 ((List.length r1 : Int) - (1 : Int)))), x.2.1, x.2.2.1)) fun r2 => Option.bind (bif (decide ((Go.IntKind.wrap .i64 ((List.length r1 : Int) - (1 : Int))) ≥ (0 : Int))) then if (0 : Int) ≤ (Go.IntKind.wrap .i64 ((List.length r1 : Int) - (1 : Int))) then if (Go.IntKind.wrap .i64 ((List.length r1 : Int) - (1 : Int))) < (List.length r1 : Int) then Option.bind (bif (decide (((List.length (yj r1 (Go.IntKind.wrap .i64 ((List.length r1 : Int) - (1 : Int)))) : Nat) : Int) < (4 : Int))) then some true else some r2.2.2.2.2.2) fun u4 => some u4 else none else none else some false) fun u3 => bif u3 then if (0 : Int) ≤ (Go.IntKind.wrap .i64 ((List.length r1 : Int) - (1 : Int))) then if (Go.IntKind.wrap .i64 ((List.length r1 : Int) - (1 : Int))) < (List.length r1 : Int) then Option.bind (zo ((yj r1 (Go.IntKind.wrap .i64 ((List.length r1 : Int) - (1 : Int)))), x.2.1, x.2.2.1, x.2.2.2.1, x.2.2.2.2.1, x.2.2.2.2.2)) fun r5 => if (0 : Int) ≤ (Go.IntKind.wrap .i64 ((List.length r1 : Int) - (1 : Int))) then if (Go.IntKind.wrap .i64 ((List.length r1 : Int) - (1 : Int))) < (List.length r1 : Int) then Option.bind (zb (List.set r1 (Int.toNat (Go.IntKind.wrap .i64 ((List.length r1 : Int) - (1 : Int)))) r5)) fun r6 => bif r6 then some ((List.set r1 (Int.toNat (Go.IntKind.wrap .i64 ((List.length r1 : Int) - (1 : Int)))) r5), true) else Option.bind (yx x.1) fun r7 => Option.bind (zo (r7, x.2)) fun r8 => Option.bind (zN r8) fun r9 => bif (decide ((List.length r9 : Int) > (8 : Int))) then Option.bind (z4 x.1) fun r10 => some (r10, false) else Option.bind (yN r9) fun r11 => Option.bind (zb r11) fun r12 => bif (!r12) then Option.bind (z4 x.1) fun r13 => some (r13, false) else Option.bind (yN r9) fun r14 => some (r14, true) else none else none else none else none else if (List.length r1 + List.length ([([x.2] : List y8)] : List y9)) * 24 < 140737488355328 then Option.bind (zb (r1 ++ ([([x.2] : List y8)] : List y9))) fun r15 => bif r15 then some ((r1 ++ ([([x.2] : List y8)] : List y9)), true) else Option.bind (yx x.1) fun r16 => Option.bind (zo (r16, x.2)) fun r17 => Option.bind (zN r17) fun r18 => bif (decide ((List.length r18 : Int) > (8 : Int))) then Option.bind (z4 x.1) fun r19 => some (r19, false) else Option.bind (yN r18) fun r20 => Option.bind (zb r20) fun r21 => bif (!r21) then Option.bind (z4 x.1) fun r22 => some (r22, false) else Option.bind (yN r18) fun r23 => some (r23, true) else none else none else none else Option.bind (bif (decide ((Go.IntKind.wrap .i64 ((List.length r1 : Int) - (1 : Int))) ≥ (0 : Int))) then if (0 : Int) ≤ (Go.IntKind.wrap .i64 ((List.length r1 : Int) - (1 : Int))) then if (Go.IntKind.wrap .i64 ((List.length r1 : Int) - (1 : Int))) < (List.length r1 : Int) then Option.bind (bif (decide (((List.length (yj r1 (Go.IntKind.wrap .i64 ((List.length r1 : Int) - (1 : Int)))) : Nat) : Int) < (4 : Int))) then some true else some false) fun u25 => some u25 else none else none else some false) fun u24 => bif u24 then if (0 : Int) ≤ (Go.IntKind.wrap .i64 ((List.length r1 : Int) - (1 : Int))) then if (Go.IntKind.wrap .i64 ((List.length r1 : Int) - (1 : Int))) < (List.length r1 : Int) then Option.bind (zo ((yj r1 (Go.IntKind.wrap .i64 ((List.length r1 : Int) - (1 : Int)))), x.2.1, x.2.2.1, x.2.2.2.1, x.2.2.2.2.1, x.2.2.2.2.2)) fun r26 => if (0 : Int) ≤ (Go.IntKind.wrap .i64 ((List.length r1 : Int) - (1 : Int))) then if (Go.IntKind.wrap .i64 ((List.length r1 : Int) - (1 : Int))) < (List.length r1 : Int) then Option.bind (zb (List.set r1 (Int.toNat (Go.IntKind.wrap .i64 ((List.length r1 : Int) - (1 : Int)))) r26)) fun r27 => bif r27 then some ((List.set r1 (Int.toNat (Go.IntKind.wrap .i64 ((List.length r1 : Int) - (1 : Int)))) r26), true) else Option.bind (yx x.1) fun r28 => Option.bind (zo (r28, x.2)) fun r29 => Option.bind (zN r29) fun r30 => bif (decide ((List.length r30 : Int) > (8 : Int))) then Option.bind (z4 x.1) fun r31 => some (r31, false) else Option.bind (yN r30) fun r32 => Option.bind (zb r32) fun r33 => bif (!r33) then Option.bind (z4 x.1) fun r34 => some (r34, false) else Option.bind (yN r30) fun r35 => some (r35, true) else none else none else none else none else if (List.length r1 + List.length ([([x.2] : List y8)] : List y9)) * 24 < 140737488355328 then Option.bind (zb (r1 ++ ([([x.2] : List y8)] : List y9))) fun r36 => bif r36 then some ((r1 ++ ([([x.2] : List y8)] : List y9)), true) else Option.bind (yx x.1) fun r37 => Option.bind (zo (r37, x.2)) fun r38 => Option.bind (zN r38) fun r39 => bif (decide ((List.length r39 : Int) > (8 : Int))) then Option.bind (z4 x.1) fun r40 => some (r40, false) else Option.bind (yN r39) fun r41 => Option.bind (zb r41) fun r42 => bif (!r42) then Option.bind (z4 x.1) fun r43 => some (r43, false) else Option.bind (yN r39) fun r44 => some (r44, true) else none
theorem yuJ : EV [yxR, ykI, ytT, ytX, yuI, yxZ, yy8] lpN 233 Tryz.f233 ynP yi2 yll JC := fun x => by kernel_rfl
def yA4 : QF := ⟨233, JC, okN (n := 0) Tryz.func233 trivial yuJ⟩
def jF (x : ysE) : Option y3Y :=
 if (0 : Int) ≤ (0 : Int) then if (0 : Int) ≤ x.2.2.1 then if x.2.2.1 ≤ (List.length x.1 : Int) then if (List.length ([] : List yh) + List.length (List.drop (Int.toNat (0 : Int)) (List.take (Int.toNat x.2.2.1) x.1))) * 8 < 140737488355328 then if (List.length (([] : List yh) ++ (List.drop (Int.toNat (0 : Int)) (List.take (Int.toNat x.2.2.1) x.1))) + List.length x.2.2.2.1) * 8 < 140737488355328 then if (0 : Int) ≤ (Go.IntKind.wrap .i64 (x.2.2.1 + (1 : Int))) then if (Go.IntKind.wrap .i64 (x.2.2.1 + (1 : Int))) ≤ (List.length x.1 : Int) then if (List.length x.1 : Int) ≤ (List.length x.1 : Int) then if (List.length ((([] : List yh) ++ (List.drop (Int.toNat (0 : Int)) (List.take (Int.toNat x.2.2.1) x.1))) ++ x.2.2.2.1) + List.length (List.drop (Int.toNat (Go.IntKind.wrap .i64 (x.2.2.1 + (1 : Int)))) (List.take (Int.toNat (List.length x.1 : Int)) x.1))) * 8 < 140737488355328 then if (0 : Int) ≤ (0 : Int) then if (0 : Int) ≤ x.2.2.1 then if x.2.2.1 ≤ (List.length x.2.1 : Int) then if (List.length ([] : List y7) + List.length (List.drop (Int.toNat (0 : Int)) (List.take (Int.toNat x.2.2.1) x.2.1))) * 24 < 140737488355328 then if (List.length (([] : List y7) ++ (List.drop (Int.toNat (0 : Int)) (List.take (Int.toNat x.2.2.1) x.2.1))) + List.length x.2.2.2.2) * 24 < 140737488355328 then if (0 : Int) ≤ (Go.IntKind.wrap .i64 (x.2.2.1 + (1 : Int))) then if (Go.IntKind.wrap .i64 (x.2.2.1 + (1 : Int))) ≤ (List.length x.2.1 : Int) then if (List.length x.2.1 : Int) ≤ (List.length x.2.1 : Int) then if (List.length ((([] : List y7) ++ (List.drop (Int.toNat (0 : Int)) (List.take (Int.toNat x.2.2.1) x.2.1))) ++ x.2.2.2.2) + List.length (List.drop (Int.toNat (Go.IntKind.wrap .i64 (x.2.2.1 + (1 : Int)))) (List.take (Int.toNat (List.length x.2.1 : Int)) x.2.1))) * 24 < 140737488355328 then some ((((([] : List yh) ++ (List.drop (Int.toNat (0 : Int)) (List.take (Int.toNat x.2.2.1) x.1))) ++ x.2.2.2.1) ++ (List.drop (Int.toNat (Go.IntKind.wrap .i64 (x.2.2.1 + (1 : Int)))) (List.take (Int.toNat (List.length x.1 : Int)) x.1))), (((([] : List y7) ++ (List.drop (Int.toNat (0 : Int)) (List.take (Int.toNat x.2.2.1) x.2.1))) ++ x.2.2.2.2) ++ (List.drop (Int.toNat (Go.IntKind.wrap .i64 (x.2.2.1 + (1 : Int)))) (List.take (Int.toNat (List.length x.2.1 : Int)) x.2.1)))) else none else none else none else none else none else none else none else none else none else none else none else none else none else none else none else none else none else none
theorem yuK : EV [] lpN 234 Tryz.f234 ynQ ysF WA jF := fun x => by kernel_rfl
def yA5 : QF := ⟨234, jF, okN (n := 0) Tryz.func234 trivial yuK⟩
abbrev v6 : Type := y9b
def W3 (k0 : Int → Option R) (k1 : Unit → Option R) (again : v6 → Option R) (t2 : v6) : Option R :=
 bif (decide ((Go.IntKind.wrap .i64 (t2.1 + (1 : Int))) < (List.length t2.2.2 : Int))) then if (0 : Int) ≤ t2.1 then if t2.1 < (List.length t2.2.2 : Int) then Option.bind (yx (ya t2.2.2 t2.1)) fun r1 => if (0 : Int) ≤ (Go.IntKind.wrap .i64 (t2.1 + (1 : Int))) then if (Go.IntKind.wrap .i64 (t2.1 + (1 : Int))) < (List.length t2.2.2 : Int) then Option.bind (yx (ya t2.2.2 (Go.IntKind.wrap .i64 (t2.1 + (1 : Int))))) fun r2 => bif (decide ((Go.IntKind.wrap .i64 ((List.length r1 : Int) + (List.length r2 : Int))) ≤ (6 : Int))) then k0 t2.1 else again ((Go.IntKind.wrap .i64 (t2.1 + (1 : Int))), t2.2.1, t2.2.2) else none else none else none else none else k1 ()
def Q5 k0 k1 := zt (@W3 R k0 k1) zJ
def J9 (x : y3Y) : Option Int :=
 Q5 (fun x3 => some x3) (fun x4 => some (-1 : Int)) ((0 : Int), x.1, x.2)
def yjl : List QF := [ykI]
def y6e (t : y9b) : St := ⟨.dead :: .box 1 0 :: .dead :: vI t.1 :: dd 26 [], [(1, .box [ze t.2.1, yC t.2.2])]⟩
def ygV : Gk v6 := fun κ => W3 (fun t => κ none ⟨dd 2 (vI t :: dd 27 []), []⟩) (fun t => κ (some 0) ⟨dd 30 [], []⟩)
def yjm : Lp := lpC 2 (unG yei y6e) @ygV lpN
theorem yqH : LF yjl yjm 268 2 Tryz.f268 0 y6e @ygV fun t => t := fun R κ again t => by kernel_rfl
theorem yqI : LK yjl yjm 268 Tryz.f268 0 := lkN (u := (unG yei y6e)) (ym fun t => by kernel_rfl) yqH
theorem yuL : EV yjl yjm 268 Tryz.f268 ynR WA [(.int .i64)] J9 := fun x => by kernel_rfl
def yA6 : QF := ⟨268, J9, okN (n := 1) Tryz.func268 ⟨yqI, trivial⟩ yuL⟩
abbrev v7 : Type := y9b
def W4 (k0 : y3Y → Option R) (again : v7 → Option R) (t2 : v7) : Option R :=
 bif (decide (t2.1 ≥ (0 : Int))) then if (0 : Int) ≤ t2.1 then if t2.1 < (List.length t2.2.2 : Int) then Option.bind (yx (ya t2.2.2 t2.1)) fun r2 => if (0 : Int) ≤ (Go.IntKind.wrap .i64 (t2.1 + (1 : Int))) then if (Go.IntKind.wrap .i64 (t2.1 + (1 : Int))) < (List.length t2.2.2 : Int) then Option.bind (yx (ya t2.2.2 (Go.IntKind.wrap .i64 (t2.1 + (1 : Int))))) fun r3 => if (List.length r2 + List.length r3) * 40 < 140737488355328 then if (0 : Int) ≤ (0 : Int) then if (0 : Int) ≤ (Go.IntKind.wrap .i64 (t2.1 + (1 : Int))) then if (Go.IntKind.wrap .i64 (t2.1 + (1 : Int))) ≤ (List.length t2.2.1 : Int) then if (List.length ([] : List yh) + List.length (List.drop (Int.toNat (0 : Int)) (List.take (Int.toNat (Go.IntKind.wrap .i64 (t2.1 + (1 : Int)))) t2.2.1))) * 8 < 140737488355328 then if (0 : Int) ≤ (Go.IntKind.wrap .i64 (t2.1 + (2 : Int))) then if (Go.IntKind.wrap .i64 (t2.1 + (2 : Int))) ≤ (List.length t2.2.1 : Int) then if (List.length t2.2.1 : Int) ≤ (List.length t2.2.1 : Int) then if (List.length (([] : List yh) ++ (List.drop (Int.toNat (0 : Int)) (List.take (Int.toNat (Go.IntKind.wrap .i64 (t2.1 + (1 : Int)))) t2.2.1))) + List.length (List.drop (Int.toNat (Go.IntKind.wrap .i64 (t2.1 + (2 : Int)))) (List.take (Int.toNat (List.length t2.2.1 : Int)) t2.2.1))) * 8 < 140737488355328 then if (0 : Int) ≤ (0 : Int) then if (0 : Int) ≤ t2.1 then if t2.1 ≤ (List.length t2.2.2 : Int) then if (List.length ([] : List y7) + List.length (List.drop (Int.toNat (0 : Int)) (List.take (Int.toNat t2.1) t2.2.2))) * 24 < 140737488355328 then Option.bind (yN (r2 ++ r3)) fun r4 => if (List.length (([] : List y7) ++ (List.drop (Int.toNat (0 : Int)) (List.take (Int.toNat t2.1) t2.2.2))) + List.length ([r4] : List y7)) * 24 < 140737488355328 then if (0 : Int) ≤ (Go.IntKind.wrap .i64 (t2.1 + (2 : Int))) then if (Go.IntKind.wrap .i64 (t2.1 + (2 : Int))) ≤ (List.length t2.2.2 : Int) then if (List.length t2.2.2 : Int) ≤ (List.length t2.2.2 : Int) then if (List.length ((([] : List y7) ++ (List.drop (Int.toNat (0 : Int)) (List.take (Int.toNat t2.1) t2.2.2))) ++ ([r4] : List y7)) + List.length (List.drop (Int.toNat (Go.IntKind.wrap .i64 (t2.1 + (2 : Int)))) (List.take (Int.toNat (List.length t2.2.2 : Int)) t2.2.2))) * 24 < 140737488355328 then Option.bind (J9 (((([] : List yh) ++ (List.drop (Int.toNat (0 : Int)) (List.take (Int.toNat (Go.IntKind.wrap .i64 (t2.1 + (1 : Int)))) t2.2.1))) ++ (List.drop (Int.toNat (Go.IntKind.wrap .i64 (t2.1 + (2 : Int)))) (List.take (Int.toNat (List.length t2.2.1 : Int)) t2.2.1))), (((([] : List y7) ++ (List.drop (Int.toNat (0 : Int)) (List.take (Int.toNat t2.1) t2.2.2))) ++ ([r4] : List y7)) ++ (List.drop (Int.toNat (Go.IntKind.wrap .i64 (t2.1 + (2 : Int)))) (List.take (Int.toNat (List.length t2.2.2 : Int)) t2.2.2))))) fun r5 => again (r5, ((([] : List yh) ++ (List.drop (Int.toNat (0 : Int)) (List.take (Int.toNat (Go.IntKind.wrap .i64 (t2.1 + (1 : Int)))) t2.2.1))) ++ (List.drop (Int.toNat (Go.IntKind.wrap .i64 (t2.1 + (2 : Int)))) (List.take (Int.toNat (List.length t2.2.1 : Int)) t2.2.1))), (((([] : List y7) ++ (List.drop (Int.toNat (0 : Int)) (List.take (Int.toNat t2.1) t2.2.2))) ++ ([r4] : List y7)) ++ (List.drop (Int.toNat (Go.IntKind.wrap .i64 (t2.1 + (2 : Int)))) (List.take (Int.toNat (List.length t2.2.2 : Int)) t2.2.2)))) else none else none else none else none else none else none else none else none else none else none else none else none else none else none else none else none else none else none else none else none else none else none else k0 t2.2
def Q6 k0 := zt (@W4 R k0) zJ
def YP (x : y3Y) : Option y3Y :=
 Option.bind (J9 x) fun r1 => Q6 (fun x6 => some x6) (r1, x)
def yjn : List QF := [ykI, yuI, yA6]
def y6f (t : y9b) : St := ⟨.dead :: .box 1 0 :: .box 2 0 :: vI t.1 :: dd 56 [], [(1, .box [ze t.2.1, yC t.2.2]), (2, .box [.nils, .nils])]⟩
def ygW : Gk v7 := fun κ => W4 (fun t => κ (some 0) ⟨.dead :: .box 1 0 :: .box 2 0 :: dd 57 [], [(1, .box [ze t.1, yC t.2]), (2, .box [.nils, .nils])]⟩)
def yjo : Lp := lpC 2 (unG yei y6f) @ygW lpN
theorem yqJ : LF yjn yjo 239 2 Tryz.f239 0 y6f @ygW fun t => t := fun R κ again t => by kernel_rfl
theorem yqK : LK yjn yjo 239 Tryz.f239 0 := lkN (u := (unG yei y6f)) (ym fun t => by kernel_rfl) yqJ
theorem yuM : EV yjn yjo 239 Tryz.f239 ynS WA WA YP := fun x => by kernel_rfl
def yA7 : QF := ⟨239, YP, okN (n := 1) Tryz.func239 ⟨yqK, trivial⟩ yuM⟩
def Y3 (x : ylm) : Option ylo :=
 Option.bind (ZA (x.1, x.2.1)) fun r1 => Option.bind (Y2 (x.1, x.2.1)) fun r2 => Option.bind (bif (!r2) then some true else Option.bind (wc x.2.2) fun r4 => some (!r4)) fun u3 => bif u3 then some (r1.1, r1.2, false) else Option.bind (jc (x.1, x.2.1, x.2.2.1, x.2.2.2.1)) fun r5 => if (0 : Int) ≤ r5 then if r5 < (List.length x.2.1 : Int) then Option.bind (JC ((ya x.2.1 r5), x.2.2.1, x.2.2.2.1, x.2.2.2.2.1, x.2.2.2.2.2.1, x.2.2.2.2.2.2)) fun r6 => if (0 : Int) ≤ r5 then if r5 < (List.length x.1 : Int) then Option.bind (jF (r1.1, r1.2, r5, ([(z9 x.1 r5)] : List yh), ([r6.1] : List y7))) fun r7 => bif (!r6.2) then if (0 : Int) ≤ r5 then if r5 < (List.length x.2.1 : Int) then Option.bind (yx (ya x.2.1 r5)) fun r8 => Option.bind (zo (r8, x.2.2)) fun r9 => Option.bind (zN r9) fun r10 => if (0 : Int) ≤ r5 then if r5 < (List.length x.1 : Int) then if (0 : Int) ≤ (Go.IntKind.wrap .i64 (Int.tdiv (Go.IntKind.wrap .i64 ((List.length r10 : Int) + (1 : Int))) (2 : Int))) then if (Go.IntKind.wrap .i64 (Int.tdiv (Go.IntKind.wrap .i64 ((List.length r10 : Int) + (1 : Int))) (2 : Int))) < (List.length r10 : Int) then Option.bind (J3 ((y0 r10 (Go.IntKind.wrap .i64 (Int.tdiv (Go.IntKind.wrap .i64 ((List.length r10 : Int) + (1 : Int))) (2 : Int)))).1, (y0 r10 (Go.IntKind.wrap .i64 (Int.tdiv (Go.IntKind.wrap .i64 ((List.length r10 : Int) + (1 : Int))) (2 : Int)))).2.1, (y0 r10 (Go.IntKind.wrap .i64 (Int.tdiv (Go.IntKind.wrap .i64 ((List.length r10 : Int) + (1 : Int))) (2 : Int)))).2.2.1, (y0 r10 (Go.IntKind.wrap .i64 (Int.tdiv (Go.IntKind.wrap .i64 ((List.length r10 : Int) + (1 : Int))) (2 : Int)))).2.2.2.1, (y0 r10 (Go.IntKind.wrap .i64 (Int.tdiv (Go.IntKind.wrap .i64 ((List.length r10 : Int) + (1 : Int))) (2 : Int)))).2.2.2.2)) fun r11 => if (0 : Int) ≤ (0 : Int) then if (0 : Int) ≤ (Go.IntKind.wrap .i64 (Int.tdiv (Go.IntKind.wrap .i64 ((List.length r10 : Int) + (1 : Int))) (2 : Int))) then if (Go.IntKind.wrap .i64 (Int.tdiv (Go.IntKind.wrap .i64 ((List.length r10 : Int) + (1 : Int))) (2 : Int))) ≤ (List.length r10 : Int) then Option.bind (yN (List.drop (Int.toNat (0 : Int)) (List.take (Int.toNat (Go.IntKind.wrap .i64 (Int.tdiv (Go.IntKind.wrap .i64 ((List.length r10 : Int) + (1 : Int))) (2 : Int)))) r10))) fun r12 => if (0 : Int) ≤ (Go.IntKind.wrap .i64 (Int.tdiv (Go.IntKind.wrap .i64 ((List.length r10 : Int) + (1 : Int))) (2 : Int))) then if (Go.IntKind.wrap .i64 (Int.tdiv (Go.IntKind.wrap .i64 ((List.length r10 : Int) + (1 : Int))) (2 : Int))) ≤ (List.length r10 : Int) then if (List.length r10 : Int) ≤ (List.length r10 : Int) then Option.bind (yN (List.drop (Int.toNat (Go.IntKind.wrap .i64 (Int.tdiv (Go.IntKind.wrap .i64 ((List.length r10 : Int) + (1 : Int))) (2 : Int)))) (List.take (Int.toNat (List.length r10 : Int)) r10))) fun r13 => Option.bind (jF (r1.1, r1.2, r5, ([(z9 x.1 r5), r11] : List yh), ([r12, r13] : List y7))) fun r14 => Option.bind (YP r14) fun r15 => Option.bind (Y2 r15) fun r16 => bif (!r16) then some (r1.1, r1.2, false) else some (r15.1, r15.2, true) else none else none else none else none else none else none else none else none else none else none else none else none else Option.bind (bif (decide (r5 > (0 : Int))) then Option.bind (yx r6.1) fun r18 => some ((List.length r18 : Int) == (0 : Int)) else some false) fun u17 => bif u17 then Option.bind (jF (r1.1, r1.2, r5, ([] : List yh), ([] : List y7))) fun r19 => Option.bind (YP r19) fun r20 => Option.bind (Y2 r20) fun r21 => bif (!r21) then some (r1.1, r1.2, false) else some (r20.1, r20.2, true) else Option.bind (YP r7) fun r22 => Option.bind (Y2 r22) fun r23 => bif (!r23) then some (r1.1, r1.2, false) else some (r22.1, r22.2, true) else none else none else none else none
theorem yuN : EV [yy0, yxS, yxY, ykI, yy7, yA4, yA5, ytT, ytX, yxX, yuI, yA7] lpN 190 Tryz.f190 ynT yln ylp Y3 := fun x => by kernel_rfl
def yya : QF := ⟨190, Y3, okN (n := 0) Tryz.func190 trivial yuN⟩
def jG (x : ys8) : Option (List yg) :=
 Option.bind (ZB x.1) fun r1 => Option.bind (jb x.1) fun r2 => Option.bind (bif r2 then Option.bind (z3 (x.2, (0 : Int), (Go.IntKind.wrap .i64 ((List.length x.1 : Int) - (1 : Int))))) fun r4 => some r4 else some false) fun u3 => Option.bind (bif u3 then if (0 : Int) ≤ x.2 then if x.2 < (List.length x.1 : Int) then some ((zw x.1 x.2).2.1) else none else none else some false) fun u5 => bif u5 then if (0 : Int) ≤ x.2 then if x.2 < (List.length x.1 : Int) then if (0 : Int) ≤ x.2 then if x.2 < (List.length r1 : Int) then some (List.set r1 (Int.toNat x.2) ((Int.tmod (Go.IntKind.wrap .i64 ((zw x.1 x.2).1 + (1 : Int))) (1000 : Int)), false, (0 : Int))) else none else none else none else none else some r1
theorem yuO : EV [ydl, yy2, yxT] lpN 287 Tryz.f287 ynU ys9 [(.sl 95 yn)] jG := fun x => by kernel_rfl
def yA8 : QF := ⟨287, jG, okN (n := 0) Tryz.func287 trivial yuO⟩
def kh (x : ysG) : Option y2s :=
 Option.bind (bif x.2.2.2.2.2.2.2.2.2.2.2 then some (x.2.2.2.2.2.2.2.2.1 == (1 : Int)) else some false) fun u1 => bif u1 then Option.bind (jG (x.2.2.2.1, x.2.2.2.2.2.2.2.2.2.1)) fun r2 => some (x.1, x.2.1, x.2.2.1, r2, x.2.2.2.2.1, x.2.2.2.2.2.1) else some (x.1, x.2.1, x.2.2.1, x.2.2.2.1, x.2.2.2.2.1, x.2.2.2.2.2.1)
theorem yuP : EV [yA8] lpN 263 Tryz.f263 ynV ysH WB kh := fun x => by kernel_rfl
def yA9 : QF := ⟨263, kh, okN (n := 0) Tryz.func263 trivial yuP⟩
def Kf (x : ykG) : Option ygb :=
 Option.bind (J8 (x.1, x.2.1, x.2.2.2.2.2.2.1, x.2.2.2.2.2.2.2.1)) fun r1 => Option.bind (Y3 (x.1, x.2.1, x.2.2.2.2.2.2)) fun r2 => bif (!r2.2.2) then some (false, x.1, x.2.1, x.2.2.1, x.2.2.2.1, x.2.2.2.2.1, x.2.2.2.2.2.1) else Option.bind (kh (r2.1, r2.2.1, x.2.2.1, x.2.2.2.1, x.2.2.2.2.1, x.2.2.2.2.2.1, r1)) fun r3 => some (true, r3)
theorem yuQ : EV [yya, yy9, yA9] lpN 231 Tryz.f231 ynW ykH ysc Kf := fun x => by kernel_rfl
def yAa : QF := ⟨231, Kf, okN (n := 0) Tryz.func231 trivial yuQ⟩
def Z3 (x : ykG) : Option ygb :=
 Option.bind (Kf (x.1, x.2.1, x.2.2.1, x.2.2.2.1, x.2.2.2.2.1, x.2.2.2.2.2.1, x.2.2.2.2.2.2.1, x.2.2.2.2.2.2.2.1, (0 : Int), (0 : Int), (0 : Int))) fun r1 => some r1
theorem yuR : EV [yAa] lpN 189 Tryz.f189 ynX ykH ysc Z3 := fun x => by kernel_rfl
def yAb : QF := ⟨189, Z3, okN (n := 0) Tryz.func189 trivial yuR⟩
abbrev v8 : Type := ylq
def W5 (k0 : List yf → Option R) (again : v8 → Option R) (t6 : v8) : Option R :=
 bif (decide (t6.2.2.2.1 < (List.length t6.1 : Int))) then if (0 : Int) ≤ t6.2.2.2.1 then if t6.2.2.2.1 < (List.length t6.1 : Int) then bif ((yD t6.1 t6.2.2.2.1).2 == t6.2.1) then if (0 : Int) ≤ t6.2.2.1 then if t6.2.2.1 < (List.length t6.1 : Int) then bif (t6.2.2.2.1 != t6.2.2.1) then if (List.length t6.2.2.2.2 + List.length ([((yD t6.1 t6.2.2.2.1).1, (yD t6.1 t6.2.2.1).2)] : List yf)) * 16 < 140737488355328 then again (t6.1, t6.2.1, t6.2.2.1, (Go.IntKind.wrap .i64 (t6.2.2.2.1 + (1 : Int))), (t6.2.2.2.2 ++ ([((yD t6.1 t6.2.2.2.1).1, (yD t6.1 t6.2.2.1).2)] : List yf))) else none else again (t6.1, t6.2.1, t6.2.2.1, (Go.IntKind.wrap .i64 (t6.2.2.2.1 + (1 : Int))), t6.2.2.2.2) else none else none else bif (t6.2.2.2.1 != t6.2.2.1) then if (List.length t6.2.2.2.2 + List.length ([((yD t6.1 t6.2.2.2.1).1, (yD t6.1 t6.2.2.2.1).2)] : List yf)) * 16 < 140737488355328 then again (t6.1, t6.2.1, t6.2.2.1, (Go.IntKind.wrap .i64 (t6.2.2.2.1 + (1 : Int))), (t6.2.2.2.2 ++ ([((yD t6.1 t6.2.2.2.1).1, (yD t6.1 t6.2.2.2.1).2)] : List yf))) else none else again (t6.1, t6.2.1, t6.2.2.1, (Go.IntKind.wrap .i64 (t6.2.2.2.1 + (1 : Int))), t6.2.2.2.2) else none else none else k0 t6.2.2.2.2
def Q7 k0 := zt (@W5 R k0) zJ
def Ja (x : yd8) : Option ys7 :=
 Option.bind (Y7 x) fun r1 => Option.bind (bif (decide (r1 < (0 : Int))) then some true else Option.bind (J4 x.1) fun r3 => some (!r3)) fun u2 => bif u2 then if (List.length ([] : List yf) + List.length x.1) * 16 < 140737488355328 then some ((([] : List yf) ++ x.1), false) else none else Q7 (fun x4 => some (x4, true)) (x.1, x.2, r1, (0 : Int), ([] : List yf))
def yjp : List QF := [yy1, yq1]
def y6g (t : ylq) : St := ⟨zu t.1 :: vI t.2.1 :: dd 4 (vI t.2.2.1 :: .own 10000000 :: vI t.2.2.2.1 :: dd 43 []), [(10000000, .root true 89 yo t.2.2.2.2)]⟩
def ygX : Gk v8 := fun κ => W5 (fun t => κ (some 0) ⟨dd 7 (.own 10000000 :: dd 44 []), [(10000000, .root true 89 yo t)]⟩)
def yjq : Lp := lpC 6 (unG ylr y6g) @ygX lpN
theorem yqL : LF yjp yjq 192 6 Tryz.f192 0 y6g @ygX fun t => t := fun R κ again t => by kernel_rfl
theorem yqM : LK yjp yjq 192 Tryz.f192 0 := lkN (u := (unG ylr y6g)) (ym fun t => by kernel_rfl) yqL
theorem yuS : EV yjp yjq 192 Tryz.f192 ynY yd9 yx6 Ja := fun x => by kernel_rfl
def yAc : QF := ⟨192, Ja, okN (n := 1) Tryz.func192 ⟨yqM, trivial⟩ yuS⟩
def zT (x : y2s) : Option yls :=
 Option.bind (z8 x) fun r1 => Option.bind (jE x) fun r2 => Option.bind (yJ (x.1, x.2.1)) fun r3 => bif (r2.1 == (1 : Int)) then bif (r2.1 == (1 : Int)) then if (0 : Int) ≤ r2.2 then if r2.2 < (List.length r3 : Int) then Option.bind (Z3 (r1.1, r1.2.1, r1.2.2.1, r1.2.2.2.1, r1.2.2.2.2.1, r1.2.2.2.2.2, (y0 r3 r2.2).1, (y0 r3 r2.2).2.1, (y0 r3 r2.2).2.2.1, (y0 r3 r2.2).2.2.2.1, (y0 r3 r2.2).2.2.2.2)) fun r4 => Option.bind (bif (!r4.1) then some true else Option.bind (z5 r4.2) fun r6 => some (!r6)) fun u5 => bif u5 then Option.bind (z8 x) fun r7 => some (r7.1, r7.2.1, r7.2.2.1, r7.2.2.2.1, r7.2.2.2.2.1, r7.2.2.2.2.2, false) else some (r4.2.1, r4.2.2.1, r4.2.2.2.1, r4.2.2.2.2.1, r4.2.2.2.2.2.1, r4.2.2.2.2.2.2, true) else none else none else bif (r2.1 == (3 : Int)) then if (0 : Int) ≤ r2.2 then if r2.2 < (List.length r3 : Int) then Option.bind (Y3 (r1.1, r1.2.1, (y0 r3 r2.2).1, (y0 r3 r2.2).2.1, (0 : Int), (0 : Int), (0 : Int))) fun r8 => Option.bind (YN (x.1, x.2.1, x.2.2.1, x.2.2.2.1, x.2.2.2.2.1, x.2.2.2.2.2, (y0 r3 r2.2).2.1)) fun r9 => Option.bind (Y3 (r8.1, r8.2.1, (y0 r3 r2.2).1, r9, (y0 r3 r2.2).2.2.1, (y0 r3 r2.2).2.2.2.1, (y0 r3 r2.2).2.2.2.2)) fun r10 => Option.bind (bif r8.2.2 then some r10.2.2 else some false) fun u11 => Option.bind (bif (!u11) then some true else Option.bind (z5 (r10.1, r10.2.1, r1.2.2)) fun r13 => some (!r13)) fun u12 => bif u12 then Option.bind (z8 x) fun r14 => some (r14.1, r14.2.1, r14.2.2.1, r14.2.2.2.1, r14.2.2.2.2.1, r14.2.2.2.2.2, false) else some (r10.1, r10.2.1, r1.2.2.1, r1.2.2.2.1, r1.2.2.2.2.1, r1.2.2.2.2.2, true) else none else none else bif (r2.1 == (4 : Int)) then if (0 : Int) ≤ r2.2 then if r2.2 < (List.length x.2.2.1 : Int) then Option.bind (Ja (x.2.2.1, (yD x.2.2.1 r2.2).1)) fun r15 => Option.bind (bif (!r15.2) then some true else Option.bind (z5 (r1.1, r1.2.1, r15.1, r1.2.2.2)) fun r17 => some (!r17)) fun u16 => bif u16 then Option.bind (z8 x) fun r18 => some (r18.1, r18.2.1, r18.2.2.1, r18.2.2.2.1, r18.2.2.2.2.1, r18.2.2.2.2.2, false) else some (r1.1, r1.2.1, r15.1, r1.2.2.2.1, r1.2.2.2.2.1, r1.2.2.2.2.2, true) else none else none else Option.bind (bif (!(r2.1 != (0 : Int))) then some true else Option.bind (z5 r1) fun r20 => some (!r20)) fun u19 => bif u19 then Option.bind (z8 x) fun r21 => some (r21.1, r21.2.1, r21.2.2.1, r21.2.2.2.1, r21.2.2.2.2.1, r21.2.2.2.2.2, false) else some (r1.1, r1.2.1, r1.2.2.1, r1.2.2.2.1, r1.2.2.2.2.1, r1.2.2.2.2.2, true) else bif (r2.1 == (2 : Int)) then if (0 : Int) ≤ r2.2 then if r2.2 < (List.length r3 : Int) then Option.bind (Z3 (r1.1, r1.2.1, r1.2.2.1, r1.2.2.2.1, r1.2.2.2.2.1, r1.2.2.2.2.2, (y0 r3 r2.2).1, (y0 r3 r2.2).2.1, (y0 r3 r2.2).2.2.1, (y0 r3 r2.2).2.2.2.1, (y0 r3 r2.2).2.2.2.2)) fun r22 => Option.bind (bif (!r22.1) then some true else Option.bind (z5 r22.2) fun r24 => some (!r24)) fun u23 => bif u23 then Option.bind (z8 x) fun r25 => some (r25.1, r25.2.1, r25.2.2.1, r25.2.2.2.1, r25.2.2.2.2.1, r25.2.2.2.2.2, false) else some (r22.2.1, r22.2.2.1, r22.2.2.2.1, r22.2.2.2.2.1, r22.2.2.2.2.2.1, r22.2.2.2.2.2.2, true) else none else none else bif (r2.1 == (3 : Int)) then if (0 : Int) ≤ r2.2 then if r2.2 < (List.length r3 : Int) then Option.bind (Y3 (r1.1, r1.2.1, (y0 r3 r2.2).1, (y0 r3 r2.2).2.1, (0 : Int), (0 : Int), (0 : Int))) fun r26 => Option.bind (YN (x.1, x.2.1, x.2.2.1, x.2.2.2.1, x.2.2.2.2.1, x.2.2.2.2.2, (y0 r3 r2.2).2.1)) fun r27 => Option.bind (Y3 (r26.1, r26.2.1, (y0 r3 r2.2).1, r27, (y0 r3 r2.2).2.2.1, (y0 r3 r2.2).2.2.2.1, (y0 r3 r2.2).2.2.2.2)) fun r28 => Option.bind (bif r26.2.2 then some r28.2.2 else some false) fun u29 => Option.bind (bif (!u29) then some true else Option.bind (z5 (r28.1, r28.2.1, r1.2.2)) fun r31 => some (!r31)) fun u30 => bif u30 then Option.bind (z8 x) fun r32 => some (r32.1, r32.2.1, r32.2.2.1, r32.2.2.2.1, r32.2.2.2.2.1, r32.2.2.2.2.2, false) else some (r28.1, r28.2.1, r1.2.2.1, r1.2.2.2.1, r1.2.2.2.2.1, r1.2.2.2.2.2, true) else none else none else bif (r2.1 == (4 : Int)) then if (0 : Int) ≤ r2.2 then if r2.2 < (List.length x.2.2.1 : Int) then Option.bind (Ja (x.2.2.1, (yD x.2.2.1 r2.2).1)) fun r33 => Option.bind (bif (!r33.2) then some true else Option.bind (z5 (r1.1, r1.2.1, r33.1, r1.2.2.2)) fun r35 => some (!r35)) fun u34 => bif u34 then Option.bind (z8 x) fun r36 => some (r36.1, r36.2.1, r36.2.2.1, r36.2.2.2.1, r36.2.2.2.2.1, r36.2.2.2.2.2, false) else some (r1.1, r1.2.1, r33.1, r1.2.2.2.1, r1.2.2.2.2.1, r1.2.2.2.2.2, true) else none else none else Option.bind (bif (!(r2.1 != (0 : Int))) then some true else Option.bind (z5 r1) fun r38 => some (!r38)) fun u37 => bif u37 then Option.bind (z8 x) fun r39 => some (r39.1, r39.2.1, r39.2.2.1, r39.2.2.2.1, r39.2.2.2.2.1, r39.2.2.2.2.2, false) else some (r1.1, r1.2.1, r1.2.2.1, r1.2.2.2.1, r1.2.2.2.2.1, r1.2.2.2.2.2, true)
theorem yuT : EV [q47, yxU, yA3, ykJ, yAb, yya, yy6, yAc] lpN 115 Tryz.f115 ynZ WB ylt zT := fun x => by kernel_rfl
def yAd : QF := ⟨115, zT, okN (n := 0) Tryz.func115 trivial yuT⟩
abbrev W6 : Type := ybY ⊕ y9c
def W7 (k0 : Int → Option R) (k1 : Unit → Option R) (again : W6 → Option R) : W6 → Option R
 | .inl t3 => bif (decide (t3.1 < (1000 : Int))) then Option.bind (zT (t3.2.2.1, t3.2.2.2.1, t3.2.2.2.2.1, t3.2.2.2.2.2.1, t3.2.2.2.2.2.2, t3.2.1)) fun r2 => bif (!r2.2.2.2.2.2.2) then k0 t3.1 else again (Sum.inr ((Go.IntKind.wrap .i64 (t3.1 + (1 : Int))), r2.1, r2.2.1, r2.2.2.1, r2.2.2.2.1, r2.2.2.2.2.1, r2.2.2.2.2.2.1)) else k1 ()
 | .inr t3 => bif (decide (t3.1 < (1000 : Int))) then Option.bind (zT t3.2) fun r3 => bif (!r3.2.2.2.2.2.2) then k0 t3.1 else again (Sum.inr ((Go.IntKind.wrap .i64 (t3.1 + (1 : Int))), r3.1, r3.2.1, r3.2.2.1, r3.2.2.2.1, r3.2.2.2.2.1, r3.2.2.2.2.2.1)) else k1 ()
def vQ k0 k1 := zt (@W7 R k0 k1) zJ
def ZQ (x : y2s) : Option Int :=
 Option.bind (z8 x) fun r1 => vQ (fun x4 => some x4) (fun x5 => some (1000 : Int)) (Sum.inl ((0 : Int), r1.2.2.2.2.2, r1.1, r1.2.1, r1.2.2.1, r1.2.2.2.1, r1.2.2.2.2.1))
def yqN : List QF := [yxU, yAd]
def y6h (t : ybY) : St := ⟨dd 3 (.box 3 0 :: vI t.1 :: dd 17 []), [(3, .box [.own 10000000, .own 10000001, .own 10000002, .own 10000003, .own 10000004, vI t.2.1]), (10000000, .root true 3 yd t.2.2.1), (10000001, .root true 98 yk t.2.2.2.1), (10000002, .root true 89 yo t.2.2.2.2.1), (10000003, .root true 95 yn t.2.2.2.2.2.1), (10000004, .root true 91 z7 t.2.2.2.2.2.2)]⟩
theorem yjr : ∀ s t, unG ylu y6h s = some t → y6h t = s := ym fun t => by kernel_rfl
def y6i (t : y9c) : St := ⟨dd 3 (.box 3 0 :: vI t.1 :: dd 17 []), [(3, .box [ze t.2.1, yC t.2.2.1, zu t.2.2.2.1, yX t.2.2.2.2.1, zX t.2.2.2.2.2.1, vI t.2.2.2.2.2.2])]⟩
theorem yjs : ∀ s t, unG yga y6i s = some t → y6i t = s := ym fun t => by kernel_rfl
def y6j : (ybY ⊕ y9c) → St := Sum.elim y6h y6i
def y9V (s : St) : Option (ybY ⊕ y9c) := ((unG ylu y6h s).map Sum.inl).or (((unG yga y6i) s).map Sum.inr)
theorem yjt : ∀ s t, y9V s = some t → y6j t = s := y9J yjr yjs
def yfk : Gk W6 := fun κ => W7 (fun t => κ none ⟨dd 2 (vI t :: dd 19 []), []⟩) (fun t => κ (some 0) ⟨dd 22 [], []⟩)
def yqO : Lp := lpC 3 y9V @yfk lpN
theorem yju : LF yqN yqO 41 3 Tryz.f41 0 y6j @yfk fun v : ybY => .inl v := fun R κ again v => by kernel_rfl
theorem yjv : LF yqN yqO 41 3 Tryz.f41 0 y6j @yfk fun v : y9c => .inr v := fun R κ again v => by kernel_rfl
theorem yuU : LF yqN yqO 41 3 Tryz.f41 0 y6j @yfk fun t => t := (LC.sum yju yjv)
theorem yuV : LK yqN yqO 41 Tryz.f41 0 := lkN (u := y9V) yjt yuU
theorem yAe : EV yqN yqO 41 Tryz.f41 yxN WB [(.int .i64)] ZQ := fun x => by kernel_rfl
def q41 : QF := ⟨41, ZQ, okN (n := 1) Tryz.func41 ⟨yuV, trivial⟩ yAe⟩
def Ze (x : List yh) : Option (List yh) :=
 if (List.length ([] : List yh) + List.length x) * 8 < 140737488355328 then some (([] : List yh) ++ x) else none
theorem yuW : EV [] lpN 256 Tryz.f256 yo0 [(.sl 3 yd)] [(.sl 3 yd)] Ze := fun x => by kernel_rfl
def yyb : QF := ⟨256, Ze, okN (n := 0) Tryz.func256 trivial yuW⟩
def zO (x : List y8) : Option (List y8) :=
 if (List.length ([] : List y8) + List.length x) * 40 < 140737488355328 then some (([] : List y8) ++ x) else none
theorem yuX : EV [] lpN 280 Tryz.f280 yo1 [(.sl 106 yb)] [(.sl 106 yb)] zO := fun x => by kernel_rfl
def yuY : QF := ⟨280, zO, okN (n := 0) Tryz.func280 trivial yuX⟩
abbrev WR : Type := y9K ⊕ yda
def zY (k0 : Unit → Option R) (k1 : List y9 → Option R) (again : WR → Option R) : WR → Option R
 | .inl t3 => bif (decide (t3.2.2 < t3.2.1)) then if (0 : Int) ≤ t3.2.2 then if t3.2.2 < (List.length t3.1 : Int) then Option.bind (zO (yj t3.1 t3.2.2)) fun r1 => if List.length ([r1] : List y9) * 24 < 140737488355328 then again (Sum.inr (t3.1, t3.2.1, (Go.IntKind.wrap .i64 (t3.2.2 + (1 : Int))), ([r1] : List y9))) else none else none else none else k0 ()
 | .inr t3 => bif (decide (t3.2.2.1 < t3.2.1)) then if (0 : Int) ≤ t3.2.2.1 then if t3.2.2.1 < (List.length t3.1 : Int) then Option.bind (zO (yj t3.1 t3.2.2.1)) fun r2 => if (List.length t3.2.2.2 + List.length ([r2] : List y9)) * 24 < 140737488355328 then again (Sum.inr (t3.1, t3.2.1, (Go.IntKind.wrap .i64 (t3.2.2.1 + (1 : Int))), (t3.2.2.2 ++ ([r2] : List y9)))) else none else none else none else k1 t3.2.2.2
def Vu k0 k1 := zt (@zY R k0 k1) zJ
def zl (x : List y9) : Option (List y9) :=
 Vu (fun x3 => some ([] : List y9)) (fun x4 => some x4) (Sum.inl (x, (List.length x : Int), (0 : Int)))
def ydu : List QF := [yuY]
def y2z (t : y9K) : St := ⟨dd 2 (.box 2 0 :: .box 3 0 :: dd 4 (Y6 t.1 :: vI t.2.1 :: vI t.2.2 :: dd 12 [])), [(2, .box [.nils]), (3, .box [.nils])]⟩
theorem yfl : ∀ s t, unG yf4 y2z s = some t → y2z t = s := ym fun t => by kernel_rfl
def y2A (t : yda) : St := ⟨dd 2 (.box 2 0 :: .box 3 0 :: dd 4 (Y6 t.1 :: vI t.2.1 :: vI t.2.2.1 :: dd 12 [])), [(2, .box [.nils]), (3, .box [.own 10000000]), (10000000, .root true 100 yi t.2.2.2)]⟩
theorem yfm : ∀ s t, unG ylv y2A s = some t → y2A t = s := ym fun t => by kernel_rfl
def y2B : (y9K ⊕ yda) → St := Sum.elim y2z y2A
def y6k (s : St) : Option (y9K ⊕ yda) := ((unG yf4 y2z s).map Sum.inl).or (((unG ylv y2A) s).map Sum.inr)
theorem yfn : ∀ s t, y6k s = some t → y2B t = s := y9J yfl yfm
def yb0 : Gk WR := fun κ => zY (fun t => κ (some 0) ⟨dd 2 (.box 2 0 :: .box 3 0 :: dd 19 []), [(2, .box [.nils]), (3, .box [.nils])]⟩) (fun t => κ (some 0) ⟨dd 2 (.box 2 0 :: .box 3 0 :: dd 19 []), [(2, .box [.nils]), (3, .box [.own 10000000]), (10000000, .root true 100 yi t)]⟩)
def ydv : Lp := lpC 3 y6k @yb0 lpN
theorem yfo : LF ydu ydv 257 3 Tryz.f257 0 y2B @yb0 fun v : y9K => .inl v := fun R κ again v => by kernel_rfl
theorem yfq : LF ydu ydv 257 3 Tryz.f257 0 y2B @yb0 fun v : yda => .inr v := fun R κ again v => by kernel_rfl
theorem yqP : LF ydu ydv 257 3 Tryz.f257 0 y2B @yb0 fun t => t := (LC.sum yfo yfq)
theorem yqQ : LK ydu ydv 257 Tryz.f257 0 := lkN (u := y6k) yfn yqP
theorem yuZ : EV ydu ydv 257 Tryz.f257 yo2 [(.sl 100 yi)] [(.sl 100 yi)] zl := fun x => by kernel_rfl
def yyc : QF := ⟨257, zl, okN (n := 1) Tryz.func257 ⟨yqQ, trivial⟩ yuZ⟩
abbrev WS : Type := ydb ⊕ ydc
def zZ (k0 : List yh → Option R) (k1 : y3Y → Option R) (again : WS → Option R) : WS → Option R
 | .inl t3 => bif (decide (t3.2.2.1 < t3.2.1)) then if (0 : Int) ≤ t3.2.2.1 then if t3.2.2.1 < (List.length t3.1 : Int) then Option.bind (zl (ya t3.1 t3.2.2.1)) fun r2 => if List.length ([r2] : List y7) * 24 < 140737488355328 then again (Sum.inr (t3.1, t3.2.1, (Go.IntKind.wrap .i64 (t3.2.2.1 + (1 : Int))), t3.2.2.2, ([r2] : List y7))) else none else none else none else k0 t3.2.2.2
 | .inr t3 => bif (decide (t3.2.2.1 < t3.2.1)) then if (0 : Int) ≤ t3.2.2.1 then if t3.2.2.1 < (List.length t3.1 : Int) then Option.bind (zl (ya t3.1 t3.2.2.1)) fun r3 => if (List.length t3.2.2.2.2 + List.length ([r3] : List y7)) * 24 < 140737488355328 then again (Sum.inr (t3.1, t3.2.1, (Go.IntKind.wrap .i64 (t3.2.2.1 + (1 : Int))), t3.2.2.2.1, (t3.2.2.2.2 ++ ([r3] : List y7)))) else none else none else none else k1 t3.2.2.2
def Vv k0 k1 := zt (@zZ R k0 k1) zJ
def zm (x : y3Y) : Option y3Y :=
 Option.bind (Ze x.1) fun r1 => Vv (fun x4 => some (x4, ([] : List y7))) (fun x5 => some x5) (Sum.inl (x.2, (List.length x.2 : Int), (0 : Int), r1))
def ydw : List QF := [yyb, yyc]
def y2C (t : ydb) : St := ⟨dd 2 (.box 2 0 :: .box 3 0 :: dd 7 (yC t.1 :: vI t.2.1 :: vI t.2.2.1 :: dd 12 [])), [(2, .box [.nils, .nils]), (3, .box [.own 10000000, .nils]), (10000000, .root true 3 yd t.2.2.2)]⟩
theorem yfs : ∀ s t, unG ylw y2C s = some t → y2C t = s := ym fun t => by kernel_rfl
def y2D (t : ydc) : St := ⟨dd 2 (.box 2 0 :: .box 3 0 :: dd 7 (yC t.1 :: vI t.2.1 :: vI t.2.2.1 :: dd 12 [])), [(2, .box [.nils, .nils]), (3, .box [.own 10000000, .own 10000001]), (10000000, .root true 3 yd t.2.2.2.1), (10000001, .root true 98 yk t.2.2.2.2)]⟩
theorem yft : ∀ s t, unG ylx y2D s = some t → y2D t = s := ym fun t => by kernel_rfl
def y2E : (ydb ⊕ ydc) → St := Sum.elim y2C y2D
def y6l (s : St) : Option (ydb ⊕ ydc) := ((unG ylw y2C s).map Sum.inl).or (((unG ylx y2D) s).map Sum.inr)
theorem yfu : ∀ s t, y6l s = some t → y2E t = s := y9J yfs yft
def yb1 : Gk WS := fun κ => zZ (fun t => κ (some 0) ⟨dd 2 (.box 2 0 :: .box 3 0 :: dd 22 []), [(2, .box [.nils, .nils]), (3, .box [.own 10000000, .nils]), (10000000, .root true 3 yd t)]⟩) (fun t => κ (some 0) ⟨dd 2 (.box 2 0 :: .box 3 0 :: dd 22 []), [(2, .box [.nils, .nils]), (3, .box [.own 10000000, .own 10000001]), (10000000, .root true 3 yd t.1), (10000001, .root true 98 yk t.2)]⟩)
def ydx : Lp := lpC 3 y6l @yb1 lpN
theorem yfv : LF ydw ydx 223 3 Tryz.f223 0 y2E @yb1 fun v : ydb => .inl v := fun R κ again v => by kernel_rfl
theorem yfw : LF ydw ydx 223 3 Tryz.f223 0 y2E @yb1 fun v : ydc => .inr v := fun R κ again v => by kernel_rfl
theorem yqR : LF ydw ydx 223 3 Tryz.f223 0 y2E @yb1 fun t => t := (LC.sum yfv yfw)
theorem yqS : LK ydw ydx 223 Tryz.f223 0 := lkN (u := y6l) yfu yqR
theorem yv0 : EV ydw ydx 223 Tryz.f223 yo3 WA WA zm := fun x => by kernel_rfl
def yyd : QF := ⟨223, zm, okN (n := 1) Tryz.func223 ⟨yqS, trivial⟩ yv0⟩
def Yw (x : List yf) : Option (List yf) :=
 if (List.length ([] : List yf) + List.length x) * 16 < 140737488355328 then some (([] : List yf) ++ x) else none
theorem yv1 : EV [] lpN 224 Tryz.f224 yo4 [(.sl 89 yo)] [(.sl 89 yo)] Yw := fun x => by kernel_rfl
def yye : QF := ⟨224, Yw, okN (n := 0) Tryz.func224 trivial yv1⟩
def Yd (x : List yg) : Option (List yg) :=
 if (List.length ([] : List yg) + List.length x) * 24 < 140737488355328 then some (([] : List yg) ++ x) else none
theorem yv2 : EV [] lpN 225 Tryz.f225 yo5 [(.sl 95 yn)] [(.sl 95 yn)] Yd := fun x => by kernel_rfl
def yyf : QF := ⟨225, Yd, okN (n := 0) Tryz.func225 trivial yv2⟩
def Yx (x : y2s) : Option y2s :=
 Option.bind (zm (x.1, x.2.1)) fun r1 => Option.bind (Yw x.2.2.1) fun r2 => Option.bind (Yd x.2.2.2.1) fun r3 => if (List.length ([] : List yF) + List.length x.2.2.2.2.1) * 40 < 140737488355328 then some (r1.1, r1.2, r2, r3, (([] : List yF) ++ x.2.2.2.2.1), x.2.2.2.2.2) else none
theorem yv3 : EV [yyd, yye, yyf] lpN 179 Tryz.f179 yo6 WB WB Yx := fun x => by kernel_rfl
def yyg : QF := ⟨179, Yx, okN (n := 0) Tryz.func179 trivial yv3⟩
def yE (x : ysy) : Option Bool :=
 Option.bind (bif (decide (x.1 ≥ x.2.1)) then some (decide (x.1 ≤ x.2.2)) else some false) fun u1 => some u1
theorem yv4 : EV [] lpN 134 Tryz.f134 yo7 ysz [.bool] yE := fun x => by kernel_rfl
def ydy : QF := ⟨134, yE, okN (n := 0) Tryz.func134 trivial yv4⟩
def we (x : yeY) : Option Bool :=
 Option.bind (yE (x.1, (0 : Int), (15 : Int))) fun r1 => Option.bind (bif (!r1) then some true else Option.bind (yE (x.2.1, (1 : Int), (60 : Int))) fun r3 => some (!r3)) fun u2 => Option.bind (bif u2 then some true else Option.bind (yE (x.2.2.1, (0 : Int), (2 : Int))) fun r5 => some (!r5)) fun u4 => bif u4 then some false else bif (x.2.2.1 != (1 : Int)) then Option.bind (bif (x.2.2.2.1 == (0 : Int)) then some (x.2.2.2.2 == (0 : Int)) else some false) fun u6 => some u6 else Option.bind (yE (x.2.2.2.1, (0 : Int), (23 : Int))) fun r7 => Option.bind (bif r7 then Option.bind (yE (x.2.2.2.2, (0 : Int), (999 : Int))) fun r9 => some r9 else some false) fun u8 => some u8
theorem yv5 : EV [ydy] lpN 138 Tryz.f138 yo8 K0 [.bool] we := fun x => by kernel_rfl
def yyh : QF := ⟨138, we, okN (n := 0) Tryz.func138 trivial yv5⟩
def jd (x : yl4) : Option Bool :=
 Option.bind (bif (decide (x.1 < x.2.2.2.2.2.1)) then some true else Option.bind (bif (x.1 == x.2.2.2.2.2.1) then some (decide (x.2.1 < x.2.2.2.2.2.2.1)) else some false) fun u2 => some u2) fun u1 => some u1
theorem yv6 : EV [] lpN 279 Tryz.f279 yo9 yl5 [.bool] jd := fun x => by kernel_rfl
def yyi : QF := ⟨279, jd, okN (n := 0) Tryz.func279 trivial yv6⟩
abbrev V4 : Type := yly
def JD (k0 : ywY → Option R) (k1 : List y8 → Option R) (again : V4 → Option R) (t2 : V4) : Option R :=
 bif (decide (t2.2.2.2 < t2.2.2.1)) then if (0 : Int) ≤ t2.2.2.2 then if t2.2.2.2 < (List.length t2.2.1 : Int) then Option.bind (we ((y0 t2.2.1 t2.2.2.2).1, (y0 t2.2.1 t2.2.2.2).2.1, (y0 t2.2.1 t2.2.2.2).2.2.1, (y0 t2.2.1 t2.2.2.2).2.2.2.1, (y0 t2.2.1 t2.2.2.2).2.2.2.2)) fun r1 => Option.bind (bif (!r1) then some true else Option.bind (bif (decide (t2.2.2.2 > (0 : Int))) then if (0 : Int) ≤ (Go.IntKind.wrap .i64 (t2.2.2.2 - (1 : Int))) then if (Go.IntKind.wrap .i64 (t2.2.2.2 - (1 : Int))) < (List.length t2.1 : Int) then Option.bind (jd ((y0 t2.1 (Go.IntKind.wrap .i64 (t2.2.2.2 - (1 : Int)))).1, (y0 t2.1 (Go.IntKind.wrap .i64 (t2.2.2.2 - (1 : Int)))).2.1, (y0 t2.1 (Go.IntKind.wrap .i64 (t2.2.2.2 - (1 : Int)))).2.2.1, (y0 t2.1 (Go.IntKind.wrap .i64 (t2.2.2.2 - (1 : Int)))).2.2.2.1, (y0 t2.1 (Go.IntKind.wrap .i64 (t2.2.2.2 - (1 : Int)))).2.2.2.2, (y0 t2.2.1 t2.2.2.2).1, (y0 t2.2.1 t2.2.2.2).2.1, (y0 t2.2.1 t2.2.2.2).2.2.1, (y0 t2.2.1 t2.2.2.2).2.2.2.1, (y0 t2.2.1 t2.2.2.2).2.2.2.2)) fun r4 => some (!r4) else none else none else some false) fun u3 => some u3) fun u2 => bif u2 then k0 (t2.1, false) else again (t2.1, t2.2.1, t2.2.2.1, (Go.IntKind.wrap .i64 (t2.2.2.2 + (1 : Int)))) else none else none else k1 t2.1
def y01 k0 k1 := zt (@JD R k0 k1) zJ
def kw (x : List y8) : Option Bool :=
 y01 (fun x5 => some x5.2) (fun x6 => some (decide ((List.length x6 : Int) ≤ (60 : Int)))) (x, x, (List.length x : Int), (0 : Int))
def yjw : List QF := [yyh, yyi]
def y6m (t : yly) : St := ⟨Vp t.1 :: dd 4 (Vp t.2.1 :: vI t.2.2.1 :: vI t.2.2.2 :: dd 25 []), []⟩
def ygY : Gk V4 := fun κ => JD (fun t => κ none ⟨Vp t.1 :: .dead :: vB t.2 :: dd 30 [], []⟩) (fun t => κ (some 0) ⟨Vp t :: dd 32 [], []⟩)
def yjx : Lp := lpC 2 (unG ylz y6m) @ygY lpN
theorem yqT : LF yjw yjx 246 2 Tryz.f246 0 y6m @ygY fun t => t := fun R κ again t => by kernel_rfl
theorem yqU : LK yjw yjx 246 Tryz.f246 0 := lkN (u := (unG ylz y6m)) (ym fun t => by kernel_rfl) yqT
theorem yv7 : EV yjw yjx 246 Tryz.f246 yoa [(.sl 106 yb)] [.bool] kw := fun x => by kernel_rfl
def yAf : QF := ⟨246, kw, okN (n := 1) Tryz.func246 ⟨yqU, trivial⟩ yv7⟩
abbrev v9 : Type := ylA
def jH (k0 : ysI → Option R) (k1 : yg9 → Option R) (again : v9 → Option R) (t3 : v9) : Option R :=
 bif (decide (t3.2.2.2.1 < t3.2.2.1)) then if (0 : Int) ≤ t3.2.2.2.1 then if t3.2.2.2.1 < (List.length t3.2.1 : Int) then Option.bind (kw (yj t3.2.1 t3.2.2.2.1)) fun r1 => Option.bind (bif (!r1) then some true else some ((List.length (yj t3.2.1 t3.2.2.2.1) : Int) == (0 : Int))) fun u2 => bif u2 then k0 (false, t3.1, t3.2.2.2.2) else again ((Go.IntKind.wrap .i64 (t3.1 + (List.length (yj t3.2.1 t3.2.2.2.1) : Int))), t3.2.1, t3.2.2.1, (Go.IntKind.wrap .i64 (t3.2.2.2.1 + (1 : Int))), t3.2.2.2.2) else none else none else k1 (t3.1, t3.2.2.2.2)
def Q8 k0 k1 := zt (@jH R k0 k1) zJ
def zp (x : List y9) : Option Bool :=
 Q8 (fun x3 => some x3.1) (fun x4 => Option.bind (bif (decide ((List.length x4.2 : Int) ≤ (3 : Int))) then some (decide (x4.1 ≤ (8 : Int))) else some false) fun u5 => some u5) ((0 : Int), x, (List.length x : Int), (0 : Int), x)
def yjy : List QF := [yAf]
def y6n (t : ylA) : St := ⟨.dead :: .box 1 0 :: .dead :: vI t.1 :: dd 3 (Y6 t.2.1 :: vI t.2.2.1 :: vI t.2.2.2.1 :: dd 24 []), [(1, .box [Y6 t.2.2.2.2])]⟩
def ygZ : Gk v9 := fun κ => jH (fun t => κ none ⟨.dead :: .box 1 0 :: vB t.1 :: vI t.2.1 :: dd 30 [], [(1, .box [Y6 t.2.2])]⟩) (fun t => κ (some 0) ⟨.dead :: .box 1 0 :: .dead :: vI t.1 :: dd 30 [], [(1, .box [Y6 t.2])]⟩)
def yjz : Lp := lpC 3 (unG ylB y6n) @ygZ lpN
theorem yqV : LF yjy yjz 204 3 Tryz.f204 0 y6n @ygZ fun t => t := fun R κ again t => by kernel_rfl
theorem yqW : LK yjy yjz 204 Tryz.f204 0 := lkN (u := (unG ylB y6n)) (ym fun t => by kernel_rfl) yqV
theorem yv8 : EV yjy yjz 204 Tryz.f204 yob [(.sl 100 yi)] [.bool] zp := fun x => by kernel_rfl
def yyj : QF := ⟨204, zp, okN (n := 1) Tryz.func204 ⟨yqW, trivial⟩ yv8⟩
def YQ (x : Qz3) : Option Int :=
 some (Go.IntKind.wrap .i64 ((Go.IntKind.wrap .i64 ((64 : Int) * x.1)) + x.2))
theorem yv9 : EV [] lpN 247 Tryz.f247 yoc qz3 [(.int .i64)] YQ := fun x => by kernel_rfl
def yva : QF := ⟨247, YQ, okN (n := 0) Tryz.func247 trivial yv9⟩
abbrev WT : Type := ylC
def Zf (k0 : ysJ → Option R) (k1 : yi3 → Option R) (again : WT → Option R) (t5 : WT) : Option R :=
 bif (decide (t5.2.2.2.2.2.2.1 < t5.2.2.2.2.2.1)) then if (0 : Int) ≤ t5.2.2.2.2.2.2.1 then if t5.2.2.2.2.2.2.1 < (List.length t5.2.2.2.2.1 : Int) then Option.bind (YQ ((y0 t5.2.2.2.2.1 t5.2.2.2.2.2.2.1).1, (y0 t5.2.2.2.2.1 t5.2.2.2.2.2.2.1).2.1)) fun r1 => if (0 : Int) ≤ t5.1 then if t5.1 < (List.length t5.2.2.2.2.2.2.2.1 : Int) then Option.bind (bif (decide (r1 < (z9 t5.2.2.2.2.2.2.2.1 t5.1))) then some true else Option.bind (bif (decide ((Go.IntKind.wrap .i64 (t5.1 + (1 : Int))) < (List.length t5.2.2.2.2.2.2.2.1 : Int))) then if (0 : Int) ≤ (Go.IntKind.wrap .i64 (t5.1 + (1 : Int))) then if (Go.IntKind.wrap .i64 (t5.1 + (1 : Int))) < (List.length t5.2.2.2.2.2.2.2.1 : Int) then some (decide (r1 ≥ (z9 t5.2.2.2.2.2.2.2.1 (Go.IntKind.wrap .i64 (t5.1 + (1 : Int)))))) else none else none else some false) fun u3 => some u3) fun u2 => bif u2 then k0 (t5.1, false, t5.2.1, t5.2.2.1, t5.2.2.2.1, t5.2.2.2.2.2.2.2) else again (t5.1, t5.2.1, t5.2.2.1, t5.2.2.2.1, t5.2.2.2.2.1, t5.2.2.2.2.2.1, (Go.IntKind.wrap .i64 (t5.2.2.2.2.2.2.1 + (1 : Int))), t5.2.2.2.2.2.2.2.1, t5.2.2.2.2.2.2.2.2) else none else none else none else none else k1 (t5.1, t5.2.1, t5.2.2.1, t5.2.2.2.1, t5.2.2.2.2.2.2.2)
def WU k0 k1 := zt (@Zf R k0 k1) zJ
abbrev WW : Type := yi3
def Zg (k0 : Bool → Option R) (k1 : Unit → Option R) (again : WW → Option R) (t2 : WW) : Option R :=
 bif (decide (t2.2.2.2.1 < t2.2.2.1)) then if (0 : Int) ≤ t2.2.2.2.1 then if t2.2.2.2.1 < (List.length t2.2.1 : Int) then WU (fun x4 => k0 x4.2.1) (fun x5 => again (x5.1, x5.2.1, x5.2.2.1, (Go.IntKind.wrap .i64 (x5.2.2.2.1 + (1 : Int))), x5.2.2.2.2.1, x5.2.2.2.2.2)) (t2.1, t2.2.1, t2.2.2.1, t2.2.2.2.1, (yj t2.2.1 t2.2.2.2.1), (List.length (yj t2.2.1 t2.2.2.2.1) : Int), (0 : Int), t2.2.2.2.2.1, t2.2.2.2.2.2) else none else none else k1 ()
def Vw k0 k1 := zt (@Zg R k0 k1) zJ
def jI (x : ys5) : Option Bool :=
 if (0 : Int) ≤ x.2.2 then if x.2.2 < (List.length x.2.1 : Int) then Vw (fun x6 => some x6) (fun x7 => some true) (x.2.2, (ya x.2.1 x.2.2), (List.length (ya x.2.1 x.2.2) : Int), (0 : Int), x.1, x.2.1) else none else none
def ydz : List QF := [yva]
def y6o (t : ylC) : St := ⟨.dead :: vI t.1 :: .box 2 0 :: dd 12 (Y6 t.2.1 :: vI t.2.2.1 :: vI t.2.2.2.1 :: dd 3 (Vp t.2.2.2.2.1 :: vI t.2.2.2.2.2.1 :: vI t.2.2.2.2.2.2.1 :: dd 35 [])), [(2, .box [ze t.2.2.2.2.2.2.2.1, yC t.2.2.2.2.2.2.2.2])]⟩
def yh0 : Gk WT := fun κ => Zf (fun t => κ none ⟨.dead :: vI t.1 :: .box 2 0 :: .dead :: vB t.2.1 :: dd 10 (Y6 t.2.2.1 :: vI t.2.2.2.1 :: vI t.2.2.2.2.1 :: dd 41 []), [(2, .box [ze t.2.2.2.2.2.1, yC t.2.2.2.2.2.2])]⟩) (fun t => κ (some 2) ⟨.dead :: vI t.1 :: .box 2 0 :: dd 12 (Y6 t.2.1 :: vI t.2.2.1 :: vI t.2.2.2.1 :: dd 41 []), [(2, .box [ze t.2.2.2.2.1, yC t.2.2.2.2.2])]⟩)
def y6p (t : yi3) : St := ⟨.dead :: vI t.1 :: .box 2 0 :: dd 12 (Y6 t.2.1 :: vI t.2.2.1 :: vI t.2.2.2.1 :: dd 41 []), [(2, .box [ze t.2.2.2.2.1, yC t.2.2.2.2.2])]⟩
def yh1 : Gk WW := fun κ => Zg (fun t => κ none ⟨dd 4 (vB t :: dd 54 []), []⟩) (fun t => κ (some 0) ⟨dd 59 [], []⟩)
def ydA : Lp := lpC 2 (unG ylE y6p) @yh1 (lpC 5 (unG ylD y6o) @yh0 lpN)
theorem yqX : LF ydz ydA 205 5 Tryz.f205 1 y6o @yh0 fun t => t := fun R κ again t => by kernel_rfl
theorem yqY : LK ydz ydA 205 Tryz.f205 1 := lkN (u := (unG ylD y6o)) (ym fun t => by kernel_rfl) yqX
theorem yqZ : LF ydz ydA 205 2 Tryz.f205 0 y6p @yh1 fun t => t := fun R κ again t => by kernel_rfl
theorem yr0 : LK ydz ydA 205 Tryz.f205 0 := lkN (u := (unG ylE y6p)) (ym fun t => by kernel_rfl) yqZ
theorem yvb : EV ydz ydA 205 Tryz.f205 yod ys6 [.bool] jI := fun x => by kernel_rfl
def yAg : QF := ⟨205, jI, okN (n := 2) Tryz.func205 ⟨yr0, yqY, trivial⟩ yvb⟩
def Zh (x : yl4) : Option Bool :=
 Option.bind (bif (x.1 == x.2.2.2.2.2.1) then some (x.2.1 == x.2.2.2.2.2.2.1) else some false) fun u1 => some u1
theorem yvc : EV [] lpN 302 Tryz.f302 yoe yl5 [.bool] Zh := fun x => by kernel_rfl
def yAh : QF := ⟨302, Zh, okN (n := 0) Tryz.func302 trivial yvc⟩
abbrev W8 : Type := ylF
def Yy (k0 : ywR → Option R) (again : W8 → Option R) (t4 : W8) : Option R :=
 bif (decide (t4.2.2.2.1 < t4.2.2.1)) then if (0 : Int) ≤ t4.2.2.2.1 then if t4.2.2.2.1 < (List.length t4.2.1 : Int) then Option.bind (bif (!t4.1) then Option.bind (jd ((y0 t4.2.1 t4.2.2.2.1).1, (y0 t4.2.1 t4.2.2.2.1).2.1, (y0 t4.2.1 t4.2.2.2.1).2.2.1, (y0 t4.2.1 t4.2.2.2.1).2.2.2.1, (y0 t4.2.1 t4.2.2.2.1).2.2.2.2, t4.2.2.2.2.1, t4.2.2.2.2.2.1, t4.2.2.2.2.2.2.1, t4.2.2.2.2.2.2.2.1, t4.2.2.2.2.2.2.2.2.1)) fun r2 => some (!r2) else some false) fun u1 => bif u1 then if (List.length t4.2.2.2.2.2.2.2.2.2 + List.length ([(t4.2.2.2.2.1, t4.2.2.2.2.2.1, t4.2.2.2.2.2.2.1, t4.2.2.2.2.2.2.2.1, t4.2.2.2.2.2.2.2.2.1)] : List y8)) * 40 < 140737488355328 then Option.bind (Zh ((y0 t4.2.1 t4.2.2.2.1).1, (y0 t4.2.1 t4.2.2.2.1).2.1, (y0 t4.2.1 t4.2.2.2.1).2.2.1, (y0 t4.2.1 t4.2.2.2.1).2.2.2.1, (y0 t4.2.1 t4.2.2.2.1).2.2.2.2, t4.2.2.2.2.1, t4.2.2.2.2.2.1, t4.2.2.2.2.2.2.1, t4.2.2.2.2.2.2.2.1, t4.2.2.2.2.2.2.2.2.1)) fun r3 => bif (!r3) then if (List.length (t4.2.2.2.2.2.2.2.2.2 ++ ([(t4.2.2.2.2.1, t4.2.2.2.2.2.1, t4.2.2.2.2.2.2.1, t4.2.2.2.2.2.2.2.1, t4.2.2.2.2.2.2.2.2.1)] : List y8)) + List.length ([((y0 t4.2.1 t4.2.2.2.1).1, (y0 t4.2.1 t4.2.2.2.1).2.1, (y0 t4.2.1 t4.2.2.2.1).2.2.1, (y0 t4.2.1 t4.2.2.2.1).2.2.2.1, (y0 t4.2.1 t4.2.2.2.1).2.2.2.2)] : List y8)) * 40 < 140737488355328 then again (true, t4.2.1, t4.2.2.1, (Go.IntKind.wrap .i64 (t4.2.2.2.1 + (1 : Int))), t4.2.2.2.2.1, t4.2.2.2.2.2.1, t4.2.2.2.2.2.2.1, t4.2.2.2.2.2.2.2.1, t4.2.2.2.2.2.2.2.2.1, ((t4.2.2.2.2.2.2.2.2.2 ++ ([(t4.2.2.2.2.1, t4.2.2.2.2.2.1, t4.2.2.2.2.2.2.1, t4.2.2.2.2.2.2.2.1, t4.2.2.2.2.2.2.2.2.1)] : List y8)) ++ ([((y0 t4.2.1 t4.2.2.2.1).1, (y0 t4.2.1 t4.2.2.2.1).2.1, (y0 t4.2.1 t4.2.2.2.1).2.2.1, (y0 t4.2.1 t4.2.2.2.1).2.2.2.1, (y0 t4.2.1 t4.2.2.2.1).2.2.2.2)] : List y8))) else none else again (true, t4.2.1, t4.2.2.1, (Go.IntKind.wrap .i64 (t4.2.2.2.1 + (1 : Int))), t4.2.2.2.2.1, t4.2.2.2.2.2.1, t4.2.2.2.2.2.2.1, t4.2.2.2.2.2.2.2.1, t4.2.2.2.2.2.2.2.2.1, (t4.2.2.2.2.2.2.2.2.2 ++ ([(t4.2.2.2.2.1, t4.2.2.2.2.2.1, t4.2.2.2.2.2.2.1, t4.2.2.2.2.2.2.2.1, t4.2.2.2.2.2.2.2.2.1)] : List y8))) else none else Option.bind (Zh ((y0 t4.2.1 t4.2.2.2.1).1, (y0 t4.2.1 t4.2.2.2.1).2.1, (y0 t4.2.1 t4.2.2.2.1).2.2.1, (y0 t4.2.1 t4.2.2.2.1).2.2.2.1, (y0 t4.2.1 t4.2.2.2.1).2.2.2.2, t4.2.2.2.2.1, t4.2.2.2.2.2.1, t4.2.2.2.2.2.2.1, t4.2.2.2.2.2.2.2.1, t4.2.2.2.2.2.2.2.2.1)) fun r4 => bif (!r4) then if (List.length t4.2.2.2.2.2.2.2.2.2 + List.length ([((y0 t4.2.1 t4.2.2.2.1).1, (y0 t4.2.1 t4.2.2.2.1).2.1, (y0 t4.2.1 t4.2.2.2.1).2.2.1, (y0 t4.2.1 t4.2.2.2.1).2.2.2.1, (y0 t4.2.1 t4.2.2.2.1).2.2.2.2)] : List y8)) * 40 < 140737488355328 then again (t4.1, t4.2.1, t4.2.2.1, (Go.IntKind.wrap .i64 (t4.2.2.2.1 + (1 : Int))), t4.2.2.2.2.1, t4.2.2.2.2.2.1, t4.2.2.2.2.2.2.1, t4.2.2.2.2.2.2.2.1, t4.2.2.2.2.2.2.2.2.1, (t4.2.2.2.2.2.2.2.2.2 ++ ([((y0 t4.2.1 t4.2.2.2.1).1, (y0 t4.2.1 t4.2.2.2.1).2.1, (y0 t4.2.1 t4.2.2.2.1).2.2.1, (y0 t4.2.1 t4.2.2.2.1).2.2.2.1, (y0 t4.2.1 t4.2.2.2.1).2.2.2.2)] : List y8))) else none else again (t4.1, t4.2.1, t4.2.2.1, (Go.IntKind.wrap .i64 (t4.2.2.2.1 + (1 : Int))), t4.2.2.2.2.1, t4.2.2.2.2.2.1, t4.2.2.2.2.2.2.1, t4.2.2.2.2.2.2.2.1, t4.2.2.2.2.2.2.2.2.1, t4.2.2.2.2.2.2.2.2.2) else none else none else k0 (t4.1, t4.2.2.2.2)
def va k0 := zt (@Yy R k0) zJ
def ZE (x : ywS) : Option (List y8) :=
 va (fun x5 => bif (!x5.1) then if (List.length x5.2.2.2.2.2.2 + List.length ([(x5.2.1, x5.2.2.1, x5.2.2.2.1, x5.2.2.2.2.1, x5.2.2.2.2.2.1)] : List y8)) * 40 < 140737488355328 then some (x5.2.2.2.2.2.2 ++ ([(x5.2.1, x5.2.2.1, x5.2.2.2.1, x5.2.2.2.2.1, x5.2.2.2.2.2.1)] : List y8)) else none else some x5.2.2.2.2.2.2) (false, x.1, (List.length x.1 : Int), (0 : Int), x.2.1, x.2.2.1, x.2.2.2.1, x.2.2.2.2.1, x.2.2.2.2.2, ([] : List y8))
def yjA : List QF := [yyi, yAh]
def y6q (t : ylF) : St := ⟨dd 3 (.box 3 0 :: .dead :: .own 10000000 :: vB t.1 :: dd 3 (Vp t.2.1 :: vI t.2.2.1 :: vI t.2.2.2.1 :: dd 31 [])), [(3, .box [vI t.2.2.2.2.1, vI t.2.2.2.2.2.1, vI t.2.2.2.2.2.2.1, vI t.2.2.2.2.2.2.2.1, vI t.2.2.2.2.2.2.2.2.1]), (10000000, .root true 106 yb t.2.2.2.2.2.2.2.2.2)]⟩
def yh2 : Gk W8 := fun κ => Yy (fun t => κ (some 0) ⟨dd 3 (.box 3 0 :: .dead :: .own 10000000 :: vB t.1 :: dd 37 []), [(3, .box [vI t.2.1, vI t.2.2.1, vI t.2.2.2.1, vI t.2.2.2.2.1, vI t.2.2.2.2.2.1]), (10000000, .root true 106 yb t.2.2.2.2.2.2)]⟩)
def yjB : Lp := lpC 4 (unG ylG y6q) @yh2 lpN
theorem yr1 : LF yjA yjB 281 4 Tryz.f281 0 y6q @yh2 fun t => t := fun R κ again t => by kernel_rfl
theorem yr2 : LK yjA yjB 281 Tryz.f281 0 := lkN (u := (unG ylG y6q)) (ym fun t => by kernel_rfl) yr1
theorem yvd : EV yjA yjB 281 Tryz.f281 yof ywT [(.sl 106 yb)] ZE := fun x => by kernel_rfl
def yve : QF := ⟨281, ZE, okN (n := 1) Tryz.func281 ⟨yr2, trivial⟩ yvd⟩
abbrev W9 : Type := yf5
def YR (k0 : List y8 → Option R) (again : W9 → Option R) (t3 : W9) : Option R :=
 bif (decide (t3.2.2.1 < t3.2.1)) then if (0 : Int) ≤ t3.2.2.1 then if t3.2.2.1 < (List.length t3.1 : Int) then Option.bind (ZE (t3.2.2.2, (y0 t3.1 t3.2.2.1).1, (y0 t3.1 t3.2.2.1).2.1, (y0 t3.1 t3.2.2.1).2.2.1, (y0 t3.1 t3.2.2.1).2.2.2.1, (y0 t3.1 t3.2.2.1).2.2.2.2)) fun r2 => again (t3.1, t3.2.1, (Go.IntKind.wrap .i64 (t3.2.2.1 + (1 : Int))), r2) else none else none else k0 t3.2.2.2
def vR k0 := zt (@YR R k0) zJ
def YE (x : ysw) : Option (List y8) :=
 Option.bind (zO x.1) fun r1 => vR (fun x3 => some x3) (x.2, (List.length x.2 : Int), (0 : Int), r1)
def yjC : List QF := [yuY, yve]
def y6r (t : yf5) : St := ⟨dd 5 (.own 10000000 :: dd 4 (Vp t.1 :: vI t.2.1 :: vI t.2.2.1 :: dd 8 [])), [(10000000, .root true 106 yb t.2.2.2)]⟩
def yh3 : Gk W9 := fun κ => YR (fun t => κ (some 0) ⟨dd 5 (.own 10000000 :: dd 15 []), [(10000000, .root true 106 yb t)]⟩)
def yjD : Lp := lpC 3 (unG yf6 y6r) @yh3 lpN
theorem yr3 : LF yjC yjD 248 3 Tryz.f248 0 y6r @yh3 fun t => t := fun R κ again t => by kernel_rfl
theorem yr4 : LK yjC yjD 248 Tryz.f248 0 := lkN (u := (unG yf6 y6r)) (ym fun t => by kernel_rfl) yr3
theorem yvf : EV yjC yjD 248 Tryz.f248 yog ysx [(.sl 106 yb)] YE := fun x => by kernel_rfl
def yAi : QF := ⟨248, YE, okN (n := 1) Tryz.func248 ⟨yr4, trivial⟩ yvf⟩
abbrev VO : Type := yf5
def Wa (k0 : List y8 → Option R) (again : VO → Option R) (t3 : VO) : Option R :=
 bif (decide (t3.2.2.1 < t3.2.1)) then if (0 : Int) ≤ t3.2.2.1 then if t3.2.2.1 < (List.length t3.1 : Int) then bif ((y0 t3.1 t3.2.2.1).2.2.1 != (0 : Int)) then if (List.length t3.2.2.2 + List.length ([((y0 t3.1 t3.2.2.1).1, (y0 t3.1 t3.2.2.1).2.1, (y0 t3.1 t3.2.2.1).2.2.1, (y0 t3.1 t3.2.2.1).2.2.2.1, (y0 t3.1 t3.2.2.1).2.2.2.2)] : List y8)) * 40 < 140737488355328 then again (t3.1, t3.2.1, (Go.IntKind.wrap .i64 (t3.2.2.1 + (1 : Int))), (t3.2.2.2 ++ ([((y0 t3.1 t3.2.2.1).1, (y0 t3.1 t3.2.2.1).2.1, (y0 t3.1 t3.2.2.1).2.2.1, (y0 t3.1 t3.2.2.1).2.2.2.1, (y0 t3.1 t3.2.2.1).2.2.2.2)] : List y8))) else none else again (t3.1, t3.2.1, (Go.IntKind.wrap .i64 (t3.2.2.1 + (1 : Int))), t3.2.2.2) else none else none else k0 t3.2.2.2
def y0Y k0 := zt (@Wa R k0) zJ
def jJ (x : List y8) : Option (List y8) :=
 y0Y (fun x1 => some x1) (x, (List.length x : Int), (0 : Int), ([] : List y8))
def yjE : List QF := []
def y6s (t : yf5) : St := ⟨dd 3 (.own 10000000 :: dd 3 (Vp t.1 :: vI t.2.1 :: vI t.2.2.1 :: dd 12 [])), [(10000000, .root true 106 yb t.2.2.2)]⟩
def yh4 : Gk VO := fun κ => Wa (fun t => κ (some 0) ⟨dd 3 (.own 10000000 :: dd 18 []), [(10000000, .root true 106 yb t)]⟩)
def yjF : Lp := lpC 3 (unG yf6 y6s) @yh4 lpN
theorem yr5 : LF yjE yjF 249 3 Tryz.f249 0 y6s @yh4 fun t => t := fun R κ again t => by kernel_rfl
theorem yr6 : LK yjE yjF 249 Tryz.f249 0 := lkN (u := (unG yf6 y6s)) (ym fun t => by kernel_rfl) yr5
theorem yvg : EV yjE yjF 249 Tryz.f249 yoh [(.sl 106 yb)] [(.sl 106 yb)] jJ := fun x => by kernel_rfl
def yyk : QF := ⟨249, jJ, okN (n := 1) Tryz.func249 ⟨yr6, trivial⟩ yvg⟩
abbrev WX : Type := ylH
def Zi (k0 : List y8 → Option R) (again : WX → Option R) (t3 : WX) : Option R :=
 bif (decide (t3.2.2.1 < t3.2.1)) then if (0 : Int) ≤ t3.2.2.1 then if t3.2.2.1 < (List.length t3.1 : Int) then Option.bind (YE (t3.2.2.2, (yj t3.1 t3.2.2.1))) fun r1 => again (t3.1, t3.2.1, (Go.IntKind.wrap .i64 (t3.2.2.1 + (1 : Int))), r1) else none else none else k0 t3.2.2.2
def Vx k0 := zt (@Zi R k0) zJ
def yG (x : List y9) : Option (List y8) :=
 Vx (fun x2 => Option.bind (jJ x2) fun r3 => some r3) (x, (List.length x : Int), (0 : Int), ([] : List y8))
def yjG : List QF := [yAi, yyk]
def y6t (t : ylH) : St := ⟨dd 3 (.own 10000000 :: dd 4 (Y6 t.1 :: vI t.2.1 :: vI t.2.2.1 :: dd 9 [])), [(10000000, .root true 106 yb t.2.2.2)]⟩
def yh5 : Gk WX := fun κ => Zi (fun t => κ (some 0) ⟨dd 3 (.own 10000000 :: dd 16 []), [(10000000, .root true 106 yb t)]⟩)
def yjH : Lp := lpC 3 (unG ylI y6t) @yh5 lpN
theorem yr7 : LF yjG yjH 206 3 Tryz.f206 0 y6t @yh5 fun t => t := fun R κ again t => by kernel_rfl
theorem yr8 : LK yjG yjH 206 Tryz.f206 0 := lkN (u := (unG ylI y6t)) (ym fun t => by kernel_rfl) yr7
theorem yvh : EV yjG yjH 206 Tryz.f206 yoi [(.sl 100 yi)] [(.sl 106 yb)] yG := fun x => by kernel_rfl
def yr9 : QF := ⟨206, yG, okN (n := 1) Tryz.func206 ⟨yr8, trivial⟩ yvh⟩
abbrev vb : Type := ylJ
def jK (k0 : yf7 → Option R) (k1 : Int → Option R) (again : vb → Option R) (t5 : vb) : Option R :=
 bif (decide (t5.2.2.2.1 < t5.2.2.1)) then if (0 : Int) ≤ t5.2.2.2.1 then if t5.2.2.2.1 < (List.length t5.2.1 : Int) then Option.bind (bif (decide (t5.2.2.2.1 > (0 : Int))) then if (0 : Int) ≤ (Go.IntKind.wrap .i64 (t5.2.2.2.1 - (1 : Int))) then if (Go.IntKind.wrap .i64 (t5.2.2.2.1 - (1 : Int))) < (List.length t5.2.2.2.2.1 : Int) then if (0 : Int) ≤ t5.2.2.2.1 then if t5.2.2.2.1 < (List.length t5.2.2.2.2.1 : Int) then some (decide ((z9 t5.2.2.2.2.1 (Go.IntKind.wrap .i64 (t5.2.2.2.1 - (1 : Int)))) ≥ (z9 t5.2.2.2.2.1 t5.2.2.2.1))) else none else none else none else none else some false) fun u4 => Option.bind (bif u4 then some true else Option.bind (zp (ya t5.2.1 t5.2.2.2.1)) fun r6 => some (!r6)) fun u5 => Option.bind (bif u5 then some true else Option.bind (jI (t5.2.2.2.2.1, t5.2.2.2.2.2, t5.2.2.2.1)) fun r8 => some (!r8)) fun u7 => bif u7 then k0 (false, t5.1) else Option.bind (yG (ya t5.2.1 t5.2.2.2.1)) fun r9 => Option.bind (bif (decide (t5.2.2.2.1 > (0 : Int))) then some ((List.length r9 : Int) == (0 : Int)) else some false) fun u10 => bif u10 then k0 (false, t5.1) else again ((Go.IntKind.wrap .i64 (t5.1 + (List.length r9 : Int))), t5.2.1, t5.2.2.1, (Go.IntKind.wrap .i64 (t5.2.2.2.1 + (1 : Int))), t5.2.2.2.2.1, t5.2.2.2.2.2) else none else none else k1 t5.1
def Q9 k0 k1 := zt (@jK R k0 k1) zJ
def Y4 (x : y3Y) : Option Bool :=
 Option.bind (yE ((List.length x.2 : Int), (1 : Int), (20 : Int))) fun r1 => Option.bind (bif (!r1) then some true else some ((List.length x.1 : Int) != (List.length x.2 : Int))) fun u2 => Option.bind (bif u2 then some true else if (0 : Int) ≤ (0 : Int) then if (0 : Int) < (List.length x.1 : Int) then some ((z9 x.1 (0 : Int)) != (0 : Int)) else none else none) fun u3 => bif u3 then some false else Q9 (fun x11 => some x11.1) (fun x12 => some (decide (x12 ≤ (60 : Int)))) ((0 : Int), x.2, (List.length x.2 : Int), (0 : Int), x.1, x.2)
def yjI : List QF := [ydy, yyj, yAg, yr9]
def y6u (t : ylJ) : St := ⟨.dead :: .box 1 0 :: .dead :: vI t.1 :: dd 25 (yC t.2.1 :: vI t.2.2.1 :: vI t.2.2.2.1 :: dd 46 []), [(1, .box [ze t.2.2.2.2.1, yC t.2.2.2.2.2])]⟩
def yh6 : Gk vb := fun κ => jK (fun t => κ none ⟨dd 2 (vB t.1 :: vI t.2 :: dd 74 []), []⟩) (fun t => κ (some 0) ⟨dd 3 (vI t :: dd 74 []), []⟩)
def yjJ : Lp := lpC 5 (unG ylK y6u) @yh6 lpN
theorem yra : LF yjI yjJ 131 5 Tryz.f131 0 y6u @yh6 fun t => t := fun R κ again t => by kernel_rfl
theorem yrb : LK yjI yjJ 131 Tryz.f131 0 := lkN (u := (unG ylK y6u)) (ym fun t => by kernel_rfl) yra
theorem yvi : EV yjI yjJ 131 Tryz.f131 yoj WA [.bool] Y4 := fun x => by kernel_rfl
def yyl : QF := ⟨131, Y4, okN (n := 1) Tryz.func131 ⟨yrb, trivial⟩ yvi⟩
def ki (x : ysy) : Option yf7 :=
 some ((x.1 == x.2.2), x.2.2)
theorem yvj : EV [] lpN 251 Tryz.f251 yok ysz yi4 ki := fun x => by kernel_rfl
def yAj : QF := ⟨251, ki, okN (n := 0) Tryz.func251 trivial yvj⟩
abbrev zx : Type := ylL
def yK (k0 : Qz3 → Option R) (k1 : Int → Option R) (again : zx → Option R) (t2 : zx) : Option R :=
 bif (decide (t2.2.2.1 < t2.2.1)) then if (0 : Int) ≤ t2.2.2.1 then if t2.2.2.1 < (List.length t2.1 : Int) then Option.bind (ki ((yD t2.1 t2.2.2.1).1, (yD t2.1 t2.2.2.1).2, t2.2.2.2)) fun r1 => bif r1.1 then k0 (t2.2.2.1, r1.2) else again (t2.1, t2.2.1, (Go.IntKind.wrap .i64 (t2.2.2.1 + (1 : Int))), r1.2) else none else none else k1 t2.2.2.2
def Yg k0 k1 := zt (@yK R k0 k1) zJ
def yR (x : yd8) : Option Qz3 :=
 Yg (fun x2 => some x2) (fun x3 => some ((-1 : Int), x3)) (x.1, (List.length x.1 : Int), (0 : Int), x.2)
def y6v : List QF := [yAj]
def y0o (t : ylL) : St := ⟨zu t.1 :: .clo 251 901 :: dd 5 (vI t.2.1 :: vI t.2.2.1 :: dd 10 []), [(901, .box [vI t.2.2.2])]⟩
def y83 : Gk zx := fun κ => yK (fun t => κ none ⟨.dead :: .clo 251 901 :: dd 2 (vI t.1 :: dd 14 []), [(901, .box [vI t.2])]⟩) (fun t => κ (some 0) ⟨.dead :: .clo 251 901 :: dd 17 [], [(901, .box [vI t])]⟩)
def y6w : Lp := lpC 2 (unG ylM y0o) @y83 lpN
theorem ydB : LF y6v y6w 100000 2 Tryz.f250 0 y0o @y83 fun t => t := fun R κ again t => by kernel_rfl
theorem ydC : LK y6v y6w 100000 Tryz.f250 0 := lkN (u := (unG ylM y0o)) (ym fun t => by kernel_rfl) ydB
theorem yfx : EV y6v y6w 100000 Tryz.f250 yaT yd9 qz3 yR := fun x => by kernel_rfl
def yjK : QF := ⟨100000, yR, okN (n := 1) Tryz.func250 ⟨ydC, trivial⟩ yfx⟩
def Yp (x : yd8) : Option Int :=
 Option.bind (yR x) fun r1 => some r1.1
theorem yvk : EV [yjK] lpN 207 Tryz.f207 yol yd9 [(.int .i64)] Yp := fun x => by kernel_rfl
def yrc : QF := ⟨207, Yp, okN (n := 0) Tryz.func207 trivial yvk⟩
abbrev vc : Type := ylN
def jL (k0 : ys7 → Option R) (k1 : List yf → Option R) (again : vc → Option R) (t2 : vc) : Option R :=
 bif (decide (t2.2.2.2 < t2.2.2.1)) then if (0 : Int) ≤ t2.2.2.2 then if t2.2.2.2 < (List.length t2.2.1 : Int) then Option.bind (yE ((yD t2.2.1 t2.2.2.2).1, (1 : Int), (60 : Int))) fun r1 => Option.bind (bif (!r1) then some true else Option.bind (bif (decide (t2.2.2.2 > (0 : Int))) then if (0 : Int) ≤ (Go.IntKind.wrap .i64 (t2.2.2.2 - (1 : Int))) then if (Go.IntKind.wrap .i64 (t2.2.2.2 - (1 : Int))) < (List.length t2.1 : Int) then some (decide ((yD t2.1 (Go.IntKind.wrap .i64 (t2.2.2.2 - (1 : Int)))).1 ≥ (yD t2.2.1 t2.2.2.2).1)) else none else none else some false) fun u3 => some u3) fun u2 => Option.bind (bif u2 then some true else Option.bind (bif ((yD t2.2.1 t2.2.2.2).2 != (0 : Int)) then if (0 : Int) ≤ (0 : Int) then if (0 : Int) ≤ t2.2.2.2 then if t2.2.2.2 ≤ (List.length t2.1 : Int) then Option.bind (Yp ((List.drop (Int.toNat (0 : Int)) (List.take (Int.toNat t2.2.2.2) t2.1)), (yD t2.2.1 t2.2.2.2).2)) fun r6 => some (decide (r6 < (0 : Int))) else none else none else none else some false) fun u5 => some u5) fun u4 => bif u4 then k0 (t2.1, false) else again (t2.1, t2.2.1, t2.2.2.1, (Go.IntKind.wrap .i64 (t2.2.2.2 + (1 : Int)))) else none else none else k1 t2.1
def Qa k0 k1 := zt (@jL R k0 k1) zJ
def Jb (x : List yf) : Option Bool :=
 Qa (fun x7 => some x7.2) (fun x8 => some (decide ((List.length x8 : Int) ≤ (16 : Int)))) (x, x, (List.length x : Int), (0 : Int))
def yjL : List QF := [ydy, yrc]
def y6x (t : ylN) : St := ⟨zu t.1 :: dd 4 (zu t.2.1 :: vI t.2.2.1 :: vI t.2.2.2 :: dd 41 []), []⟩
def yh7 : Gk vc := fun κ => jL (fun t => κ none ⟨zu t.1 :: .dead :: vB t.2 :: dd 46 [], []⟩) (fun t => κ (some 0) ⟨zu t :: dd 48 [], []⟩)
def yjM : Lp := lpC 2 (unG ylO y6x) @yh7 lpN
theorem yrd : LF yjL yjM 132 2 Tryz.f132 0 y6x @yh7 fun t => t := fun R κ again t => by kernel_rfl
theorem yre : LK yjL yjM 132 Tryz.f132 0 := lkN (u := (unG ylO y6x)) (ym fun t => by kernel_rfl) yrd
theorem yvl : EV yjL yjM 132 Tryz.f132 yom [(.sl 89 yo)] [.bool] Jb := fun x => by kernel_rfl
def yym : QF := ⟨132, Jb, okN (n := 1) Tryz.func132 ⟨yre, trivial⟩ yvl⟩
def Wb (x : Int) : Option Bool :=
 Option.bind (yE (x, (0 : Int), (65535 : Int))) fun r1 => some r1
theorem yvm : EV [ydy] lpN 208 Tryz.f208 yon [(.int .i64)] [.bool] Wb := fun x => by kernel_rfl
def yAk : QF := ⟨208, Wb, okN (n := 0) Tryz.func208 trivial yvm⟩
abbrev kQ : Type := ylP
def ZR (k0 : yx7 → Option R) (k1 : List yg → Option R) (again : kQ → Option R) (t2 : kQ) : Option R :=
 bif (decide (t2.2.2.2 < t2.2.2.1)) then if (0 : Int) ≤ t2.2.2.2 then if t2.2.2.2 < (List.length t2.2.1 : Int) then Option.bind (yE ((zw t2.2.1 t2.2.2.2).1, (0 : Int), (999 : Int))) fun r1 => Option.bind (bif (!r1) then some true else Option.bind (Wb ((zw t2.2.1 t2.2.2.2).2.2)) fun r3 => some (!r3)) fun u2 => Option.bind (bif u2 then some true else Option.bind (bif ((zw t2.2.1 t2.2.2.2).2.2 != (0 : Int)) then some (!((zw t2.2.1 t2.2.2.2).2.1)) else some false) fun u5 => some u5) fun u4 => bif u4 then k0 (t2.1, false) else again (t2.1, t2.2.1, t2.2.2.1, (Go.IntKind.wrap .i64 (t2.2.2.2 + (1 : Int)))) else none else none else k1 t2.1
def qp k0 k1 := zt (@ZR R k0 k1) zJ
def jg (x : List yg) : Option Bool :=
 qp (fun x6 => some x6.2) (fun x7 => some ((List.length x7 : Int) == (24 : Int))) (x, x, (List.length x : Int), (0 : Int))
def yjN : List QF := [ydy, yAk]
def y6y (t : ylP) : St := ⟨yX t.1 :: dd 4 (yX t.2.1 :: vI t.2.2.1 :: vI t.2.2.2 :: dd 27 []), []⟩
def yh8 : Gk kQ := fun κ => ZR (fun t => κ none ⟨yX t.1 :: .dead :: vB t.2 :: dd 32 [], []⟩) (fun t => κ (some 0) ⟨yX t :: dd 34 [], []⟩)
def yjO : Lp := lpC 2 (unG ylQ y6y) @yh8 lpN
theorem yrf : LF yjN yjO 133 2 Tryz.f133 0 y6y @yh8 fun t => t := fun R κ again t => by kernel_rfl
theorem yrg : LK yjN yjO 133 Tryz.f133 0 := lkN (u := (unG ylQ y6y)) (ym fun t => by kernel_rfl) yrf
theorem yvn : EV yjN yjO 133 Tryz.f133 yoo [(.sl 95 yn)] [.bool] jg := fun x => by kernel_rfl
def yyn : QF := ⟨133, jg, okN (n := 1) Tryz.func133 ⟨yrg, trivial⟩ yvn⟩
abbrev vd : Type := ysa
def ve (k0 : yx8 → Option R) (k1 : ByteArray → Option R) (again : vd → Option R) (t2 : vd) : Option R :=
 bif (decide (t2.2 < ((ByteArray.size t2.1 : Nat) : Int))) then if (0 : Int) ≤ t2.2 then if h1 : Int.toNat t2.2 < ByteArray.size t2.1 then Option.bind (yE ((Go.IntKind.wrap .i64 ((UInt8.toNat (ByteArray.get t2.1 (Int.toNat t2.2) h1) : Nat) : Int)), (97 : Int), (122 : Int))) fun r2 => Option.bind (bif (!r2) then if (0 : Int) ≤ t2.2 then if h4 : Int.toNat t2.2 < ByteArray.size t2.1 then Option.bind (yE ((Go.IntKind.wrap .i64 ((UInt8.toNat (ByteArray.get t2.1 (Int.toNat t2.2) h4) : Nat) : Int)), (48 : Int), (57 : Int))) fun r5 => some (!r5) else none else none else some false) fun u3 => bif u3 then k0 (t2.1, false) else again (t2.1, (Go.IntKind.wrap .i64 (t2.2 + (1 : Int)))) else none else none else k1 t2.1
def Qb k0 k1 := zt (@ve R k0 k1) zJ
def Wc (x : ByteArray) : Option Bool :=
 Qb (fun x6 => some x6.2) (fun x7 => Option.bind (yE (((ByteArray.size x7 : Nat) : Int), (1 : Int), (6 : Int))) fun r8 => some r8) (x, (0 : Int))
def yjP : List QF := [ydy]
def y6z (t : ysa) : St := ⟨vS t.1 :: dd 2 (vI t.2 :: dd 23 []), []⟩
def yh9 : Gk vd := fun κ => ve (fun t => κ none ⟨vS t.1 :: .dead :: vB t.2 :: dd 24 [], []⟩) (fun t => κ (some 0) ⟨vS t :: dd 26 [], []⟩)
def yjQ : Lp := lpC 2 (unG ysb y6z) @yh9 lpN
theorem yrh : LF yjP yjQ 209 2 Tryz.f209 0 y6z @yh9 fun t => t := fun R κ again t => by kernel_rfl
theorem yri : LK yjP yjQ 209 Tryz.f209 0 := lkN (u := (unG ysb y6z)) (ym fun t => by kernel_rfl) yrh
theorem yvo : EV yjP yjQ 209 Tryz.f209 yop [.str] [.bool] Wc := fun x => by kernel_rfl
def yAl : QF := ⟨209, Wc, okN (n := 1) Tryz.func209 ⟨yri, trivial⟩ yvo⟩
abbrev vf : Type := ylR
def jM (k0 : List yh → Option R) (again : vf → Option R) (t5 : vf) : Option R :=
 bif (decide (t5.2.2.2.1 < t5.2.2.1)) then if (0 : Int) ≤ t5.2.2.2.1 then if t5.2.2.2.1 < (List.length t5.2.1 : Int) then bif ((yD t5.2.1 t5.2.2.2.1).2 == t5.1) then if (List.length t5.2.2.2.2 + List.length ([(yD t5.2.1 t5.2.2.2.1).1] : List yh)) * 8 < 140737488355328 then again (t5.1, t5.2.1, t5.2.2.1, (Go.IntKind.wrap .i64 (t5.2.2.2.1 + (1 : Int))), (t5.2.2.2.2 ++ ([(yD t5.2.1 t5.2.2.2.1).1] : List yh))) else none else again (t5.1, t5.2.1, t5.2.2.1, (Go.IntKind.wrap .i64 (t5.2.2.2.1 + (1 : Int))), t5.2.2.2.2) else none else none else k0 t5.2.2.2.2
def Qc k0 := zt (@jM R k0) zJ
def YS (x : yd8) : Option (List yh) :=
 bif (x.2 == (0 : Int)) then some ([] : List yh) else Qc (fun x1 => some x1) (x.2, x.1, (List.length x.1 : Int), (0 : Int), ([] : List yh))
def yjR : List QF := []
def y6A (t : ylR) : St := ⟨.dead :: vI t.1 :: dd 3 (.own 10000000 :: dd 6 (zu t.2.1 :: vI t.2.2.1 :: vI t.2.2.2.1 :: dd 14 [])), [(10000000, .root true 3 yd t.2.2.2.2)]⟩
def yha : Gk vf := fun κ => jM (fun t => κ (some 0) ⟨dd 5 (.own 10000000 :: dd 23 []), [(10000000, .root true 3 yd t)]⟩)
def yjS : Lp := lpC 5 (unG ylS y6A) @yha lpN
theorem yrj : LF yjR yjS 210 5 Tryz.f210 0 y6A @yha fun t => t := fun R κ again t => by kernel_rfl
theorem yrk : LK yjR yjS 210 Tryz.f210 0 := lkN (u := (unG ylS y6A)) (ym fun t => by kernel_rfl) yrj
theorem yvp : EV yjR yjS 210 Tryz.f210 yoq yd9 [(.sl 3 yd)] YS := fun x => by kernel_rfl
def ysi : QF := ⟨210, YS, okN (n := 1) Tryz.func210 ⟨yrk, trivial⟩ yvp⟩
def Wd (x : ywI) : Option ylT :=
 some ((x.2.1 == x.2.2.2.2.2.1), x.2.2.2.2.1, x.2.2.2.2.2.1, x.2.2.2.2.2.2.1, x.2.2.2.2.2.2.2)
theorem yvq : EV [] lpN 212 Tryz.f212 yor ywJ ylU Wd := fun x => by kernel_rfl
def yAm : QF := ⟨212, Wd, okN (n := 0) Tryz.func212 trivial yvq⟩
abbrev zq : Type := ylV
def yI (k0 : ylX → Option R) (k1 : ysv → Option R) (again : zq → Option R) (t2 : zq) : Option R :=
 bif (decide (t2.2.2.1 < t2.2.1)) then if (0 : Int) ≤ t2.2.2.1 then if t2.2.2.1 < (List.length t2.1 : Int) then Option.bind (Wd ((zd t2.1 t2.2.2.1).1, (zd t2.1 t2.2.2.1).2.1, (zd t2.1 t2.2.2.1).2.2.1, (zd t2.1 t2.2.2.1).2.2.2, t2.2.2.2.1, t2.2.2.2.2.1, t2.2.2.2.2.2.1, t2.2.2.2.2.2.2)) fun r1 => bif r1.1 then k0 (t2.2.2.1, r1.2) else again (t2.1, t2.2.1, (Go.IntKind.wrap .i64 (t2.2.2.1 + (1 : Int))), r1.2.1, r1.2.2.1, r1.2.2.2.1, r1.2.2.2.2) else none else none else k1 t2.2.2.2
def Y9 k0 k1 := zt (@yI R k0 k1) zJ
def yO (x : ylY) : Option ylX :=
 Y9 (fun x2 => some x2) (fun x3 => some ((-1 : Int), x3.1, x3.2.1, x3.2.2.1, x3.2.2.2)) (x.1, (List.length x.1 : Int), (0 : Int), x.2.1, x.2.2.1, x.2.2.2.1, x.2.2.2.2)
def y6B : List QF := [yAm]
def y0p (t : ylV) : St := ⟨zX t.1 :: .clo 212 901 :: dd 5 (vI t.2.1 :: vI t.2.2.1 :: dd 10 []), [(901, .box [vS t.2.2.2.1, vI t.2.2.2.2.1, vI t.2.2.2.2.2.1, vB t.2.2.2.2.2.2])]⟩
def y84 : Gk zq := fun κ => yI (fun t => κ none ⟨.dead :: .clo 212 901 :: dd 2 (vI t.1 :: dd 14 []), [(901, .box [vS t.2.1, vI t.2.2.1, vI t.2.2.2.1, vB t.2.2.2.2])]⟩) (fun t => κ (some 0) ⟨.dead :: .clo 212 901 :: dd 17 [], [(901, .box [vS t.1, vI t.2.1, vI t.2.2.1, vB t.2.2.2])]⟩)
def y6C : Lp := lpC 2 (unG ylW y0p) @y84 lpN
theorem ydD : LF y6B y6C 100002 2 Tryz.f252 0 y0p @y84 fun t => t := fun R κ again t => by kernel_rfl
theorem ydE : LK y6B y6C 100002 Tryz.f252 0 := lkN (u := (unG ylW y0p)) (ym fun t => by kernel_rfl) ydD
theorem yfy : EV y6B y6C 100002 Tryz.f252 yaU ylZ ysK yO := fun x => by kernel_rfl
def yjT : QF := ⟨100002, yO, okN (n := 1) Tryz.func252 ⟨ydE, trivial⟩ yfy⟩
def yA (x : ylY) : Option ylT :=
 Option.bind (yO x) fun r1 => some ((decide (r1.1 ≥ (0 : Int))), r1.2.1, r1.2.2.1, r1.2.2.2.1, r1.2.2.2.2)
theorem yfz : EV [yjT] lpN 100001 Tryz.f211 yaV ylZ ylU yA := fun x => by kernel_rfl
def yjU : QF := ⟨100001, yA, okN (n := 0) Tryz.func211 trivial yfz⟩
abbrev vg : Type := ym0
def jN (k0 : ygb → Option R) (k1 : y2s → Option R) (again : vg → Option R) (t2 : vg) : Option R :=
 bif (decide (t2.2.2.1 < t2.2.1)) then if (0 : Int) ≤ t2.2.2.1 then if t2.2.2.1 < (List.length t2.1 : Int) then Option.bind (Wc ((zd t2.1 t2.2.2.1).1)) fun r1 => Option.bind (bif (!r1) then some true else Option.bind (bif (decide (t2.2.2.1 > (0 : Int))) then if (0 : Int) ≤ (Go.IntKind.wrap .i64 (t2.2.2.1 - (1 : Int))) then if (Go.IntKind.wrap .i64 (t2.2.2.1 - (1 : Int))) < (List.length t2.2.2.2.2.2.2.2.1 : Int) then some (!Go.Op.bytesLess (ByteArray.toList ((zd t2.2.2.2.2.2.2.2.1 (Go.IntKind.wrap .i64 (t2.2.2.1 - (1 : Int)))).1)) (ByteArray.toList ((zd t2.1 t2.2.2.1).1))) else none else none else some false) fun u3 => some u3) fun u2 => Option.bind (bif u2 then some true else Option.bind (yE ((zd t2.1 t2.2.2.1).2.2.1, (1 : Int), (12 : Int))) fun r5 => some (!r5)) fun u4 => bif u4 then k0 (false, t2.2.2.2) else Option.bind (Yp (t2.2.2.2.2.2.1, (zd t2.1 t2.2.2.1).2.1)) fun r6 => Option.bind (bif (decide (r6 < (0 : Int))) then some true else Option.bind (YS (t2.2.2.2.2.2.1, (zd t2.1 t2.2.2.1).2.1)) fun r8 => some (decide ((List.length r8 : Int) > (0 : Int)))) fun u7 => bif u7 then k0 (false, t2.2.2.2) else if (0 : Int) ≤ (0 : Int) then if (0 : Int) ≤ t2.2.2.1 then if t2.2.2.1 ≤ (List.length t2.2.2.2.2.2.2.2.1 : Int) then Option.bind (yA ((List.drop (Int.toNat (0 : Int)) (List.take (Int.toNat t2.2.2.1) t2.2.2.2.2.2.2.2.1)), (zd t2.1 t2.2.2.1).1, (zd t2.1 t2.2.2.1).2.1, (zd t2.1 t2.2.2.1).2.2.1, (zd t2.1 t2.2.2.1).2.2.2)) fun r9 => bif r9.1 then k0 (false, t2.2.2.2) else again (t2.1, t2.2.1, (Go.IntKind.wrap .i64 (t2.2.2.1 + (1 : Int))), t2.2.2.2.1, t2.2.2.2.2.1, t2.2.2.2.2.2.1, t2.2.2.2.2.2.2.1, t2.2.2.2.2.2.2.2.1, t2.2.2.2.2.2.2.2.2) else none else none else none else none else none else k1 t2.2.2.2
def Qd k0 k1 := zt (@jN R k0 k1) zJ
def We (x : y2s) : Option Bool :=
 Qd (fun x10 => some x10.1) (fun x11 => some (decide ((List.length x11.2.2.2.2.1 : Int) ≤ (6 : Int)))) (x.2.2.2.2.1, (List.length x.2.2.2.2.1 : Int), (0 : Int), x.1, x.2.1, x.2.2.1, x.2.2.2.1, x.2.2.2.2.1, x.2.2.2.2.2)
def yjV : List QF := [ydy, yrc, yAl, ysi, yjU]
def y6D (t : ym0) : St := ⟨.dead :: .box 1 0 :: dd 4 (zX t.1 :: vI t.2.1 :: vI t.2.2.1 :: dd 56 []), [(1, .box [ze t.2.2.2.1, yC t.2.2.2.2.1, zu t.2.2.2.2.2.1, yX t.2.2.2.2.2.2.1, zX t.2.2.2.2.2.2.2.1, vI t.2.2.2.2.2.2.2.2])]⟩
def yhb : Gk vg := fun κ => jN (fun t => κ none ⟨.dead :: .box 1 0 :: vB t.1 :: dd 62 [], [(1, .box [ze t.2.1, yC t.2.2.1, zu t.2.2.2.1, yX t.2.2.2.2.1, zX t.2.2.2.2.2.1, vI t.2.2.2.2.2.2])]⟩) (fun t => κ (some 0) ⟨.dead :: .box 1 0 :: dd 63 [], [(1, .box [ze t.1, yC t.2.1, zu t.2.2.1, yX t.2.2.2.1, zX t.2.2.2.2.1, vI t.2.2.2.2.2])]⟩)
def yjW : Lp := lpC 2 (unG ym1 y6D) @yhb lpN
theorem yrl : LF yjV yjW 135 2 Tryz.f135 0 y6D @yhb fun t => t := fun R κ again t => by kernel_rfl
theorem yrm : LK yjV yjW 135 Tryz.f135 0 := lkN (u := (unG ym1 y6D)) (ym fun t => by kernel_rfl) yrl
theorem yvr : EV yjV yjW 135 Tryz.f135 yos WB [.bool] We := fun x => by kernel_rfl
def yAn : QF := ⟨135, We, okN (n := 1) Tryz.func135 ⟨yrm, trivial⟩ yvr⟩
abbrev WY : Type := ym2
def Zj (k0 : List y8 → Option R) (again : WY → Option R) (t3 : WY) : Option R :=
 bif (decide (t3.2.2.1 < t3.2.1)) then if (0 : Int) ≤ t3.2.2.1 then if t3.2.2.1 < (List.length t3.1 : Int) then Option.bind (yG (ya t3.1 t3.2.2.1)) fun r1 => if (List.length t3.2.2.2 + List.length r1) * 40 < 140737488355328 then again (t3.1, t3.2.1, (Go.IntKind.wrap .i64 (t3.2.2.1 + (1 : Int))), (t3.2.2.2 ++ r1)) else none else none else none else k0 t3.2.2.2
def Vy k0 := zt (@Zj R k0) zJ
def zg (x : y3Y) : Option (List y8) :=
 Vy (fun x2 => some x2) (x.2, (List.length x.2 : Int), (0 : Int), ([] : List y8))
def yjX : List QF := [yr9]
def y6E (t : ym2) : St := ⟨dd 3 (.own 10000000 :: dd 4 (yC t.1 :: vI t.2.1 :: vI t.2.2.1 :: dd 9 [])), [(10000000, .root true 106 yb t.2.2.2)]⟩
def yhc : Gk WY := fun κ => Zj (fun t => κ (some 0) ⟨dd 3 (.own 10000000 :: dd 16 []), [(10000000, .root true 106 yb t)]⟩)
def yjY : Lp := lpC 3 (unG ym3 y6E) @yhc lpN
theorem yrn : LF yjX yjY 213 3 Tryz.f213 0 y6E @yhc fun t => t := fun R κ again t => by kernel_rfl
theorem yro : LK yjX yjY 213 Tryz.f213 0 := lkN (u := (unG ym3 y6E)) (ym fun t => by kernel_rfl) yrn
theorem yvs : EV yjX yjY 213 Tryz.f213 yot WA [(.sl 106 yb)] zg := fun x => by kernel_rfl
def ysj : QF := ⟨213, zg, okN (n := 1) Tryz.func213 ⟨yro, trivial⟩ yvs⟩
def Wf (x : ysd) : Option yxd :=
 Option.bind (yE (x.2.1, (0 : Int), (Go.IntKind.wrap .i64 ((List.length x.1 : Int) - (1 : Int))))) fun r1 => Option.bind (bif (!r1) then some true else if (0 : Int) ≤ x.2.1 then if x.2.1 < (List.length x.1 : Int) then some (!((zw x.1 x.2.1).2.1)) else none else none) fun u2 => Option.bind (bif u2 then some true else if (0 : Int) ≤ x.2.1 then if x.2.1 < (List.length x.1 : Int) then some ((zw x.1 x.2.1).1 != x.2.2) else none else none) fun u3 => bif u3 then some ((0 : Int), false) else if (0 : Int) ≤ x.2.1 then if x.2.1 < (List.length x.1 : Int) then some ((zw x.1 x.2.1).2.2, true) else none else none
theorem yvt : EV [ydy] lpN 214 Tryz.f214 yov yse yxe Wf := fun x => by kernel_rfl
def yAo : QF := ⟨214, Wf, okN (n := 0) Tryz.func214 trivial yvt⟩
abbrev Wg : Type := ym4
def YT (k0 : Int → Option R) (again : Wg → Option R) (t3 : Wg) : Option R :=
 bif (decide (t3.2.2.2 < t3.2.2.1)) then if (0 : Int) ≤ t3.2.2.2 then if t3.2.2.2 < (List.length t3.2.1 : Int) then bif (zw t3.2.1 t3.2.2.2).2.1 then again ((Go.IntKind.wrap .i64 (t3.1 + (1 : Int))), t3.2.1, t3.2.2.1, (Go.IntKind.wrap .i64 (t3.2.2.2 + (1 : Int)))) else again (t3.1, t3.2.1, t3.2.2.1, (Go.IntKind.wrap .i64 (t3.2.2.2 + (1 : Int)))) else none else none else k0 t3.1
def vT k0 := zt (@YT R k0) zJ
def ZS (x : List yg) : Option Int :=
 vT (fun x1 => some x1) ((0 : Int), x, (List.length x : Int), (0 : Int))
def yjZ : List QF := []
def y6F (t : ym4) : St := ⟨dd 3 (vI t.1 :: dd 2 (yX t.2.1 :: vI t.2.2.1 :: vI t.2.2.2 :: dd 9 [])), []⟩
def yhd : Gk Wg := fun κ => YT (fun t => κ (some 0) ⟨dd 3 (vI t :: dd 14 []), []⟩)
def yk0 : Lp := lpC 3 (unG ym5 y6F) @yhd lpN
theorem yrp : LF yjZ yk0 215 3 Tryz.f215 0 y6F @yhd fun t => t := fun R κ again t => by kernel_rfl
theorem yrq : LK yjZ yk0 215 Tryz.f215 0 := lkN (u := (unG ym5 y6F)) (ym fun t => by kernel_rfl) yrp
theorem yvu : EV yjZ yk0 215 Tryz.f215 yow [(.sl 95 yn)] [(.int .i64)] ZS := fun x => by kernel_rfl
def yAp : QF := ⟨215, ZS, okN (n := 1) Tryz.func215 ⟨yrq, trivial⟩ yvu⟩
abbrev kR : Type := ym6
def ZT (k0 : ysB → Option R) (k1 : y9c → Option R) (again : kR → Option R) (t4 : kR) : Option R :=
 bif (decide (t4.2.2.1 < t4.2.1)) then if (0 : Int) ≤ t4.2.2.1 then if t4.2.2.1 < (List.length t4.2.2.2.2.2.2.2.2.2.2 : Int) then Option.bind (Yp (t4.2.2.2.2.2.1, (y0 t4.2.2.2.2.2.2.2.2.2.2 t4.2.2.1).2.1)) fun r2 => bif (decide (r2 < (0 : Int))) then k0 (false, t4.1, t4.2.2.2.1, t4.2.2.2.2.1, t4.2.2.2.2.2.1, t4.2.2.2.2.2.2.1, t4.2.2.2.2.2.2.2.1, t4.2.2.2.2.2.2.2.2.1) else bif ((y0 t4.2.2.2.2.2.2.2.2.2.2 t4.2.2.1).2.2.1 != (1 : Int)) then again (t4.1, t4.2.1, (Go.IntKind.wrap .i64 (t4.2.2.1 + (1 : Int))), t4.2.2.2.1, t4.2.2.2.2.1, t4.2.2.2.2.2.1, t4.2.2.2.2.2.2.1, t4.2.2.2.2.2.2.2.1, t4.2.2.2.2.2.2.2.2.1, t4.2.2.2.2.2.2.2.2.2.1, t4.2.2.2.2.2.2.2.2.2.2) else Option.bind (Wf (t4.2.2.2.2.2.2.1, (y0 t4.2.2.2.2.2.2.2.2.2.2 t4.2.2.1).2.2.2.1, (y0 t4.2.2.2.2.2.2.2.2.2.2 t4.2.2.1).2.2.2.2)) fun r3 => Option.bind (bif (!r3.2) then some true else if (0 : Int) ≤ (y0 t4.2.2.2.2.2.2.2.2.2.2 t4.2.2.1).2.2.2.1 then if (y0 t4.2.2.2.2.2.2.2.2.2.2 t4.2.2.1).2.2.2.1 < (List.length t4.2.2.2.2.2.2.2.2.2.1 : Int) then some (yd7 t4.2.2.2.2.2.2.2.2.2.1 ((y0 t4.2.2.2.2.2.2.2.2.2.2 t4.2.2.1).2.2.2.1)) else none else none) fun u4 => bif u4 then k0 (false, t4.1, t4.2.2.2.1, t4.2.2.2.2.1, t4.2.2.2.2.2.1, t4.2.2.2.2.2.2.1, t4.2.2.2.2.2.2.2.1, t4.2.2.2.2.2.2.2.2.1) else if (0 : Int) ≤ (y0 t4.2.2.2.2.2.2.2.2.2.2 t4.2.2.1).2.2.2.1 then if (y0 t4.2.2.2.2.2.2.2.2.2.2 t4.2.2.1).2.2.2.1 < (List.length t4.2.2.2.2.2.2.2.2.2.1 : Int) then again ((Go.IntKind.wrap .i64 (t4.1 + (1 : Int))), t4.2.1, (Go.IntKind.wrap .i64 (t4.2.2.1 + (1 : Int))), t4.2.2.2.1, t4.2.2.2.2.1, t4.2.2.2.2.2.1, t4.2.2.2.2.2.2.1, t4.2.2.2.2.2.2.2.1, t4.2.2.2.2.2.2.2.2.1, (List.set t4.2.2.2.2.2.2.2.2.2.1 (Int.toNat ((y0 t4.2.2.2.2.2.2.2.2.2.2 t4.2.2.1).2.2.2.1)) true), t4.2.2.2.2.2.2.2.2.2.2) else none else none else none else none else k1 (t4.1, t4.2.2.2.1, t4.2.2.2.2.1, t4.2.2.2.2.2.1, t4.2.2.2.2.2.2.1, t4.2.2.2.2.2.2.2.1, t4.2.2.2.2.2.2.2.2.1)
def qq k0 k1 := zt (@ZT R k0 k1) zJ
def JE (x : y2s) : Option Bool :=
 if (0 : Int) ≤ (24 : Int) then if (24 : Int) ≤ (24 : Int) then if (24 : Int) * ((1 : Nat) : Int) ≤ 140737488351232 then Option.bind (zg (x.1, x.2.1)) fun r1 => qq (fun x5 => some x5.1) (fun x6 => Option.bind (ZS x6.2.2.2.2.1) fun r7 => some (r7 == x6.1)) ((0 : Int), (List.length r1 : Int), (0 : Int), x.1, x.2.1, x.2.2.1, x.2.2.2.1, x.2.2.2.2.1, x.2.2.2.2.2, (List.replicate (Int.toNat (24 : Int)) yd6), r1) else none else none else none
def yk1 : List QF := [yrc, ysj, yAo, yAp]
def y6G (t : ym6) : St := ⟨.dead :: .box 1 0 :: .dead :: .own 10000000 :: vI t.1 :: dd 7 (.own 10000001 :: vI t.2.1 :: vI t.2.2.1 :: dd 43 []), [(1, .box [ze t.2.2.2.1, yC t.2.2.2.2.1, zu t.2.2.2.2.2.1, yX t.2.2.2.2.2.2.1, zX t.2.2.2.2.2.2.2.1, vI t.2.2.2.2.2.2.2.2.1]), (10000000, .root true 4 y3s t.2.2.2.2.2.2.2.2.2.1), (10000001, .root true 106 yb t.2.2.2.2.2.2.2.2.2.2)]⟩
def yhe : Gk kR := fun κ => ZT (fun t => κ none ⟨.dead :: .box 1 0 :: vB t.1 :: .dead :: vI t.2.1 :: dd 53 [], [(1, .box [ze t.2.2.1, yC t.2.2.2.1, zu t.2.2.2.2.1, yX t.2.2.2.2.2.1, zX t.2.2.2.2.2.2.1, vI t.2.2.2.2.2.2.2])]⟩) (fun t => κ (some 0) ⟨.dead :: .box 1 0 :: dd 2 (vI t.1 :: dd 53 []), [(1, .box [ze t.2.1, yC t.2.2.1, zu t.2.2.2.1, yX t.2.2.2.2.1, zX t.2.2.2.2.2.1, vI t.2.2.2.2.2.2])]⟩)
def yk2 : Lp := lpC 4 (unG ym7 y6G) @yhe lpN
theorem yrr : LF yk1 yk2 136 4 Tryz.f136 0 y6G @yhe fun t => t := fun R κ again t => by kernel_rfl
theorem yrs : LK yk1 yk2 136 Tryz.f136 0 := lkN (u := (unG ym7 y6G)) (ym fun t => by kernel_rfl) yrr
theorem yvv : EV yk1 yk2 136 Tryz.f136 yox WB [.bool] JE := fun x => by kernel_rfl
def yAq : QF := ⟨136, JE, okN (n := 1) Tryz.func136 ⟨yrs, trivial⟩ yvv⟩
abbrev vh : Type := ym8
def jO (k0 : ygb → Option R) (k1 : y2s → Option R) (again : vh → Option R) (t4 : vh) : Option R :=
 bif (decide (t4.2.2.1 < t4.2.1)) then if (0 : Int) ≤ t4.2.2.1 then if t4.2.2.1 < (List.length t4.1 : Int) then bif (decide ((yD t4.1 t4.2.2.1).1 ≥ t4.2.2.2.2.2.2.2.2)) then k0 (false, t4.2.2.2) else again (t4.1, t4.2.1, (Go.IntKind.wrap .i64 (t4.2.2.1 + (1 : Int))), t4.2.2.2.1, t4.2.2.2.2.1, t4.2.2.2.2.2.1, t4.2.2.2.2.2.2.1, t4.2.2.2.2.2.2.2.1, t4.2.2.2.2.2.2.2.2) else none else none else k1 t4.2.2.2
def Qe k0 k1 := zt (@jO R k0 k1) zJ
def Ym (x : y2s) : Option Bool :=
 Option.bind (Y4 (x.1, x.2.1)) fun r1 => Option.bind (bif (!r1) then some true else Option.bind (Jb x.2.2.1) fun r3 => some (!r3)) fun u2 => Option.bind (bif u2 then some true else Option.bind (jg x.2.2.2.1) fun r5 => some (!r5)) fun u4 => Option.bind (bif u4 then some true else Option.bind (yE (x.2.2.2.2.2, (1 : Int), (61 : Int))) fun r7 => some (!r7)) fun u6 => bif u6 then some false else Qe (fun x8 => some x8.1) (fun x9 => Option.bind (We x9) fun r10 => Option.bind (bif r10 then Option.bind (JE x9) fun r12 => some r12 else some false) fun u11 => some u11) (x.2.2.1, (List.length x.2.2.1 : Int), (0 : Int), x.1, x.2.1, x.2.2.1, x.2.2.2.1, x.2.2.2.2.1, x.2.2.2.2.2)
def yvw : List QF := [yyl, yym, yyn, ydy, yAn, yAq]
def y9W (t : ym8) : St := ⟨.dead :: .box 1 0 :: dd 26 (zu t.1 :: vI t.2.1 :: vI t.2.2.1 :: dd 15 []), [(1, .box [ze t.2.2.2.1, yC t.2.2.2.2.1, zu t.2.2.2.2.2.1, yX t.2.2.2.2.2.2.1, zX t.2.2.2.2.2.2.2.1, vI t.2.2.2.2.2.2.2.2])]⟩
def yrt : Gk vh := fun κ => jO (fun t => κ none ⟨.dead :: .box 1 0 :: vB t.1 :: dd 43 [], [(1, .box [ze t.2.1, yC t.2.2.1, zu t.2.2.2.1, yX t.2.2.2.2.1, zX t.2.2.2.2.2.1, vI t.2.2.2.2.2.2])]⟩) (fun t => κ (some 0) ⟨.dead :: .box 1 0 :: dd 44 [], [(1, .box [ze t.1, yC t.2.1, zu t.2.2.1, yX t.2.2.2.1, zX t.2.2.2.2.1, vI t.2.2.2.2.2])]⟩)
def yvx : Lp := lpC 4 (unG ym9 y9W) @yrt lpN
theorem yvy : LF yvw yvx 56 4 Tryz.f56 0 y9W @yrt fun t => t := fun R κ again t => by kernel_rfl
theorem yvz : LK yvw yvx 56 Tryz.f56 0 := lkN (u := (unG ym9 y9W)) (ym fun t => by kernel_rfl) yvy
theorem yAr : EV yvw yvx 56 Tryz.f56 yxO WB [.bool] Ym := fun x => by kernel_rfl
def q56 : QF := ⟨56, Ym, okN (n := 1) Tryz.func56 ⟨yvz, trivial⟩ yAr⟩
def Kg (x : ywa) : Option yf7 :=
 some ((x.2.1 == x.2.2.2.2), x.2.2.2.2)
theorem yvA : EV [] lpN 291 Tryz.f291 yoy ywb yi4 Kg := fun x => by kernel_rfl
def yAs : QF := ⟨291, Kg, okN (n := 0) Tryz.func291 trivial yvA⟩
abbrev zy : Type := yma
def yP (k0 : Qz3 → Option R) (k1 : Int → Option R) (again : zy → Option R) (t2 : zy) : Option R :=
 bif (decide (t2.2.2.1 < t2.2.1)) then if (0 : Int) ≤ t2.2.2.1 then if t2.2.2.1 < (List.length t2.1 : Int) then Option.bind (Kg ((zd t2.1 t2.2.2.1).1, (zd t2.1 t2.2.2.1).2.1, (zd t2.1 t2.2.2.1).2.2.1, (zd t2.1 t2.2.2.1).2.2.2, t2.2.2.2)) fun r1 => bif r1.1 then k0 (t2.2.2.1, r1.2) else again (t2.1, t2.2.1, (Go.IntKind.wrap .i64 (t2.2.2.1 + (1 : Int))), r1.2) else none else none else k1 t2.2.2.2
def Yq k0 k1 := zt (@yP R k0 k1) zJ
def yU (x : ymc) : Option Qz3 :=
 Yq (fun x2 => some x2) (fun x3 => some ((-1 : Int), x3)) (x.1, (List.length x.1 : Int), (0 : Int), x.2)
def y6H : List QF := [yAs]
def y0q (t : yma) : St := ⟨zX t.1 :: .clo 291 901 :: dd 5 (vI t.2.1 :: vI t.2.2.1 :: dd 10 []), [(901, .box [vI t.2.2.2])]⟩
def y85 : Gk zy := fun κ => yP (fun t => κ none ⟨.dead :: .clo 291 901 :: dd 2 (vI t.1 :: dd 14 []), [(901, .box [vI t.2])]⟩) (fun t => κ (some 0) ⟨.dead :: .clo 291 901 :: dd 17 [], [(901, .box [vI t])]⟩)
def y6I : Lp := lpC 2 (unG ymb y0q) @y85 lpN
theorem ydF : LF y6H y6I 100004 2 Tryz.f252 0 y0q @y85 fun t => t := fun R κ again t => by kernel_rfl
theorem ydG : LK y6H y6I 100004 Tryz.f252 0 := lkN (u := (unG ymb y0q)) (ym fun t => by kernel_rfl) ydF
theorem yfA : EV y6H y6I 100004 Tryz.f252 yaW ymd qz3 yU := fun x => by kernel_rfl
def yk3 : QF := ⟨100004, yU, okN (n := 1) Tryz.func252 ⟨ydG, trivial⟩ yfA⟩
def z6 (x : ymc) : Option yf7 :=
 Option.bind (yU x) fun r1 => some ((decide (r1.1 ≥ (0 : Int))), r1.2)
theorem yfB : EV [yk3] lpN 100003 Tryz.f211 yaX ymd yi4 z6 := fun x => by kernel_rfl
def yk4 : QF := ⟨100003, z6, okN (n := 0) Tryz.func211 trivial yfB⟩
def WZ (x : ylb) : Option Bool :=
 Option.bind (z6 (x.2.2.2.2.1, x.2.2.2.2.2.2)) fun r1 => some (!r1.1)
theorem yvB : EV [yk4] lpN 270 Tryz.f270 yoz ylc [.bool] WZ := fun x => by kernel_rfl
def yyo : QF := ⟨270, WZ, okN (n := 0) Tryz.func270 trivial yvB⟩
abbrev Wh : Type := yme
def Wi (k0 : List yh → Option R) (again : Wh → Option R) (t3 : Wh) : Option R :=
 bif (decide (t3.2.2.2.1 < t3.2.2.1)) then Option.bind (Yp (t3.1, t3.2.1)) fun r1 => bif (decide (r1 < (0 : Int))) then k0 t3.2.2.2.2 else if (List.length t3.2.2.2.2 + List.length ([t3.2.1] : List yh)) * 8 < 140737488355328 then if (0 : Int) ≤ r1 then if r1 < (List.length t3.1 : Int) then again (t3.1, (yD t3.1 r1).2, t3.2.2.1, (Go.IntKind.wrap .i64 (t3.2.2.2.1 + (1 : Int))), (t3.2.2.2.2 ++ ([t3.2.1] : List yh))) else none else none else none else k0 t3.2.2.2.2
def Qg k0 := zt (@Wi R k0) zJ
def Jc (x : yd8) : Option (List yh) :=
 Qg (fun x2 => some x2) (x.1, x.2, (Go.IntKind.wrap .i64 ((List.length x.1 : Int) + (1 : Int))), (0 : Int), ([] : List yh))
def yk5 : List QF := [yrc]
def y6J (t : yme) : St := ⟨zu t.1 :: vI t.2.1 :: dd 3 (.own 10000000 :: dd 4 (vI t.2.2.1 :: vI t.2.2.2.1 :: dd 17 [])), [(10000000, .root true 3 yd t.2.2.2.2)]⟩
def yhf : Gk Wh := fun κ => Wi (fun t => κ (some 0) ⟨dd 5 (.own 10000000 :: dd 23 []), [(10000000, .root true 3 yd t)]⟩)
def yk6 : Lp := lpC 3 (unG ymf y6J) @yhf lpN
theorem yru : LF yk5 yk6 308 3 Tryz.f308 0 y6J @yhf fun t => t := fun R κ again t => by kernel_rfl
theorem yrv : LK yk5 yk6 308 Tryz.f308 0 := lkN (u := (unG ymf y6J)) (ym fun t => by kernel_rfl) yru
theorem yvC : EV yk5 yk6 308 Tryz.f308 yoA yd9 [(.sl 3 yd)] Jc := fun x => by kernel_rfl
def yyp : QF := ⟨308, Jc, okN (n := 1) Tryz.func308 ⟨yrv, trivial⟩ yvC⟩
abbrev vi : Type := ymg
def jP (k0 : List y8 → Option R) (again : vi → Option R) (t3 : vi) : Option R :=
 bif (decide (t3.2.2.1 < t3.2.1)) then if (0 : Int) ≤ t3.2.2.1 then if t3.2.2.1 < (List.length t3.2.2.2.2 : Int) then bif ((y0 t3.2.2.2.2 t3.2.2.1).1 == t3.1) then if (List.length t3.2.2.2.1 + List.length ([((y0 t3.2.2.2.2 t3.2.2.1).1, (y0 t3.2.2.2.2 t3.2.2.1).2.1, (y0 t3.2.2.2.2 t3.2.2.1).2.2.1, (y0 t3.2.2.2.2 t3.2.2.1).2.2.2.1, (y0 t3.2.2.2.2 t3.2.2.1).2.2.2.2)] : List y8)) * 40 < 140737488355328 then again (t3.1, t3.2.1, (Go.IntKind.wrap .i64 (t3.2.2.1 + (1 : Int))), (t3.2.2.2.1 ++ ([((y0 t3.2.2.2.2 t3.2.2.1).1, (y0 t3.2.2.2.2 t3.2.2.1).2.1, (y0 t3.2.2.2.2 t3.2.2.1).2.2.1, (y0 t3.2.2.2.2 t3.2.2.1).2.2.2.1, (y0 t3.2.2.2.2 t3.2.2.1).2.2.2.2)] : List y8)), t3.2.2.2.2) else none else again (t3.1, t3.2.1, (Go.IntKind.wrap .i64 (t3.2.2.1 + (1 : Int))), t3.2.2.2.1, t3.2.2.2.2) else none else none else k0 t3.2.2.2.1
def Qh k0 := zt (@jP R k0) zJ
def Wj (x : ys5) : Option (List y8) :=
 Option.bind (zg (x.1, x.2.1)) fun r1 => Qh (fun x2 => some x2) (x.2.2, (List.length r1 : Int), (0 : Int), ([] : List y8), r1)
def yk7 : List QF := [ysj]
def y6K (t : ymg) : St := ⟨.dead :: vI t.1 :: dd 3 (.own 10000000 :: dd 4 (.own 10000001 :: vI t.2.1 :: vI t.2.2.1 :: dd 13 [])), [(10000000, .root true 106 yb t.2.2.2.1), (10000001, .root true 106 yb t.2.2.2.2)]⟩
def yhg : Gk vi := fun κ => jP (fun t => κ (some 0) ⟨dd 5 (.own 10000000 :: dd 20 []), [(10000000, .root true 106 yb t)]⟩)
def yk8 : Lp := lpC 3 (unG ymh y6K) @yhg lpN
theorem yrw : LF yk7 yk8 313 3 Tryz.f313 0 y6K @yhg fun t => t := fun R κ again t => by kernel_rfl
theorem yrx : LK yk7 yk8 313 Tryz.f313 0 := lkN (u := (unG ymh y6K)) (ym fun t => by kernel_rfl) yrw
theorem yvD : EV yk7 yk8 313 Tryz.f313 yoB ys6 [(.sl 106 yb)] Wj := fun x => by kernel_rfl
def yAt : QF := ⟨313, Wj, okN (n := 1) Tryz.func313 ⟨yrx, trivial⟩ yvD⟩
abbrev Jj : Type := ymi
def Yh (k0 : Int → Option R) (k1 : Unit → Option R) (again : Jj → Option R) (t2 : Jj) : Option R :=
 bif (decide (t2.2.2.2 < t2.2.2.1)) then if (0 : Int) ≤ t2.2.2.2 then if t2.2.2.2 < (List.length t2.1 : Int) then bif (t2.2.1 == (z9 t2.1 t2.2.2.2)) then k0 t2.2.2.2 else again (t2.1, t2.2.1, t2.2.2.1, (Go.IntKind.wrap .i64 (t2.2.2.2 + (1 : Int)))) else none else none else k1 ()
def K1 k0 k1 := zt (@Yh R k0 k1) zJ
def YU (x : Qz0) : Option Int :=
 K1 (fun x1 => some x1) (fun x2 => some (-1 : Int)) (x.1, x.2, (List.length x.1 : Int), (0 : Int))
def yk9 : List QF := []
def y6L (t : ymi) : St := ⟨ze t.1 :: vI t.2.1 :: dd 5 (vI t.2.2.1 :: vI t.2.2.2 :: dd 10 []), []⟩
def yhh : Gk Jj := fun κ => Yh (fun t => κ none ⟨dd 4 (vI t :: dd 14 []), []⟩) (fun t => κ (some 0) ⟨dd 19 [], []⟩)
def yka : Lp := lpC 2 (unG ymj y6L) @yhh lpN
theorem yry : LF yk9 yka 315 2 Tryz.f315 0 y6L @yhh fun t => t := fun R κ again t => by kernel_rfl
theorem yrz : LK yk9 yka 315 Tryz.f315 0 := lkN (u := (unG ymj y6L)) (ym fun t => by kernel_rfl) yry
theorem yvE : EV yk9 yka 315 Tryz.f315 yoC qz0 [(.int .i64)] YU := fun x => by kernel_rfl
def yAu : QF := ⟨315, YU, okN (n := 1) Tryz.func315 ⟨yrz, trivial⟩ yvE⟩
def Y8 (x : Qz0) : Option Bool :=
 Option.bind (YU x) fun r1 => some (decide (r1 ≥ (0 : Int)))
theorem yvF : EV [yAu] lpN 314 Tryz.f314 yoD qz0 [.bool] Y8 := fun x => by kernel_rfl
def yAv : QF := ⟨314, Y8, okN (n := 0) Tryz.func314 trivial yvF⟩
abbrev vj : Type := ymk
def jQ (k0 : yxo → Option R) (again : vj → Option R) (t3 : vj) : Option R :=
 bif (decide (t3.2.2.2.1 < t3.2.2.1)) then if (0 : Int) ≤ t3.2.2.2.1 then if t3.2.2.2.1 < (List.length t3.2.2.2.2.2.2.2.2.2.2.2.2.2.2 : Int) then Option.bind (Y8 (t3.1, (y0 t3.2.2.2.2.2.2.2.2.2.2.2.2.2.2 t3.2.2.2.1).2.1)) fun r2 => Option.bind (bif r2 then Option.bind (bif (!t3.2.1) then some true else some (decide ((y0 t3.2.2.2.2.2.2.2.2.2.2.2.2.2.2 t3.2.2.2.1).2.1 > t3.2.2.2.2.2.2.2.2.2.2.1))) fun u4 => some u4 else some false) fun u3 => bif u3 then again (t3.1, true, t3.2.2.1, (Go.IntKind.wrap .i64 (t3.2.2.2.1 + (1 : Int))), t3.2.2.2.2.1, t3.2.2.2.2.2.1, t3.2.2.2.2.2.2.1, t3.2.2.2.2.2.2.2.1, t3.2.2.2.2.2.2.2.2.1, (y0 t3.2.2.2.2.2.2.2.2.2.2.2.2.2.2 t3.2.2.2.1).1, (y0 t3.2.2.2.2.2.2.2.2.2.2.2.2.2.2 t3.2.2.2.1).2.1, (y0 t3.2.2.2.2.2.2.2.2.2.2.2.2.2.2 t3.2.2.2.1).2.2.1, (y0 t3.2.2.2.2.2.2.2.2.2.2.2.2.2.2 t3.2.2.2.1).2.2.2.1, (y0 t3.2.2.2.2.2.2.2.2.2.2.2.2.2.2 t3.2.2.2.1).2.2.2.2, t3.2.2.2.2.2.2.2.2.2.2.2.2.2.2) else again (t3.1, t3.2.1, t3.2.2.1, (Go.IntKind.wrap .i64 (t3.2.2.2.1 + (1 : Int))), t3.2.2.2.2.1, t3.2.2.2.2.2.1, t3.2.2.2.2.2.2.1, t3.2.2.2.2.2.2.2.1, t3.2.2.2.2.2.2.2.2.1, t3.2.2.2.2.2.2.2.2.2.1, t3.2.2.2.2.2.2.2.2.2.2.1, t3.2.2.2.2.2.2.2.2.2.2.2.1, t3.2.2.2.2.2.2.2.2.2.2.2.2.1, t3.2.2.2.2.2.2.2.2.2.2.2.2.2.1, t3.2.2.2.2.2.2.2.2.2.2.2.2.2.2) else none else none else k0 (t3.2.1, t3.2.2.2.2.1, t3.2.2.2.2.2.1, t3.2.2.2.2.2.2.1, t3.2.2.2.2.2.2.2.1, t3.2.2.2.2.2.2.2.2.1, t3.2.2.2.2.2.2.2.2.2.1, t3.2.2.2.2.2.2.2.2.2.2.1, t3.2.2.2.2.2.2.2.2.2.2.2.1, t3.2.2.2.2.2.2.2.2.2.2.2.2.1, t3.2.2.2.2.2.2.2.2.2.2.2.2.2.1)
def Qi k0 := zt (@jQ R k0) zJ
def ZF (x : yxp) : Option ych :=
 Option.bind (Wj (x.1, x.2.1, x.2.2.1)) fun r1 => Qi (fun x5 => some (x5.2.2.2.2.2.2.1, x5.2.2.2.2.2.2.2.1, x5.2.2.2.2.2.2.2.2.1, x5.2.2.2.2.2.2.2.2.2.1, x5.2.2.2.2.2.2.2.2.2.2, x5.1)) (x.2.2.2, false, (List.length r1 : Int), (0 : Int), (0 : Int), (0 : Int), (0 : Int), (0 : Int), (0 : Int), (0 : Int), (0 : Int), (0 : Int), (0 : Int), (0 : Int), r1)
def ykb : List QF := [yAt, yAv]
def y6M (t : ymk) : St := ⟨dd 2 (ze t.1 :: dd 3 (.box 6 0 :: .dead :: .box 8 0 :: vB t.2.1 :: dd 5 (.own 10000000 :: vI t.2.2.1 :: vI t.2.2.2.1 :: dd 22 []))), [(6, .box [vI t.2.2.2.2.1, vI t.2.2.2.2.2.1, vI t.2.2.2.2.2.2.1, vI t.2.2.2.2.2.2.2.1, vI t.2.2.2.2.2.2.2.2.1]), (8, .box [vI t.2.2.2.2.2.2.2.2.2.1, vI t.2.2.2.2.2.2.2.2.2.2.1, vI t.2.2.2.2.2.2.2.2.2.2.2.1, vI t.2.2.2.2.2.2.2.2.2.2.2.2.1, vI t.2.2.2.2.2.2.2.2.2.2.2.2.2.1]), (10000000, .root true 106 yb t.2.2.2.2.2.2.2.2.2.2.2.2.2.2)]⟩
def yhi : Gk vj := fun κ => jQ (fun t => κ (some 0) ⟨dd 6 (.box 6 0 :: .dead :: .box 8 0 :: vB t.1 :: dd 30 []), [(6, .box [vI t.2.1, vI t.2.2.1, vI t.2.2.2.1, vI t.2.2.2.2.1, vI t.2.2.2.2.2.1]), (8, .box [vI t.2.2.2.2.2.2.1, vI t.2.2.2.2.2.2.2.1, vI t.2.2.2.2.2.2.2.2.1, vI t.2.2.2.2.2.2.2.2.2.1, vI t.2.2.2.2.2.2.2.2.2.2])]⟩)
def ykc : Lp := lpC 3 (unG yml y6M) @yhi lpN
theorem yrA : LF ykb ykc 309 3 Tryz.f309 0 y6M @yhi fun t => t := fun R κ again t => by kernel_rfl
theorem yrB : LK ykb ykc 309 Tryz.f309 0 := lkN (u := (unG yml y6M)) (ym fun t => by kernel_rfl) yrA
theorem yvG : EV ykb ykc 309 Tryz.f309 yoE yxq yci ZF := fun x => by kernel_rfl
def yyq : QF := ⟨309, ZF, okN (n := 1) Tryz.func309 ⟨yrB, trivial⟩ yvG⟩
def vk (x : ysf) : Option ych :=
 Option.bind (Jc (x.2.2.1, x.2.2.2.2)) fun r1 => Option.bind (ZF (x.1, x.2.1, x.2.2.2.1, r1)) fun r2 => some r2
theorem yvH : EV [yyp, yyq] lpN 312 Tryz.f312 yoF ysg yci vk := fun x => by kernel_rfl
def yAw : QF := ⟨312, vk, okN (n := 0) Tryz.func312 trivial yvH⟩
def vl (x : yxr) : Option Bool :=
 Option.bind (vk (x.1, x.2.1, x.2.2.1, x.2.2.2.1, x.2.2.2.2.2.2.2.2)) fun r1 => Option.bind (bif r1.2.2.2.2.2 then some (r1.2.1 == x.2.2.2.2.1) else some false) fun u2 => some u2
theorem yvI : EV [yAw] lpN 307 Tryz.f307 yoG yxs [.bool] vl := fun x => by kernel_rfl
def yAx : QF := ⟨307, vl, okN (n := 0) Tryz.func307 trivial yvI⟩
abbrev Wk : Type := ymm
def YV (k0 : Bool → Option R) (k1 : Unit → Option R) (again : Wk → Option R) (t2 : Wk) : Option R :=
 bif (decide (t2.2.2.1 < t2.2.1)) then if (0 : Int) ≤ t2.2.2.1 then if t2.2.2.1 < (List.length t2.1 : Int) then Option.bind (bif (decide ((zd t2.1 t2.2.2.1).2.2.1 > t2.2.2.2.2.2.2.2.2.2.1)) then Option.bind (vl (t2.2.2.2.1, t2.2.2.2.2.1, t2.2.2.2.2.2.1, t2.2.2.2.2.2.2.2.2.2.1, t2.2.2.2.2.2.2.2.2.2.2.1, t2.2.2.2.2.2.2.2.2.2.2.2.1, t2.2.2.2.2.2.2.2.2.2.2.2.2.1, t2.2.2.2.2.2.2.2.2.2.2.2.2.2, (zd t2.1 t2.2.2.1).2.1)) fun r2 => some r2 else some false) fun u1 => bif u1 then k0 true else again (t2.1, t2.2.1, (Go.IntKind.wrap .i64 (t2.2.2.1 + (1 : Int))), t2.2.2.2.1, t2.2.2.2.2.1, t2.2.2.2.2.2.1, t2.2.2.2.2.2.2.1, t2.2.2.2.2.2.2.2.1, t2.2.2.2.2.2.2.2.2.1, t2.2.2.2.2.2.2.2.2.2.1, t2.2.2.2.2.2.2.2.2.2.2.1, t2.2.2.2.2.2.2.2.2.2.2.2.1, t2.2.2.2.2.2.2.2.2.2.2.2.2.1, t2.2.2.2.2.2.2.2.2.2.2.2.2.2) else none else none else k1 ()
def vU k0 k1 := zt (@YV R k0 k1) zJ
def ZU (x : ykG) : Option Bool :=
 vU (fun x3 => some x3) (fun x4 => some false) (x.2.2.2.2.1, (List.length x.2.2.2.2.1 : Int), (0 : Int), x.1, x.2.1, x.2.2.1, x.2.2.2.1, x.2.2.2.2.1, x.2.2.2.2.2.1, x.2.2.2.2.2.2.1, x.2.2.2.2.2.2.2.1, x.2.2.2.2.2.2.2.2.1, x.2.2.2.2.2.2.2.2.2.1, x.2.2.2.2.2.2.2.2.2.2)
def ykd : List QF := [yAx]
def y6N (t : ymm) : St := ⟨dd 2 (.box 2 0 :: .box 3 0 :: dd 4 (zX t.1 :: vI t.2.1 :: vI t.2.2.1 :: dd 19 [])), [(2, .box [ze t.2.2.2.1, yC t.2.2.2.2.1, zu t.2.2.2.2.2.1, yX t.2.2.2.2.2.2.1, zX t.2.2.2.2.2.2.2.1, vI t.2.2.2.2.2.2.2.2.1]), (3, .box [vI t.2.2.2.2.2.2.2.2.2.1, vI t.2.2.2.2.2.2.2.2.2.2.1, vI t.2.2.2.2.2.2.2.2.2.2.2.1, vI t.2.2.2.2.2.2.2.2.2.2.2.2.1, vI t.2.2.2.2.2.2.2.2.2.2.2.2.2])]⟩
def yhj : Gk Wk := fun κ => YV (fun t => κ none ⟨dd 4 (vB t :: dd 25 []), []⟩) (fun t => κ (some 0) ⟨dd 30 [], []⟩)
def yke : Lp := lpC 2 (unG ymn y6N) @yhj lpN
theorem yrC : LF ykd yke 288 2 Tryz.f288 0 y6N @yhj fun t => t := fun R κ again t => by kernel_rfl
theorem yrD : LK ykd yke 288 Tryz.f288 0 := lkN (u := (unG ymn y6N)) (ym fun t => by kernel_rfl) yrC
theorem yvJ : EV ykd yke 288 Tryz.f288 yoH ykH [.bool] ZU := fun x => by kernel_rfl
def yAy : QF := ⟨288, ZU, okN (n := 1) Tryz.func288 ⟨yrD, trivial⟩ yvJ⟩
def ZV (x : ysf) : Option ych :=
 Option.bind (Jc (x.2.2.1, x.2.2.2.2)) fun r1 => if (0 : Int) ≤ (if (List.length r1 : Int) < (1 : Int) then (List.length r1 : Int) else (1 : Int)) then if (if (List.length r1 : Int) < (1 : Int) then (List.length r1 : Int) else (1 : Int)) ≤ (List.length r1 : Int) then if (List.length r1 : Int) ≤ (List.length r1 : Int) then Option.bind (ZF (x.1, x.2.1, x.2.2.2.1, (List.drop (Int.toNat (if (List.length r1 : Int) < (1 : Int) then (List.length r1 : Int) else (1 : Int))) (List.take (Int.toNat (List.length r1 : Int)) r1)))) fun r2 => some r2 else none else none else none
theorem yvK : EV [yyp, yyq] lpN 289 Tryz.f289 yoI ysg yci ZV := fun x => by kernel_rfl
def yAz : QF := ⟨289, ZV, okN (n := 0) Tryz.func289 trivial yvK⟩
abbrev JU : Type := ymo
def JV (k0 : Int → Option R) (k1 : Unit → Option R) (again : JU → Option R) (t2 : JU) : Option R :=
 bif (decide (t2.2.2.1 ≥ (0 : Int))) then if (0 : Int) ≤ t2.2.2.1 then if t2.2.2.1 < (List.length t2.2.2.2.1 : Int) then Option.bind (YQ (t2.1, t2.2.1)) fun r1 => bif (decide ((z9 t2.2.2.2.1 t2.2.2.1) ≤ r1)) then k0 t2.2.2.1 else again (t2.1, t2.2.1, (Go.IntKind.wrap .i64 (t2.2.2.1 - (1 : Int))), t2.2.2.2.1, t2.2.2.2.2) else none else none else k1 ()
def qr k0 k1 := zt (@JV R k0 k1) zJ
def jh (x : yeZ) : Option Int :=
 qr (fun x2 => some x2) (fun x3 => some (-1 : Int)) (x.2.2.1, x.2.2.2, (Go.IntKind.wrap .i64 ((List.length x.1 : Int) - (1 : Int))), x.1, x.2.1)
def ykf : List QF := [yva]
def y6O (t : ymo) : St := ⟨.dead :: vI t.1 :: vI t.2.1 :: .box 3 0 :: dd 3 (vI t.2.2.1 :: dd 18 []), [(3, .box [ze t.2.2.2.1, yC t.2.2.2.2])]⟩
def yhk : Gk JU := fun κ => JV (fun t => κ none ⟨dd 6 (vI t :: dd 19 []), []⟩) (fun t => κ (some 0) ⟨dd 26 [], []⟩)
def ykg : Lp := lpC 2 (unG ymp y6O) @yhk lpN
theorem yrE : LF ykf ykg 294 2 Tryz.f294 0 y6O @yhk fun t => t := fun R κ again t => by kernel_rfl
theorem yrF : LK ykf ykg 294 Tryz.f294 0 := lkN (u := (unG ymp y6O)) (ym fun t => by kernel_rfl) yrE
theorem yvL : EV ykf ykg 294 Tryz.f294 yoJ yf0 [(.int .i64)] jh := fun x => by kernel_rfl
def yyr : QF := ⟨294, jh, okN (n := 1) Tryz.func294 ⟨yrF, trivial⟩ yvL⟩
abbrev V5 : Type := ymq
def JF (k0 : yf1 → Option R) (k1 : yeY → Option R) (again : V5 → Option R) (t2 : V5) : Option R :=
 bif (decide (t2.2.2.2.2.1 < t2.2.2.2.1)) then if (0 : Int) ≤ t2.2.2.2.2.1 then if t2.2.2.2.2.1 < (List.length t2.2.2.1 : Int) then Option.bind (bif ((y0 t2.2.2.1 t2.2.2.2.2.1).1 == t2.1) then some ((y0 t2.2.2.1 t2.2.2.2.2.1).2.1 == t2.2.1) else some false) fun u1 => bif u1 then k0 (true, (y0 t2.2.2.1 t2.2.2.2.2.1).1, (y0 t2.2.2.1 t2.2.2.2.2.1).2.1, (y0 t2.2.2.1 t2.2.2.2.2.1).2.2.1, (y0 t2.2.2.1 t2.2.2.2.2.1).2.2.2.1, (y0 t2.2.2.1 t2.2.2.2.2.1).2.2.2.2) else again (t2.1, t2.2.1, t2.2.2.1, t2.2.2.2.1, (Go.IntKind.wrap .i64 (t2.2.2.2.2.1 + (1 : Int))), t2.2.2.2.2.2.1, t2.2.2.2.2.2.2.1, t2.2.2.2.2.2.2.2.1, t2.2.2.2.2.2.2.2.2.1, t2.2.2.2.2.2.2.2.2.2) else none else none else k1 t2.2.2.2.2.2
def y02 k0 k1 := zt (@JF R k0 k1) zJ
def wg (x : ylf) : Option ych :=
 y02 (fun x2 => some (x2.2.1, x2.2.2.1, x2.2.2.2.1, x2.2.2.2.2.1, x2.2.2.2.2.2, x2.1)) (fun x3 => some ((0 : Int), (0 : Int), (0 : Int), (0 : Int), (0 : Int), false)) (x.2.1, x.2.2, x.1, (List.length x.1 : Int), (0 : Int), (0 : Int), (0 : Int), (0 : Int), (0 : Int), (0 : Int))
def ykh : List QF := []
def y6P (t : ymq) : St := ⟨.dead :: vI t.1 :: vI t.2.1 :: dd 3 (.box 6 0 :: dd 3 (Vp t.2.2.1 :: vI t.2.2.2.1 :: vI t.2.2.2.2.1 :: dd 16 [])), [(6, .box [vI t.2.2.2.2.2.1, vI t.2.2.2.2.2.2.1, vI t.2.2.2.2.2.2.2.1, vI t.2.2.2.2.2.2.2.2.1, vI t.2.2.2.2.2.2.2.2.2])]⟩
def yhl : Gk V5 := fun κ => JF (fun t => κ none ⟨dd 6 (.box 6 0 :: vB t.1 :: dd 21 []), [(6, .box [vI t.2.1, vI t.2.2.1, vI t.2.2.2.1, vI t.2.2.2.2.1, vI t.2.2.2.2.2])]⟩) (fun t => κ (some 0) ⟨dd 6 (.box 6 0 :: dd 22 []), [(6, .box [vI t.1, vI t.2.1, vI t.2.2.1, vI t.2.2.2.1, vI t.2.2.2.2])]⟩)
def yki : Lp := lpC 2 (unG ymr y6P) @yhl lpN
theorem yrG : LF ykh yki 311 2 Tryz.f311 0 y6P @yhl fun t => t := fun R κ again t => by kernel_rfl
theorem yrH : LK ykh yki 311 Tryz.f311 0 := lkN (u := (unG ymr y6P)) (ym fun t => by kernel_rfl) yrG
theorem yvM : EV ykh yki 311 Tryz.f311 yoK ylg yci wg := fun x => by kernel_rfl
def yys : QF := ⟨311, wg, okN (n := 1) Tryz.func311 ⟨yrH, trivial⟩ yvM⟩
abbrev Wl : Type := yf2
def Wm (k0 : yeY → Option R) (k1 : yf1 → Option R) (again : Wl → Option R) (t2 : Wl) : Option R :=
 bif (decide (t2.2.2.1 ≥ (0 : Int))) then if (0 : Int) ≤ t2.2.2.1 then if t2.2.2.1 < (List.length t2.2.2.2.1 : Int) then Option.bind (wg ((yj t2.2.2.2.1 t2.2.2.1), t2.1, t2.2.1)) fun r1 => bif (!r1.2.2.2.2.2) then again (t2.1, t2.2.1, (Go.IntKind.wrap .i64 (t2.2.2.1 - (1 : Int))), t2.2.2.2.1, t2.2.2.2.2.1, t2.2.2.2.2.2.1, t2.2.2.2.2.2.2.1, t2.2.2.2.2.2.2.2.1, t2.2.2.2.2.2.2.2.2) else bif (r1.2.2.1 == (0 : Int)) then k0 t2.2.2.2.2 else k1 (true, r1.1, r1.2.1, r1.2.2.1, r1.2.2.2.1, r1.2.2.2.2.1) else none else none else k0 t2.2.2.2.2
def Qj k0 k1 := zt (@Wm R k0 k1) zJ
def Wn (x : y9K) : Option ych :=
 Qj (fun x2 => some ((0 : Int), (0 : Int), (0 : Int), (0 : Int), (0 : Int), false)) (fun x3 => some (x3.2.1, x3.2.2.1, x3.2.2.2.1, x3.2.2.2.2.1, x3.2.2.2.2.2, x3.1)) (x.2.1, x.2.2, (Go.IntKind.wrap .i64 ((List.length x.1 : Int) - (1 : Int))), x.1, (0 : Int), (0 : Int), (0 : Int), (0 : Int), (0 : Int))
def ykj : List QF := [yys]
def y6Q (t : yf2) : St := ⟨.dead :: vI t.1 :: vI t.2.1 :: .box 3 0 :: dd 2 (.box 6 0 :: .dead :: vI t.2.2.1 :: dd 28 []), [(3, .box [Y6 t.2.2.2.1]), (6, .box [vI t.2.2.2.2.1, vI t.2.2.2.2.2.1, vI t.2.2.2.2.2.2.1, vI t.2.2.2.2.2.2.2.1, vI t.2.2.2.2.2.2.2.2])]⟩
def yhm : Gk Wl := fun κ => Wm (fun t => κ (some 0) ⟨dd 6 (.box 6 0 :: dd 30 []), [(6, .box [vI t.1, vI t.2.1, vI t.2.2.1, vI t.2.2.2.1, vI t.2.2.2.2])]⟩) (fun t => κ none ⟨dd 6 (.box 6 0 :: vB t.1 :: dd 29 []), [(6, .box [vI t.2.1, vI t.2.2.1, vI t.2.2.2.1, vI t.2.2.2.2.1, vI t.2.2.2.2.2])]⟩)
def ykk : Lp := lpC 2 (unG yf3 y6Q) @yhm lpN
theorem yrI : LF ykj ykk 310 2 Tryz.f310 0 y6Q @yhm fun t => t := fun R κ again t => by kernel_rfl
theorem yrJ : LK ykj ykk 310 Tryz.f310 0 := lkN (u := (unG yf3 y6Q)) (ym fun t => by kernel_rfl) yrI
theorem yvN : EV ykj ykk 310 Tryz.f310 yoL yf4 yci Wn := fun x => by kernel_rfl
def yAA : QF := ⟨310, Wn, okN (n := 1) Tryz.func310 ⟨yrJ, trivial⟩ yvN⟩
def Jd (x : yeZ) : Option ych :=
 Option.bind (jh x) fun r1 => Option.bind (yE (r1, (0 : Int), (Go.IntKind.wrap .i64 ((List.length x.2.1 : Int) - (1 : Int))))) fun r2 => bif (!r2) then some ((0 : Int), (0 : Int), (0 : Int), (0 : Int), (0 : Int), false) else if (0 : Int) ≤ r1 then if r1 < (List.length x.2.1 : Int) then Option.bind (Wn ((ya x.2.1 r1), x.2.2.1, x.2.2.2)) fun r3 => some r3 else none else none
theorem yvO : EV [ydy, yyr, yAA] lpN 290 Tryz.f290 yoM yf0 yci Jd := fun x => by kernel_rfl
def yyt : QF := ⟨290, Jd, okN (n := 0) Tryz.func290 trivial yvO⟩
def JG (x : ylh) : Option Bool :=
 bif (x.2.2.2.2.2.2.1 == (1 : Int)) then Option.bind (ZU (x.1, x.2.1, x.2.2.1, x.2.2.2.1, x.2.2.2.2.1, x.2.2.2.2.2.1, x.2.2.2.2.2.2.2)) fun r1 => some (!r1) else bif (x.2.2.2.2.2.2.1 == (2 : Int)) then Option.bind (ZV (x.1, x.2.1, x.2.2.1, x.2.2.2.2.2.2.2.1, x.2.2.2.2.2.2.2.2.1)) fun r2 => Option.bind (bif (x.2.2.2.2.2.2.2.2.2.1 == (2 : Int)) then some (!r2.2.2.2.2.2) else some false) fun u3 => some u3 else Option.bind (YS (x.2.2.1, x.2.2.2.2.2.2.2.2.1)) fun r4 => Option.bind (WZ (x.1, x.2.1, x.2.2.1, x.2.2.2.1, x.2.2.2.2.1, x.2.2.2.2.2.1, x.2.2.2.2.2.2.2.2.1)) fun r5 => Option.bind (bif (!r5) then some true else some ((List.length r4 : Int) != (1 : Int))) fun u6 => bif u6 then some false else if (0 : Int) ≤ (0 : Int) then if (0 : Int) < (List.length r4 : Int) then Option.bind (Jd (x.1, x.2.1, x.2.2.2.2.2.2.2.1, (z9 r4 (0 : Int)))) fun r7 => some (!r7.2.2.2.2.2) else none else none
theorem yvP : EV [ysi, yyo, yAy, yAz, yyt] lpN 269 Tryz.f269 yoN yli [.bool] JG := fun x => by kernel_rfl
def yAB : QF := ⟨269, JG, okN (n := 0) Tryz.func269 trivial yvP⟩
abbrev kS : Type := yms
def ZW (k0 : Bool → Option R) (k1 : Unit → Option R) (again : kS → Option R) (t2 : kS) : Option R :=
 bif (decide (t2.2.2.2 < t2.2.2.1)) then if (0 : Int) ≤ t2.2.2.2 then if t2.2.2.2 < (List.length t2.2.1 : Int) then bif ((y0 t2.2.1 t2.2.2.2).2.1 == t2.1) then k0 true else again (t2.1, t2.2.1, t2.2.2.1, (Go.IntKind.wrap .i64 (t2.2.2.2 + (1 : Int)))) else none else none else k1 ()
def qs k0 k1 := zt (@ZW R k0 k1) zJ
def JH (x : yl9) : Option Bool :=
 qs (fun x1 => some x1) (fun x2 => some false) (x.2, x.1, (List.length x.1 : Int), (0 : Int))
def ykl : List QF := []
def y6R (t : yms) : St := ⟨.dead :: vI t.1 :: dd 5 (Vp t.2.1 :: vI t.2.2.1 :: vI t.2.2.2 :: dd 8 []), []⟩
def yhn : Gk kS := fun κ => ZW (fun t => κ none ⟨dd 4 (vB t :: dd 13 []), []⟩) (fun t => κ (some 0) ⟨dd 18 [], []⟩)
def ykm : Lp := lpC 2 (unG ymt y6R) @yhn lpN
theorem yrK : LF ykl ykm 271 2 Tryz.f271 0 y6R @yhn fun t => t := fun R κ again t => by kernel_rfl
theorem yrL : LK ykl ykm 271 Tryz.f271 0 := lkN (u := (unG ymt y6R)) (ym fun t => by kernel_rfl) yrK
theorem yvQ : EV ykl ykm 271 Tryz.f271 yoO yla [.bool] JH := fun x => by kernel_rfl
def yAC : QF := ⟨271, JH, okN (n := 1) Tryz.func271 ⟨yrL, trivial⟩ yvQ⟩
abbrev k6 : Type := ymu
def Zk (k0 : ysL → Option R) (k1 : yi5 → Option R) (again : k6 → Option R) (t8 : k6) : Option R :=
 bif (decide (t8.2.2.2.2.1 < t8.2.2.2.1)) then if (0 : Int) ≤ t8.2.2.2.2.1 then if t8.2.2.2.2.1 < (List.length t8.2.2.2.2.2.2.2.2.2.2.2.1 : Int) then Option.bind (JG (t8.2.2.2.2.2.1, t8.2.2.2.2.2.2.1, t8.2.2.2.2.2.2.2.1, t8.2.2.2.2.2.2.2.2.1, t8.2.2.2.2.2.2.2.2.2.1, t8.2.2.2.2.2.2.2.2.2.2.1, t8.1, (y0 t8.2.2.2.2.2.2.2.2.2.2.2.1 t8.2.2.2.2.1).1, (y0 t8.2.2.2.2.2.2.2.2.2.2.2.1 t8.2.2.2.2.1).2.1, (y0 t8.2.2.2.2.2.2.2.2.2.2.2.1 t8.2.2.2.2.1).2.2.1, (y0 t8.2.2.2.2.2.2.2.2.2.2.2.1 t8.2.2.2.2.1).2.2.2.1, (y0 t8.2.2.2.2.2.2.2.2.2.2.2.1 t8.2.2.2.2.1).2.2.2.2)) fun r3 => bif r3 then k0 (t8.1, t8.2.2.2.2.1, t8.2.1, t8.2.2.1, t8.2.2.2.2.2) else again (t8.1, t8.2.1, t8.2.2.1, t8.2.2.2.1, (Go.IntKind.wrap .i64 (t8.2.2.2.2.1 + (1 : Int))), t8.2.2.2.2.2.1, t8.2.2.2.2.2.2.1, t8.2.2.2.2.2.2.2.1, t8.2.2.2.2.2.2.2.2.1, t8.2.2.2.2.2.2.2.2.2.1, t8.2.2.2.2.2.2.2.2.2.2.1, t8.2.2.2.2.2.2.2.2.2.2.2.1, t8.2.2.2.2.2.2.2.2.2.2.2.2) else none else none else k1 (t8.2.1, t8.2.2.1, t8.2.2.2.2.2)
def Vz k0 k1 := zt (@Zk R k0 k1) zJ
abbrev k7 : Type := yi5
def Zl (k0 : ygc → Option R) (k1 : ysM → Option R) (again : k7 → Option R) (t5 : k7) : Option R :=
 bif (decide (t5.2.1 < t5.1)) then if (0 : Int) ≤ t5.2.1 then if t5.2.1 < (List.length t5.2.2.2.2.2.2.2.2.2 : Int) then Vz (fun x4 => k0 (x4.1, x4.2.1, x4.2.2.2.2.1, x4.2.2.2.2.2.1, x4.2.2.2.2.2.2.1, x4.2.2.2.2.2.2.2.1, x4.2.2.2.2.2.2.2.2.1, x4.2.2.2.2.2.2.2.2.2.1, x4.2.2.2.2.2.2.2.2.2.2.1)) (fun x5 => again (x5.1, (Go.IntKind.wrap .i64 (x5.2.1 + (1 : Int))), x5.2.2.1, x5.2.2.2.1, x5.2.2.2.2.1, x5.2.2.2.2.2.1, x5.2.2.2.2.2.2.1, x5.2.2.2.2.2.2.2.1, x5.2.2.2.2.2.2.2.2.1, x5.2.2.2.2.2.2.2.2.2)) ((z9 t5.2.2.2.2.2.2.2.2.2 t5.2.1), t5.1, t5.2.1, (List.length t5.2.2.2.2.2.2.2.2.1 : Int), (0 : Int), t5.2.2.1, t5.2.2.2.1, t5.2.2.2.2.1, t5.2.2.2.2.2.1, t5.2.2.2.2.2.2.1, t5.2.2.2.2.2.2.2.1, t5.2.2.2.2.2.2.2.2.1, t5.2.2.2.2.2.2.2.2.2) else none else none else k1 (t5.2.2.1, t5.2.2.2.1, t5.2.2.2.2.1, t5.2.2.2.2.2.1, t5.2.2.2.2.2.2.1, t5.2.2.2.2.2.2.2.1, t5.2.2.2.2.2.2.2.2.1)
def VA k0 k1 := zt (@Zl R k0 k1) zJ
abbrev Wo : Type := ymx
def YW (k0 : Qz3 → Option R) (k1 : Unit → Option R) (again : Wo → Option R) (t15 : Wo) : Option R :=
 bif (decide (t15.2.2.1 < t15.2.1)) then if (0 : Int) ≤ t15.2.2.1 then if t15.2.2.1 < (List.length t15.1 : Int) then Option.bind (WZ (t15.2.2.2.1, t15.2.2.2.2.1, t15.2.2.2.2.2.1, t15.2.2.2.2.2.2.1, t15.2.2.2.2.2.2.2.1, t15.2.2.2.2.2.2.2.2.1, (yD t15.1 t15.2.2.1).1)) fun r8 => Option.bind (bif r8 then Option.bind (YS (t15.2.2.2.2.2.1, (yD t15.1 t15.2.2.1).1)) fun r10 => some (decide ((List.length r10 : Int) ≤ (1 : Int))) else some false) fun u9 => Option.bind (bif u9 then Option.bind (JH (t15.2.2.2.2.2.2.2.2.2, (yD t15.1 t15.2.2.1).1)) fun r12 => some (!r12) else some false) fun u11 => bif u11 then k0 ((4 : Int), t15.2.2.1) else again (t15.1, t15.2.1, (Go.IntKind.wrap .i64 (t15.2.2.1 + (1 : Int))), t15.2.2.2.1, t15.2.2.2.2.1, t15.2.2.2.2.2.1, t15.2.2.2.2.2.2.1, t15.2.2.2.2.2.2.2.1, t15.2.2.2.2.2.2.2.2.1, t15.2.2.2.2.2.2.2.2.2) else none else none else k1 ()
def vV k0 k1 := zt (@YW R k0 k1) zJ
def jR (x : y2s) : Option Qz3 :=
 Option.bind (Ym x) fun r1 => bif (!r1) then some ((0 : Int), (0 : Int)) else Option.bind (zg (x.1, x.2.1)) fun r2 => VA (fun x6 => some (x6.1, x6.2.1)) (fun x7 => vV (fun x13 => some x13) (fun x14 => some ((0 : Int), (0 : Int))) (x7.2.2.1, (List.length x7.2.2.1 : Int), (0 : Int), x7.1, x7.2.1, x7.2.2.1, x7.2.2.2.1, x7.2.2.2.2.1, x7.2.2.2.2.2.1, x7.2.2.2.2.2.2)) (((List.length ([(1 : Int), (2 : Int), (3 : Int)] : List yh) : Nat) : Int), (0 : Int), x.1, x.2.1, x.2.2.1, x.2.2.2.1, x.2.2.2.2.1, x.2.2.2.2.2, r2, ([(1 : Int), (2 : Int), (3 : Int)] : List yh))
def y9X : List QF := [q56, ysi, ysj, yAB, yyo, yAC]
def y6S (t : ymu) : St := ⟨.dead :: .box 1 0 :: dd 2 (.own 10000000 :: .dead :: vI t.1 :: dd 10 (.own 10000001 :: vI t.2.1 :: vI t.2.2.1 :: dd 3 (.own 10000000 :: vI t.2.2.2.1 :: vI t.2.2.2.2.1 :: dd 42 []))), [(1, .box [ze t.2.2.2.2.2.1, yC t.2.2.2.2.2.2.1, zu t.2.2.2.2.2.2.2.1, yX t.2.2.2.2.2.2.2.2.1, zX t.2.2.2.2.2.2.2.2.2.1, vI t.2.2.2.2.2.2.2.2.2.2.1]), (10000000, .root true 106 yb t.2.2.2.2.2.2.2.2.2.2.2.1), (10000001, .root true 3 yd t.2.2.2.2.2.2.2.2.2.2.2.2)]⟩
def yho : Gk k6 := fun κ => Zk (fun t => κ none ⟨.dead :: .box 1 0 :: vI t.1 :: vI t.2.1 :: .own 10000000 :: dd 12 (.own 10000001 :: vI t.2.2.1 :: vI t.2.2.2.1 :: dd 48 []), [(1, .box [ze t.2.2.2.2.1, yC t.2.2.2.2.2.1, zu t.2.2.2.2.2.2.1, yX t.2.2.2.2.2.2.2.1, zX t.2.2.2.2.2.2.2.2.1, vI t.2.2.2.2.2.2.2.2.2.1]), (10000000, .root true 106 yb t.2.2.2.2.2.2.2.2.2.2.1), (10000001, .root true 3 yd t.2.2.2.2.2.2.2.2.2.2.2)]⟩) (fun t => κ (some 2) ⟨.dead :: .box 1 0 :: dd 2 (.own 10000000 :: dd 12 (.own 10000001 :: vI t.1 :: vI t.2.1 :: dd 48 [])), [(1, .box [ze t.2.2.1, yC t.2.2.2.1, zu t.2.2.2.2.1, yX t.2.2.2.2.2.1, zX t.2.2.2.2.2.2.1, vI t.2.2.2.2.2.2.2.1]), (10000000, .root true 106 yb t.2.2.2.2.2.2.2.2.1), (10000001, .root true 3 yd t.2.2.2.2.2.2.2.2.2)]⟩)
def y6T (t : yi5) : St := ⟨.dead :: .box 1 0 :: dd 2 (.own 10000000 :: dd 12 (.own 10000001 :: vI t.1 :: vI t.2.1 :: dd 48 [])), [(1, .box [ze t.2.2.1, yC t.2.2.2.1, zu t.2.2.2.2.1, yX t.2.2.2.2.2.1, zX t.2.2.2.2.2.2.1, vI t.2.2.2.2.2.2.2.1]), (10000000, .root true 106 yb t.2.2.2.2.2.2.2.2.1), (10000001, .root true 3 yd t.2.2.2.2.2.2.2.2.2)]⟩
def yhp : Gk k7 := fun κ => Zl (fun t => κ none ⟨.dead :: .box 1 0 :: vI t.1 :: vI t.2.1 :: .own 10000000 :: dd 63 [], [(1, .box [ze t.2.2.1, yC t.2.2.2.1, zu t.2.2.2.2.1, yX t.2.2.2.2.2.1, zX t.2.2.2.2.2.2.1, vI t.2.2.2.2.2.2.2.1]), (10000000, .root true 106 yb t.2.2.2.2.2.2.2.2)]⟩) (fun t => κ (some 0) ⟨.dead :: .box 1 0 :: dd 2 (.own 10000000 :: dd 63 []), [(1, .box [ze t.1, yC t.2.1, zu t.2.2.1, yX t.2.2.2.1, zX t.2.2.2.2.1, vI t.2.2.2.2.2.1]), (10000000, .root true 106 yb t.2.2.2.2.2.2)]⟩)
def y3v (t : ymx) : St := ⟨.dead :: .box 1 0 :: dd 2 (.own 10000000 :: dd 34 (zu t.1 :: vI t.2.1 :: vI t.2.2.1 :: dd 26 [])), [(1, .box [ze t.2.2.2.1, yC t.2.2.2.2.1, zu t.2.2.2.2.2.1, yX t.2.2.2.2.2.2.1, zX t.2.2.2.2.2.2.2.1, vI t.2.2.2.2.2.2.2.2.1]), (10000000, .root true 106 yb t.2.2.2.2.2.2.2.2.2)]⟩
def ydH : Gk Wo := fun κ => YW (fun t => κ none ⟨dd 2 (vI t.1 :: vI t.2 :: dd 64 []), []⟩) (fun t => κ (some 4) ⟨dd 68 [], []⟩)
def y9Y : Lp := lpC 15 (unG ymy y3v) @ydH (lpC 5 (unG ymw y6T) @yhp (lpC 8 (unG ymv y6S) @yho lpN))
theorem yrM : LF y9X y9Y 241 8 Tryz.f241 1 y6S @yho fun t => t := fun R κ again t => by kernel_rfl
theorem yrN : LK y9X y9Y 241 Tryz.f241 1 := lkN (u := (unG ymv y6S)) (ym fun t => by kernel_rfl) yrM
theorem yrO : LF y9X y9Y 241 5 Tryz.f241 0 y6T @yhp fun t => t := fun R κ again t => by kernel_rfl
theorem yrP : LK y9X y9Y 241 Tryz.f241 0 := lkN (u := (unG ymw y6T)) (ym fun t => by kernel_rfl) yrO
theorem ykn : LF y9X y9Y 241 15 Tryz.f241 2 y3v @ydH fun t => t := fun R κ again t => by kernel_rfl
theorem yko : LK y9X y9Y 241 Tryz.f241 2 := lkN (u := (unG ymy y3v)) (ym fun t => by kernel_rfl) ykn
theorem yvR : EV y9X y9Y 241 Tryz.f241 yoP WB qz3 jR := fun x => by kernel_rfl
def yAD : QF := ⟨241, jR, okN (n := 3) Tryz.func241 ⟨yrP, yrN, yko, trivial⟩ yvR⟩
abbrev vm : Type := ymz
def Wp (k0 : ysN → Option R) (again : vm → Option R) (t6 : vm) : Option R :=
 bif (decide (t6.2.2.2.2.1 < t6.2.2.2.1)) then if (0 : Int) ≤ t6.2.2.2.2.1 then if t6.2.2.2.2.1 < (List.length t6.2.2.2.2.2 : Int) then bif ((yD t6.2.2.2.2.2 t6.2.2.2.2.1).2 == t6.2.1) then if (0 : Int) ≤ t6.2.2.1 then if t6.2.2.1 < (List.length t6.1 : Int) then if (0 : Int) ≤ t6.2.2.2.2.1 then if t6.2.2.2.2.1 < (List.length t6.2.2.2.2.2 : Int) then again (t6.1, t6.2.1, t6.2.2.1, t6.2.2.2.1, (Go.IntKind.wrap .i64 (t6.2.2.2.2.1 + (1 : Int))), (List.set t6.2.2.2.2.2 (Int.toNat t6.2.2.2.2.1) ((yD t6.2.2.2.2.2 t6.2.2.2.2.1).1, (yD t6.1 t6.2.2.1).2))) else none else none else none else none else again (t6.1, t6.2.1, t6.2.2.1, t6.2.2.2.1, (Go.IntKind.wrap .i64 (t6.2.2.2.2.1 + (1 : Int))), t6.2.2.2.2.2) else none else none else k0 (t6.2.2.1, t6.2.2.2.2.2)
def Qk k0 := zt (@Wp R k0) zJ
def Wq (x : yd8) : Option ys7 :=
 Option.bind (Yp x) fun r1 => Option.bind (Yw x.1) fun r2 => Option.bind (bif (decide (r1 < (0 : Int))) then some true else Option.bind (Jb x.1) fun r4 => some (!r4)) fun u3 => bif u3 then some (r2, false) else Qk (fun x5 => Option.bind (zC (x5.2, x5.1, (Go.IntKind.wrap .i64 (x5.1 + (1 : Int))))) fun r6 => some (r6, true)) (x.1, x.2, r1, (List.length r2 : Int), (0 : Int), r2)
def ykp : List QF := [yym, yrc, yye, yz2]
def y6U (t : ymz) : St := ⟨zu t.1 :: vI t.2.1 :: dd 4 (vI t.2.2.1 :: .own 10000000 :: dd 15 (vI t.2.2.2.1 :: vI t.2.2.2.2.1 :: dd 24 [])), [(10000000, .root true 89 yo t.2.2.2.2.2)]⟩
def yhq : Gk vm := fun κ => Wp (fun t => κ (some 0) ⟨dd 6 (vI t.1 :: .own 10000000 :: dd 41 []), [(10000000, .root true 89 yo t.2)]⟩)
def ykq : Lp := lpC 6 (unG ymA y6U) @yhq lpN
theorem yrQ : LF ykp ykq 272 6 Tryz.f272 0 y6U @yhq fun t => t := fun R κ again t => by kernel_rfl
theorem yrR : LK ykp ykq 272 Tryz.f272 0 := lkN (u := (unG ymA y6U)) (ym fun t => by kernel_rfl) yrQ
theorem yvS : EV ykp ykq 272 Tryz.f272 yoQ yd9 yx6 Wq := fun x => by kernel_rfl
def yAE : QF := ⟨272, Wq, okN (n := 1) Tryz.func272 ⟨yrR, trivial⟩ yvS⟩
def zz (x : yi1) : Option (List y8) :=
 Option.bind (yG x.1) fun r1 => Option.bind (ZE (r1, x.2)) fun r2 => Option.bind (jJ r2) fun r3 => some r3
theorem yvT : EV [yr9, yyk, yve] lpN 296 Tryz.f296 yoR yi2 [(.sl 106 yb)] zz := fun x => by kernel_rfl
def yyu : QF := ⟨296, zz, okN (n := 0) Tryz.func296 trivial yvT⟩
def zk (x : List y8) : Option (List y9) :=
 bif ((List.length x : Int) == (0 : Int)) then some ([] : List y9) else Option.bind (zO x) fun r1 => some ([r1] : List y9)
theorem yvU : EV [yuY] lpN 298 Tryz.f298 yoS [(.sl 106 yb)] [(.sl 100 yi)] zk := fun x => by kernel_rfl
def yvV : QF := ⟨298, zk, okN (n := 0) Tryz.func298 trivial yvU⟩
def JI (x : yi1) : Option ylk :=
 Option.bind (zl x.1) fun r1 => bif (decide ((Go.IntKind.wrap .i64 ((List.length x.1 : Int) - (1 : Int))) ≥ (0 : Int))) then if (0 : Int) ≤ (Go.IntKind.wrap .i64 ((List.length x.1 : Int) - (1 : Int))) then if (Go.IntKind.wrap .i64 ((List.length x.1 : Int) - (1 : Int))) < (List.length x.1 : Int) then Option.bind (wg ((yj x.1 (Go.IntKind.wrap .i64 ((List.length x.1 : Int) - (1 : Int)))), x.2.1, x.2.2.1)) fun r2 => Option.bind (bif r2.2.2.2.2.2 then some true else if (0 : Int) ≤ (Go.IntKind.wrap .i64 ((List.length x.1 : Int) - (1 : Int))) then if (Go.IntKind.wrap .i64 ((List.length x.1 : Int) - (1 : Int))) < (List.length x.1 : Int) then some (decide (((List.length (yj x.1 (Go.IntKind.wrap .i64 ((List.length x.1 : Int) - (1 : Int)))) : Nat) : Int) < (4 : Int))) else none else none) fun u3 => bif u3 then if (0 : Int) ≤ (Go.IntKind.wrap .i64 ((List.length x.1 : Int) - (1 : Int))) then if (Go.IntKind.wrap .i64 ((List.length x.1 : Int) - (1 : Int))) < (List.length x.1 : Int) then Option.bind (ZE ((yj x.1 (Go.IntKind.wrap .i64 ((List.length x.1 : Int) - (1 : Int)))), x.2.1, x.2.2.1, x.2.2.2.1, x.2.2.2.2.1, x.2.2.2.2.2)) fun r4 => if (0 : Int) ≤ (Go.IntKind.wrap .i64 ((List.length x.1 : Int) - (1 : Int))) then if (Go.IntKind.wrap .i64 ((List.length x.1 : Int) - (1 : Int))) < (List.length r1 : Int) then Option.bind (zp (List.set r1 (Int.toNat (Go.IntKind.wrap .i64 ((List.length x.1 : Int) - (1 : Int)))) r4)) fun r5 => bif r5 then some ((List.set r1 (Int.toNat (Go.IntKind.wrap .i64 ((List.length x.1 : Int) - (1 : Int)))) r4), true) else Option.bind (zz x) fun r6 => Option.bind (zk r6) fun r7 => Option.bind (bif (decide ((List.length r6 : Int) > (8 : Int))) then some true else Option.bind (zp r7) fun r9 => some (!r9)) fun u8 => bif u8 then Option.bind (zl x.1) fun r10 => some (r10, false) else some (r7, true) else none else none else none else none else if (List.length r1 + List.length ([([x.2] : List y8)] : List y9)) * 24 < 140737488355328 then Option.bind (zp (r1 ++ ([([x.2] : List y8)] : List y9))) fun r11 => bif r11 then some ((r1 ++ ([([x.2] : List y8)] : List y9)), true) else Option.bind (zz x) fun r12 => Option.bind (zk r12) fun r13 => Option.bind (bif (decide ((List.length r12 : Int) > (8 : Int))) then some true else Option.bind (zp r13) fun r15 => some (!r15)) fun u14 => bif u14 then Option.bind (zl x.1) fun r16 => some (r16, false) else some (r13, true) else none else none else none else if (List.length r1 + List.length ([([x.2] : List y8)] : List y9)) * 24 < 140737488355328 then Option.bind (zp (r1 ++ ([([x.2] : List y8)] : List y9))) fun r17 => bif r17 then some ((r1 ++ ([([x.2] : List y8)] : List y9)), true) else Option.bind (zz x) fun r18 => Option.bind (zk r18) fun r19 => Option.bind (bif (decide ((List.length r18 : Int) > (8 : Int))) then some true else Option.bind (zp r19) fun r21 => some (!r21)) fun u20 => bif u20 then Option.bind (zl x.1) fun r22 => some (r22, false) else some (r19, true) else none
theorem yvW : EV [yyj, yyc, yve, yyu, yvV, yys] lpN 295 Tryz.f295 yoT yi2 yll JI := fun x => by kernel_rfl
def yAF : QF := ⟨295, JI, okN (n := 0) Tryz.func295 trivial yvW⟩
def zP (x : ysO) : Option y3Y :=
 if (0 : Int) ≤ (0 : Int) then if (0 : Int) ≤ x.2.2.1 then if x.2.2.1 ≤ (List.length x.1 : Int) then Option.bind (Ze (List.drop (Int.toNat (0 : Int)) (List.take (Int.toNat x.2.2.1) x.1))) fun r1 => if (List.length r1 + List.length x.2.2.2.2.1) * 8 < 140737488355328 then if (0 : Int) ≤ (Go.IntKind.wrap .i64 (x.2.2.1 + x.2.2.2.1)) then if (Go.IntKind.wrap .i64 (x.2.2.1 + x.2.2.2.1)) ≤ (List.length x.1 : Int) then if (List.length x.1 : Int) ≤ (List.length x.1 : Int) then if (List.length (r1 ++ x.2.2.2.2.1) + List.length (List.drop (Int.toNat (Go.IntKind.wrap .i64 (x.2.2.1 + x.2.2.2.1))) (List.take (Int.toNat (List.length x.1 : Int)) x.1))) * 8 < 140737488355328 then if (0 : Int) ≤ (0 : Int) then if (0 : Int) ≤ x.2.2.1 then if x.2.2.1 ≤ (List.length x.2.1 : Int) then if (List.length ([] : List y7) + List.length (List.drop (Int.toNat (0 : Int)) (List.take (Int.toNat x.2.2.1) x.2.1))) * 24 < 140737488355328 then if (List.length (([] : List y7) ++ (List.drop (Int.toNat (0 : Int)) (List.take (Int.toNat x.2.2.1) x.2.1))) + List.length x.2.2.2.2.2) * 24 < 140737488355328 then if (0 : Int) ≤ (Go.IntKind.wrap .i64 (x.2.2.1 + x.2.2.2.1)) then if (Go.IntKind.wrap .i64 (x.2.2.1 + x.2.2.2.1)) ≤ (List.length x.2.1 : Int) then if (List.length x.2.1 : Int) ≤ (List.length x.2.1 : Int) then if (List.length ((([] : List y7) ++ (List.drop (Int.toNat (0 : Int)) (List.take (Int.toNat x.2.2.1) x.2.1))) ++ x.2.2.2.2.2) + List.length (List.drop (Int.toNat (Go.IntKind.wrap .i64 (x.2.2.1 + x.2.2.2.1))) (List.take (Int.toNat (List.length x.2.1 : Int)) x.2.1))) * 24 < 140737488355328 then some (((r1 ++ x.2.2.2.2.1) ++ (List.drop (Int.toNat (Go.IntKind.wrap .i64 (x.2.2.1 + x.2.2.2.1))) (List.take (Int.toNat (List.length x.1 : Int)) x.1))), (((([] : List y7) ++ (List.drop (Int.toNat (0 : Int)) (List.take (Int.toNat x.2.2.1) x.2.1))) ++ x.2.2.2.2.2) ++ (List.drop (Int.toNat (Go.IntKind.wrap .i64 (x.2.2.1 + x.2.2.2.1))) (List.take (Int.toNat (List.length x.2.1 : Int)) x.2.1)))) else none else none else none else none else none else none else none else none else none else none else none else none else none else none else none else none else none
theorem yvX : EV [yyb] lpN 297 Tryz.f297 yoU ysP WA zP := fun x => by kernel_rfl
def yyv : QF := ⟨297, zP, okN (n := 0) Tryz.func297 trivial yvX⟩
end
end Go.Proofs.YtmapoakbdgpamaaGreat.XP
