/- The context of the evaluator for U: types, signatures, slots that live at loops; by a program (dec.py). No condition. -/
import Derived.Test.YtjllpipmaejeoaaGreatProg
import Derived.Test.YtjllpipmaejeoaaGreatRRow
import Derived.KernelRfl
set_option linter.all false
namespace Go.Proofs.YtjllpipmaejeoaaGreat.XU
open Go.Proofs.YtjllpipmaejeoaaGreat.R
set_option maxRecDepth 100000
abbrev W9 : List Ty := [(.int .u8)]
abbrev y2D : Type := Int
abbrev ygh (xs : List y2D) (i : Int) : y2D := rdE W9 xs i
def ygi (x : List y2D) : A := .val (.sl 5 W9) x
abbrev yd : List Ty := [(.int .i64)]
abbrev yb : Type := Int
abbrev y27 : yb := Vg yd
abbrev zu (xs : List yb) (i : Int) : yb := rdE yd xs i
def yT (x : List yb) : A := .val (.sl 3 yd) x
abbrev yi : List Ty := [(.int .i64), (.int .i64), (.int .i64), (.int .i64), (.int .i64)]
abbrev y8 : Type := Int × Int × Int × Int × Int
abbrev yI : y8 := Vg yi
abbrev y6 (xs : List y8) (i : Int) : y8 := rdE yi xs i
def qs (x : List y8) : A := .val (.sl 63 yi) x
abbrev yp : List Ty := [(.sl 63 yi)]
abbrev y9 : Type := List y8
abbrev z6 : y9 := Vg yp
abbrev yq (xs : List y9) (i : Int) : y9 := rdE yp xs i
def Yr (x : List y9) : A := .val (.sl 58 yp) x
abbrev yg : List Ty := [(.sl 58 yp)]
abbrev y0 : Type := List y9
abbrev yh : y0 := Vg yg
abbrev yf (xs : List y0) (i : Int) : y0 := rdE yg xs i
def yx (x : List y0) : A := .val (.sl 99 yg) x
abbrev yk : List Ty := [(.int .i64), (.int .i64)]
abbrev ya : Type := Int × Int
abbrev zA : ya := Vg yk
abbrev yO (xs : List ya) (i : Int) : ya := rdE yk xs i
def zh (x : List ya) : A := .val (.sl 67 yk) x
abbrev yc : List Ty := [(.int .i64), .bool, (.int .i64)]
abbrev y7 : Type := Int × Bool × Int
abbrev yo : y7 := Vg yc
abbrev ym (xs : List y7) (i : Int) : y7 := rdE yc xs i
def yL (x : List y7) : A := .val (.sl 53 yc) x
abbrev yz : List Ty := [.str, (.int .i64), (.int .i64), .bool]
abbrev ye : Type := ByteArray × Int × Int × Bool
abbrev Yu : ye := Vg yz
abbrev yj (xs : List ye) (i : Int) : ye := rdE yz xs i
def zH (x : List ye) : A := .val (.sl 41 yz) x
abbrev Zw : List Ty := [.str, .bool, (.sl 3 yd)]
abbrev km : Type := ByteArray × Bool × List yb
abbrev ysW : km := Vg Zw
abbrev y3V (xs : List km) (i : Int) : km := rdE Zw xs i
def ymj (x : List km) : A := .val (.sl 89 Zw) x
abbrev Qe : List Ty := [.str]
abbrev y0c : Type := ByteArray
abbrev ygj : y0c := Vg Qe
abbrev yeh (xs : List y0c) (i : Int) : y0c := rdE Qe xs i
abbrev y3W : List Ty := [.bool]
abbrev ybC : Type := Bool
abbrev yei : ybC := Vg y3W
abbrev yej (xs : List ybC) (i : Int) : ybC := rdE y3W xs i
abbrev Qz0 : Type := List y2D × Int × Int
abbrev qz0 : List Ty := [(.sl 5 W9), (.int .i64), (.int .i64)]
abbrev Qz1 : Type := List y2D × Int
abbrev qz1 : List Ty := [(.sl 5 W9), (.int .i64)]
abbrev Qz2 : Type := Int × List y2D × Int × Int
abbrev qz2 : List Ty := [(.int .i64), (.sl 5 W9), (.int .i64), (.int .i64)]
abbrev Qz3 : Type := List y2D × Int × Int × Int
abbrev qz3 : List Ty := [(.sl 5 W9), (.int .i64), (.int .i64), (.int .i64)]
abbrev Qz4 : Type := List y2D × Int × Int × List yb
abbrev qz4 : List Ty := [(.sl 5 W9), (.int .i64), (.int .i64), (.sl 3 yd)]
abbrev Qz5 : Type := List y2D × Int × Int × List y0c
abbrev qz5 : List Ty := [(.sl 5 W9), (.int .i64), (.int .i64), (.sl 9 Qe)]
abbrev Qz6 : Type := ByteArray × List y2D × Int × Int
abbrev qz6 : List Ty := [.str, (.sl 5 W9), (.int .i64), (.int .i64)]
abbrev Qz7 : Type := Int × ByteArray × ByteArray × Int × Int × List y2D × Int × Int
abbrev qz7 : List Ty := [(.int .i64), .str, .str, (.int .i64), (.int .i64), (.sl 5 W9), (.int .i64), (.int .i64)]
abbrev Qz8 : Type := List yb × List y0
abbrev qz8 : List Ty := [(.sl 3 yd), (.sl 99 yg)]
abbrev Qz9 : Type := List yb × List y0 × List ya × List y7 × List ye × Int
abbrev qz9 : List Ty := [(.sl 3 yd), (.sl 99 yg), (.sl 67 yk), (.sl 53 yc), (.sl 41 yz), (.int .i64)]
abbrev ysX : Type := Int × Int × Int
abbrev ysY : List Ty := [(.int .i64), (.int .i64), (.int .i64)]
abbrev ysl : Type := ByteArray × Int
abbrev ysm : List Ty := [.str, (.int .i64)]
abbrev yxU : Type := ByteArray × Bool
abbrev yxV : Type := Int × ByteArray × ByteArray × Int × Int
abbrev yhR : List Ty := [(.int .i64), .str, .str, (.int .i64), (.int .i64)]
abbrev ygk : Type := Int × Int × Int × Int × Int
abbrev qt : List Ty := [(.int .i64), (.int .i64), (.int .i64), (.int .i64), (.int .i64)]
abbrev ysn : Type := Int × Int × Int × Int × Int × Int × Int × Int × Int × Int
abbrev yso : List Ty := [(.int .i64), (.int .i64), (.int .i64), (.int .i64), (.int .i64), (.int .i64), (.int .i64), (.int .i64), (.int .i64), (.int .i64)]
abbrev ysp : Type := List y8 × Int
abbrev ysq : List Ty := [(.sl 63 yi), (.int .i64)]
abbrev yxW : Type := List y8 × Bool
abbrev yxX : Type := Int × Int × List y9
abbrev yxY : List Ty := [(.int .i64), (.int .i64), (.sl 58 yp)]
abbrev yhS : Type := Int × List y9
abbrev ysr : List Ty := [(.int .i64), (.sl 58 yp)]
abbrev yAv : Type := Bool × List y9
abbrev yss : Type := List y8 × Int × List y8
abbrev yst : List Ty := [(.sl 63 yi), (.int .i64), (.sl 63 yi)]
abbrev yxZ : Type := List y8 × Bool × Int × Int × Int × Int × Int × Int × List y8
abbrev yy0 : List Ty := [(.sl 63 yi), .bool, (.int .i64), (.int .i64), (.int .i64), (.int .i64), (.int .i64), (.int .i64), (.sl 63 yi)]
abbrev yy1 : Type := Bool × Int × Int × Int × Int × Int × List y8
abbrev yy2 : Type := List y8 × Int × Int × Int × Int × Int
abbrev yy3 : List Ty := [(.sl 63 yi), (.int .i64), (.int .i64), (.int .i64), (.int .i64), (.int .i64)]
abbrev ysZ : Type := List y8 × List y8
abbrev yt0 : List Ty := [(.sl 63 yi), (.sl 63 yi)]
abbrev yy4 : Type := Int × List y9 × List y8
abbrev yy5 : List Ty := [(.int .i64), (.sl 58 yp), (.sl 63 yi)]
abbrev ylS : Type := Int × Int
abbrev ymk : List Ty := [(.int .i64), (.int .i64)]
abbrev yy6 : Type := Int × Int × Int × List yb × List y0 × List y9
abbrev yy7 : List Ty := [(.int .i64), (.int .i64), (.int .i64), (.sl 3 yd), (.sl 99 yg), (.sl 58 yp)]
abbrev yAw : Type := Int × Bool × Int × List yb × List y0 × List y9
abbrev yt1 : Type := Int × Int × List yb × List y0 × List y9
abbrev yy8 : List Ty := [(.int .i64), (.int .i64), (.sl 3 yd), (.sl 99 yg), (.sl 58 yp)]
abbrev ylT : Type := List yb × List y0 × Int
abbrev ylU : List Ty := [(.sl 3 yd), (.sl 99 yg), (.int .i64)]
abbrev yy9 : Type := Int × List yb × List y0 × List y8
abbrev yya : List Ty := [(.int .i64), (.sl 3 yd), (.sl 99 yg), (.sl 63 yi)]
abbrev y9x : Type := Int × List yb × List y0
abbrev yfy : List Ty := [(.int .i64), (.sl 3 yd), (.sl 99 yg)]
abbrev yAx : Type := Bool × List yb × List y0
abbrev yt2 : Type := List ya × Int × Int
abbrev yt3 : List Ty := [(.sl 67 yk), (.int .i64), (.int .i64)]
abbrev yfz : Type := List ya × Int
abbrev yfA : List Ty := [(.sl 67 yk), (.int .i64)]
abbrev ysu : Type := List ya × Bool
abbrev yyb : List Ty := [(.sl 67 yk), .bool]
abbrev yhT : Type := List y7 × Int
abbrev yhU : List Ty := [(.sl 53 yc), (.int .i64)]
abbrev yyc : Type := List y7 × Bool
abbrev yyd : Type := List ya × Int × Int × List yb
abbrev yye : List Ty := [(.sl 67 yk), (.int .i64), (.int .i64), (.sl 3 yd)]
abbrev yyf : Type := Int × Int × List yb × List y0 × List ya × List y7 × List ye × Int × ByteArray × Int × Int × Bool
abbrev yyg : List Ty := [(.int .i64), (.int .i64), (.sl 3 yd), (.sl 99 yg), (.sl 67 yk), (.sl 53 yc), (.sl 41 yz), (.int .i64), .str, (.int .i64), (.int .i64), .bool]
abbrev yt4 : Type := Bool × Int × List yb × List y0 × List ya × List y7 × List ye × Int
abbrev yek : Type := Int × List yb × List y0 × List ya × List y7 × List ye × Int
abbrev ylV : List Ty := [(.int .i64), (.sl 3 yd), (.sl 99 yg), (.sl 67 yk), (.sl 53 yc), (.sl 41 yz), (.int .i64)]
abbrev yjd : Type := Bool × List yb × List y0 × List ya × List y7 × List ye × Int
abbrev yt5 : List Ty := [.bool, (.sl 3 yd), (.sl 99 yg), (.sl 67 yk), (.sl 53 yc), (.sl 41 yz), (.int .i64)]
abbrev ylW : Type := List y7 × Int × Int
abbrev ylX : List Ty := [(.sl 53 yc), (.int .i64), (.int .i64)]
abbrev yyh : Type := Int × Bool
abbrev yyi : List Ty := [(.int .i64), .bool]
abbrev yt6 : Type := Int × Int × Int × List yb × List y0 × List ya × List y7 × List ye × Int × List y8
abbrev yyj : List Ty := [(.int .i64), (.int .i64), (.int .i64), (.sl 3 yd), (.sl 99 yg), (.sl 67 yk), (.sl 53 yc), (.sl 41 yz), (.int .i64), (.sl 63 yi)]
abbrev yAy : Type := Bool × Int × Int × List yb × List y0 × List ya × List y7 × List ye × Int × List y8
abbrev yje : Type := Int × Int × List yb × List y0 × List ya × List y7 × List ye × Int × List y8
abbrev ylY : List Ty := [(.int .i64), (.int .i64), (.sl 3 yd), (.sl 99 yg), (.sl 67 yk), (.sl 53 yc), (.sl 41 yz), (.int .i64), (.sl 63 yi)]
abbrev yjf : Type := Int × List y9 × List y9
abbrev ysv : List Ty := [(.int .i64), (.sl 58 yp), (.sl 58 yp)]
abbrev yml : Type := Int × List yb × List y0 × List yb
abbrev yyk : List Ty := [(.int .i64), (.sl 3 yd), (.sl 99 yg), (.sl 3 yd)]
abbrev yjg : Type := Int × List yb × List y0 × List yb × List y0
abbrev ysw : List Ty := [(.int .i64), (.sl 3 yd), (.sl 99 yg), (.sl 3 yd), (.sl 99 yg)]
abbrev ysx : Type := List yb × List y0 × List ya × List y7 × List ye × Int × ByteArray
abbrev ysy : List Ty := [(.sl 3 yd), (.sl 99 yg), (.sl 67 yk), (.sl 53 yc), (.sl 41 yz), (.int .i64), .str]
abbrev yyl : Type := ByteArray × Int × List yb × List y0 × List ya × List y7 × List ye × Int
abbrev yym : List Ty := [.str, (.int .i64), (.sl 3 yd), (.sl 99 yg), (.sl 67 yk), (.sl 53 yc), (.sl 41 yz), (.int .i64)]
abbrev yyn : Type := List ya × Int × Int × Bool × Int × List ya
abbrev yyo : List Ty := [(.sl 67 yk), (.int .i64), (.int .i64), .bool, (.int .i64), (.sl 67 yk)]
abbrev yAz : Type := List ya × Int × Int × Bool × List ya
abbrev yt7 : Type := Int × ByteArray × Int × Int × Bool × List ye
abbrev yyp : List Ty := [(.int .i64), .str, (.int .i64), (.int .i64), .bool, (.sl 41 yz)]
abbrev yt8 : Type := List ye × ByteArray × Int × Int × Bool
abbrev yt9 : List Ty := [(.sl 41 yz), .str, (.int .i64), (.int .i64), .bool]
abbrev yAA : Type := List yb × List y0 × List ya × List y7 × List ye × Int × List yb × List y0 × List ya × List y7 × List ye × Int × Bool
abbrev yAB : List Ty := [(.sl 3 yd), (.sl 99 yg), (.sl 67 yk), (.sl 53 yc), (.sl 41 yz), (.int .i64), (.sl 3 yd), (.sl 99 yg), (.sl 67 yk), (.sl 53 yc), (.sl 41 yz), (.int .i64), .bool]
abbrev y9y : Type := List yb × List y0 × List ya × List y7 × List ye × Int × Int
abbrev y9z : List Ty := [(.sl 3 yd), (.sl 99 yg), (.sl 67 yk), (.sl 53 yc), (.sl 41 yz), (.int .i64), (.int .i64)]
abbrev ysz : Type := List yb × List y0 × List ya × List y7 × List ye × Int × ByteArray × Int
abbrev ysA : List Ty := [(.sl 3 yd), (.sl 99 yg), (.sl 67 yk), (.sl 53 yc), (.sl 41 yz), (.int .i64), .str, (.int .i64)]
abbrev yAC : Type := List yb × List y0 × List ya × List y7 × List ye × Int × ByteArray × ByteArray × Bool
abbrev yAD : List Ty := [(.sl 3 yd), (.sl 99 yg), (.sl 67 yk), (.sl 53 yc), (.sl 41 yz), (.int .i64), .str, .str, .bool]
abbrev yyq : Type := List y7 × Int × Int × List y7
abbrev yyr : List Ty := [(.sl 53 yc), (.int .i64), (.int .i64), (.sl 53 yc)]
abbrev yAE : Type := Int × Bool × List y7
abbrev yys : Type := List y7 × Int × Bool
abbrev yyt : List Ty := [(.sl 53 yc), (.int .i64), .bool]
abbrev yyu : Type := Int × Int × Int × Int × List yb × List y0
abbrev yyv : List Ty := [(.int .i64), (.int .i64), (.int .i64), (.int .i64), (.sl 3 yd), (.sl 99 yg)]
abbrev yta : Type := List yb × List y0 × Int × Int
abbrev ytb : List Ty := [(.sl 3 yd), (.sl 99 yg), (.int .i64), (.int .i64)]
abbrev yyw : Type := List y8 × Int × Int × Int × Int × Int × Int × Int × Int
abbrev yyx : List Ty := [(.sl 63 yi), (.int .i64), (.int .i64), (.int .i64), (.int .i64), (.int .i64), (.int .i64), (.int .i64), (.int .i64)]
abbrev ytc : Type := Bool × Int × Int × Int × Int × Int
abbrev yyy : Type := List y8 × Int × Int
abbrev yyz : List Ty := [(.sl 63 yi), (.int .i64), (.int .i64)]
abbrev ygl : Type := Int × Int × Int × Int × Int × Bool
abbrev ygm : List Ty := [(.int .i64), (.int .i64), (.int .i64), (.int .i64), (.int .i64), .bool]
abbrev yyA : Type := Int × Int × Int × List y9 × Int × Int × Int × Int × Int
abbrev yyB : List Ty := [(.int .i64), (.int .i64), (.int .i64), (.sl 58 yp), (.int .i64), (.int .i64), (.int .i64), (.int .i64), (.int .i64)]
abbrev ylZ : Type := List y9 × Int × Int
abbrev ytd : List Ty := [(.sl 58 yp), (.int .i64), (.int .i64)]
abbrev yte : Type := List y9 × Int × Int × Int × Int × Int
abbrev ytf : List Ty := [(.sl 58 yp), (.int .i64), (.int .i64), (.int .i64), (.int .i64), (.int .i64)]
abbrev yyC : Type := List y9 × Bool
abbrev yyD : List Ty := [(.sl 58 yp), .bool]
abbrev yAF : Type := List yb × List y0 × Int × List yb × List y0
abbrev yAG : List Ty := [(.sl 3 yd), (.sl 99 yg), (.int .i64), (.sl 3 yd), (.sl 99 yg)]
abbrev yyE : Type := List yb × List y0 × Int × Int × Int × Int × Int
abbrev yyF : List Ty := [(.sl 3 yd), (.sl 99 yg), (.int .i64), (.int .i64), (.int .i64), (.int .i64), (.int .i64)]
abbrev yyG : Type := List yb × List y0 × Bool
abbrev yyH : List Ty := [(.sl 3 yd), (.sl 99 yg), .bool]
abbrev yAH : Type := List yb × List y0 × List ya × List y7 × List ye × Int × Int × Int × Int × Int × Int × Bool
abbrev yAI : List Ty := [(.sl 3 yd), (.sl 99 yg), (.sl 67 yk), (.sl 53 yc), (.sl 41 yz), (.int .i64), (.int .i64), (.int .i64), (.int .i64), (.int .i64), (.int .i64), .bool]
abbrev ysB : Type := List yb × List y0 × List ya × List y7 × List ye × Int × Int × Int × Int × Int × Int
abbrev ysC : List Ty := [(.sl 3 yd), (.sl 99 yg), (.sl 67 yk), (.sl 53 yc), (.sl 41 yz), (.int .i64), (.int .i64), (.int .i64), (.int .i64), (.int .i64), (.int .i64)]
abbrev yAJ : Type := List yb × List y0 × List ya × List y7 × List ye × Int × ByteArray × Int × Int
abbrev yAK : List Ty := [(.sl 3 yd), (.sl 99 yg), (.sl 67 yk), (.sl 53 yc), (.sl 41 yz), (.int .i64), .str, (.int .i64), (.int .i64)]
abbrev yyI : Type := List ya × Int × List yb
abbrev yyJ : List Ty := [(.sl 67 yk), (.int .i64), (.sl 3 yd)]
abbrev yyK : Type := Int × Int × List y8 × List y8
abbrev yyL : List Ty := [(.int .i64), (.int .i64), (.sl 63 yi), (.sl 63 yi)]
abbrev yyM : Type := List yb × Int × Int
abbrev yyN : List Ty := [(.sl 3 yd), (.int .i64), (.int .i64)]
abbrev ytg : Type := List yb × Int
abbrev yth : List Ty := [(.sl 3 yd), (.int .i64)]
abbrev yyO : Type := List yb × Bool × Int × Int × Int × Int × Int × Int × Int × Int × Int × Int × Int × List y8
abbrev yyP : List Ty := [(.sl 3 yd), .bool, (.int .i64), (.int .i64), (.int .i64), (.int .i64), (.int .i64), (.int .i64), (.int .i64), (.int .i64), (.int .i64), (.int .i64), (.int .i64), (.sl 63 yi)]
abbrev yyQ : Type := Bool × Int × Int × Int × Int × Int × Int × Int × Int × Int × Int
abbrev yyR : Type := List yb × List y0 × Int × List yb
abbrev yyS : List Ty := [(.sl 3 yd), (.sl 99 yg), (.int .i64), (.sl 3 yd)]
abbrev yti : Type := List yb × List y0 × List ya × Int × Int
abbrev ytj : List Ty := [(.sl 3 yd), (.sl 99 yg), (.sl 67 yk), (.int .i64), (.int .i64)]
abbrev yyT : Type := List yb × List y0 × List ya × List y7 × List ye × Int × Int × Int
abbrev yyU : List Ty := [(.sl 3 yd), (.sl 99 yg), (.sl 67 yk), (.sl 53 yc), (.sl 41 yz), (.int .i64), (.int .i64), (.int .i64)]
abbrev ymm : Type := Int × Int × Bool × Int × List yb × List y0 × List ya × List y7 × List ye × Int × Int × Int × List yb × List y0 × List ya × List y7 × List ye
abbrev yyV : List Ty := [(.int .i64), (.int .i64), .bool, (.int .i64), (.sl 3 yd), (.sl 99 yg), (.sl 67 yk), (.sl 53 yc), (.sl 41 yz), (.int .i64), (.int .i64), (.int .i64), (.sl 3 yd), (.sl 99 yg), (.sl 67 yk), (.sl 53 yc), (.sl 41 yz)]
abbrev ymn : Type := Int × Int × Bool × Int × List yb × List y0 × List ya × List y7 × List ye × Int × Int × List yb × List y0 × List ya × Int × List y7 × List ye
abbrev yyW : List Ty := [(.int .i64), (.int .i64), .bool, (.int .i64), (.sl 3 yd), (.sl 99 yg), (.sl 67 yk), (.sl 53 yc), (.sl 41 yz), (.int .i64), (.int .i64), (.sl 3 yd), (.sl 99 yg), (.sl 67 yk), (.int .i64), (.sl 53 yc), (.sl 41 yz)]
abbrev yAL : Type := Int × Int × Bool × List yb × List y0 × List ya × List y7 × List ye × Int × Int × Int × List yb × List y0 × List ya × List y7 × List ye
abbrev yAM : Type := Int × Int × Bool × List yb × List y0 × List ya × List y7 × List ye × Int × Int × List yb × List y0 × List ya × Int × List y7 × List ye
abbrev yAN : Type := List yb × List y0 × List ya × Int × Int × Int × Int × Int × Int
abbrev yAO : List Ty := [(.sl 3 yd), (.sl 99 yg), (.sl 67 yk), (.int .i64), (.int .i64), (.int .i64), (.int .i64), (.int .i64), (.int .i64)]
abbrev yyX : Type := Int × List yb × List y0 × List ya × List y7 × List ye × Int × Int × Int × Int × Int × Int
abbrev yyY : List Ty := [(.int .i64), (.sl 3 yd), (.sl 99 yg), (.sl 67 yk), (.sl 53 yc), (.sl 41 yz), (.int .i64), (.int .i64), (.int .i64), (.int .i64), (.int .i64), (.int .i64)]
abbrev ytk : Type := Int × Int × List yb × List y0 × List ya × List y7 × List ye × Int
abbrev yyZ : List Ty := [(.int .i64), (.int .i64), (.sl 3 yd), (.sl 99 yg), (.sl 67 yk), (.sl 53 yc), (.sl 41 yz), (.int .i64)]
abbrev yAP : Type := List yb × List y0 × List ya × List y7 × List ye × Int × Int × Int × Int × Int × Int × Int
abbrev yAQ : List Ty := [(.sl 3 yd), (.sl 99 yg), (.sl 67 yk), (.sl 53 yc), (.sl 41 yz), (.int .i64), (.int .i64), (.int .i64), (.int .i64), (.int .i64), (.int .i64), (.int .i64)]
abbrev yAR : Type := Int × Bool × List yb × List y0 × List ya × List y7 × List ye × Int
abbrev yjh : Type := Int × List yb × List y0 × List ya × List y7 × List ye × Int × List y8
abbrev ymo : List Ty := [(.int .i64), (.sl 3 yd), (.sl 99 yg), (.sl 67 yk), (.sl 53 yc), (.sl 41 yz), (.int .i64), (.sl 63 yi)]
abbrev ymp : Type := List ya × Int × Int × Int × List ya
abbrev ymq : List Ty := [(.sl 67 yk), (.int .i64), (.int .i64), (.int .i64), (.sl 67 yk)]
abbrev ycZ : Type := List yb × List y0 × List ya × List y7 × List ye × Int × Bool
abbrev yd0 : List Ty := [(.sl 3 yd), (.sl 99 yg), (.sl 67 yk), (.sl 53 yc), (.sl 41 yz), (.int .i64), .bool]
abbrev ymr : Type := Int × Int × Int × Int × Int × Int × Int × List y8
abbrev yms : List Ty := [(.int .i64), (.int .i64), (.int .i64), (.int .i64), (.int .i64), (.int .i64), (.int .i64), (.sl 63 yi)]
abbrev yji : Type := List yb × List y0 × List ya × List y7 × List ye × Int × Int × ByteArray × ByteArray × Int × Int
abbrev yjj : List Ty := [(.sl 3 yd), (.sl 99 yg), (.sl 67 yk), (.sl 53 yc), (.sl 41 yz), (.int .i64), (.int .i64), .str, .str, (.int .i64), (.int .i64)]
abbrev yel : Type := Int × List y2D × Int × Int × Int × Int × List yb × List y0 × List ya × List y7 × List ye
abbrev ymt : List Ty := [(.int .i64), (.sl 5 W9), (.int .i64), (.int .i64), (.int .i64), (.int .i64), (.sl 3 yd), (.sl 99 yg), (.sl 67 yk), (.sl 53 yc), (.sl 41 yz)]
abbrev yem : Type := Int × List y2D × Int × Int × Int × List yb × List y0 × List ya × Int × List y7 × List ye
abbrev ymu : List Ty := [(.int .i64), (.sl 5 W9), (.int .i64), (.int .i64), (.int .i64), (.sl 3 yd), (.sl 99 yg), (.sl 67 yk), (.int .i64), (.sl 53 yc), (.sl 41 yz)]
abbrev ytl : Type := List y2D × Int × Int × Int × Int × List yb × List y0 × List ya × List y7 × List ye
abbrev ytm : Type := List y2D × Int × Int × Int × List yb × List y0 × List ya × Int × List y7 × List ye
abbrev ytn : Type := List yb × List y0 × List ya × List y7 × List ye × Int × List y2D × Int × Int
abbrev yto : List Ty := [(.sl 3 yd), (.sl 99 yg), (.sl 67 yk), (.sl 53 yc), (.sl 41 yz), (.int .i64), (.sl 5 W9), (.int .i64), (.int .i64)]
abbrev ymv : Type := List yb × List yb × Int
abbrev ymw : List Ty := [(.sl 3 yd), (.sl 3 yd), (.int .i64)]
abbrev ymx : Type := List yb × List yb
abbrev ymy : List Ty := [(.sl 3 yd), (.sl 3 yd)]
abbrev ymz : Type := List y8 × List y8 × Int
abbrev ymA : List Ty := [(.sl 63 yi), (.sl 63 yi), (.int .i64)]
abbrev ytp : Type := List y9 × List y9
abbrev ytq : List Ty := [(.sl 58 yp), (.sl 58 yp)]
abbrev ytr : Type := List yb × List y0 × List yb × List y0
abbrev yts : List Ty := [(.sl 3 yd), (.sl 99 yg), (.sl 3 yd), (.sl 99 yg)]
abbrev ymB : Type := List ya × List ya × Int
abbrev ymC : List Ty := [(.sl 67 yk), (.sl 67 yk), (.int .i64)]
abbrev ytt : Type := List ya × List ya
abbrev ytu : List Ty := [(.sl 67 yk), (.sl 67 yk)]
abbrev ymD : Type := List y7 × List y7 × Int
abbrev ymE : List Ty := [(.sl 53 yc), (.sl 53 yc), (.int .i64)]
abbrev ytv : Type := List y7 × List y7
abbrev ytw : List Ty := [(.sl 53 yc), (.sl 53 yc)]
abbrev ymF : Type := Int × List yb × List y0 × List ya × List y7 × List ye × Int × List yb × List y0 × List ya × List y7 × List ye × Int
abbrev ymG : List Ty := [(.int .i64), (.sl 3 yd), (.sl 99 yg), (.sl 67 yk), (.sl 53 yc), (.sl 41 yz), (.int .i64), (.sl 3 yd), (.sl 99 yg), (.sl 67 yk), (.sl 53 yc), (.sl 41 yz), (.int .i64)]
abbrev ytx : Type := List yb × List y0 × List ya × List y7 × List ye × Int × List yb × List y0 × List ya × List y7 × List ye × Int
abbrev yty : List Ty := [(.sl 3 yd), (.sl 99 yg), (.sl 67 yk), (.sl 53 yc), (.sl 41 yz), (.int .i64), (.sl 3 yd), (.sl 99 yg), (.sl 67 yk), (.sl 53 yc), (.sl 41 yz), (.int .i64)]
abbrev ymH : Type := Bool × List y8 × Int × Int × Int × Int × Int × Int × Int × List y8
abbrev ymI : List Ty := [.bool, (.sl 63 yi), (.int .i64), (.int .i64), (.int .i64), (.int .i64), (.int .i64), (.int .i64), (.int .i64), (.sl 63 yi)]
abbrev ygn : Type := List y8 × Int × Int × List y8
abbrev ygo : List Ty := [(.sl 63 yi), (.int .i64), (.int .i64), (.sl 63 yi)]
abbrev ymJ : Type := List y9 × Int × Int × List y8
abbrev ymK : List Ty := [(.sl 58 yp), (.int .i64), (.int .i64), (.sl 63 yi)]
abbrev ymL : Type := List y8 × List y8 × Int × Int
abbrev ymM : List Ty := [(.sl 63 yi), (.sl 63 yi), (.int .i64), (.int .i64)]
abbrev ymN : Type := Int × List y9 × Int × Int × List y9
abbrev ymO : List Ty := [(.int .i64), (.sl 58 yp), (.int .i64), (.int .i64), (.sl 58 yp)]
abbrev ytz : Type := Bool × Int × List y9
abbrev ymP : Type := Int × List y9 × Int × Int × List y8 × Int × Int × List yb × List y0
abbrev ymQ : List Ty := [(.int .i64), (.sl 58 yp), (.int .i64), (.int .i64), (.sl 63 yi), (.int .i64), (.int .i64), (.sl 3 yd), (.sl 99 yg)]
abbrev ytA : Type := Int × Bool × List y9 × Int × Int × List yb × List y0
abbrev yjk : Type := Int × List y9 × Int × Int × List yb × List y0
abbrev ymR : List Ty := [(.int .i64), (.sl 58 yp), (.int .i64), (.int .i64), (.sl 3 yd), (.sl 99 yg)]
abbrev ymS : Type := Int × List y0 × Int × Int × List yb × List y0
abbrev ymT : List Ty := [(.int .i64), (.sl 99 yg), (.int .i64), (.int .i64), (.sl 3 yd), (.sl 99 yg)]
abbrev ymU : Type := Bool × Int
abbrev ytB : List Ty := [.bool, (.int .i64)]
abbrev ymV : Type := List ya × Int × Int × Int
abbrev ymW : List Ty := [(.sl 67 yk), (.int .i64), (.int .i64), (.int .i64)]
abbrev ymX : Type := List ya × List ya × Int × Int
abbrev ymY : List Ty := [(.sl 67 yk), (.sl 67 yk), (.int .i64), (.int .i64)]
abbrev ymZ : Type := List y7 × List y7 × Int × Int
abbrev yn0 : List Ty := [(.sl 53 yc), (.sl 53 yc), (.int .i64), (.int .i64)]
abbrev yn1 : Type := Int × List ya × Int × Int × List yb
abbrev yn2 : List Ty := [(.int .i64), (.sl 67 yk), (.int .i64), (.int .i64), (.sl 3 yd)]
abbrev ytC : Type := ByteArray × Int × Int × Bool × ByteArray × Int × Int × Bool
abbrev ytD : List Ty := [.str, (.int .i64), (.int .i64), .bool, .str, (.int .i64), (.int .i64), .bool]
abbrev yn3 : Type := Bool × ByteArray × Int × Int × Bool
abbrev yn4 : List Ty := [.bool, .str, (.int .i64), (.int .i64), .bool]
abbrev yn5 : Type := List ye × Int × Int × ByteArray × Int × Int × Bool
abbrev yn6 : List Ty := [(.sl 41 yz), (.int .i64), (.int .i64), .str, (.int .i64), (.int .i64), .bool]
abbrev yn7 : Type := Int × ByteArray × Int × Int × Bool
abbrev ytE : List Ty := [(.int .i64), .str, (.int .i64), (.int .i64), .bool]
abbrev ytF : Type := ByteArray × Int × Int × Bool
abbrev yen : List Ty := [.str, (.int .i64), (.int .i64), .bool]
abbrev yn8 : Type := List ye × Int × Int × List yb × List y0 × List ya × List y7 × List ye × Int
abbrev yn9 : List Ty := [(.sl 41 yz), (.int .i64), (.int .i64), (.sl 3 yd), (.sl 99 yg), (.sl 67 yk), (.sl 53 yc), (.sl 41 yz), (.int .i64)]
abbrev yna : Type := Int × List y7 × Int × Int
abbrev ynb : List Ty := [(.int .i64), (.sl 53 yc), (.int .i64), (.int .i64)]
abbrev ync : Type := List y0 × Int × Int × List y8
abbrev ynd : List Ty := [(.sl 99 yg), (.int .i64), (.int .i64), (.sl 63 yi)]
abbrev yne : Type := Int × Int × Int × List yb × List y0 × List ya × List y7 × List ye × Int × List ybC × List y8
abbrev ynf : List Ty := [(.int .i64), (.int .i64), (.int .i64), (.sl 3 yd), (.sl 99 yg), (.sl 67 yk), (.sl 53 yc), (.sl 41 yz), (.int .i64), (.sl 4 y3W), (.sl 63 yi)]
abbrev yng : Type := List ya × Int × Int × List yb × List y0 × List ya × List y7 × List ye × Int
abbrev ynh : List Ty := [(.sl 67 yk), (.int .i64), (.int .i64), (.sl 3 yd), (.sl 99 yg), (.sl 67 yk), (.sl 53 yc), (.sl 41 yz), (.int .i64)]
abbrev yeo : Type := List y9 × Int × Int × List y9
abbrev yni : List Ty := [(.sl 58 yp), (.int .i64), (.int .i64), (.sl 58 yp)]
abbrev yep : Type := List y0 × Int × Int × List yb
abbrev ynj : List Ty := [(.sl 99 yg), (.int .i64), (.int .i64), (.sl 3 yd)]
abbrev yeq : Type := List y0 × Int × Int × List yb × List y0
abbrev ynk : List Ty := [(.sl 99 yg), (.int .i64), (.int .i64), (.sl 3 yd), (.sl 99 yg)]
abbrev ynl : Type := Int × Int × Int × List yb × List y0
abbrev ynm : List Ty := [(.int .i64), (.int .i64), (.int .i64), (.sl 3 yd), (.sl 99 yg)]
abbrev ynn : Type := Int × Int × List y8 × Int × Int × Int × Int × Int × Int × Int
abbrev yno : List Ty := [(.int .i64), (.int .i64), (.sl 63 yi), (.int .i64), (.int .i64), (.int .i64), (.int .i64), (.int .i64), (.int .i64), (.int .i64)]
abbrev ytG : Type := List yb × List y0 × Int × Int × List yb × List y0
abbrev ytH : List Ty := [(.sl 3 yd), (.sl 99 yg), (.int .i64), (.int .i64), (.sl 3 yd), (.sl 99 yg)]
abbrev yer : Type := Int × Int × Int × Int × List yb × List y0 × List ya × List y7 × List ye × Int × Int × Int × List y7 × List y8 × List yb × List y0 × List ya × List y7 × List ye
abbrev ynp : List Ty := [(.int .i64), (.int .i64), (.int .i64), (.int .i64), (.sl 3 yd), (.sl 99 yg), (.sl 67 yk), (.sl 53 yc), (.sl 41 yz), (.int .i64), (.int .i64), (.int .i64), (.sl 53 yc), (.sl 63 yi), (.sl 3 yd), (.sl 99 yg), (.sl 67 yk), (.sl 53 yc), (.sl 41 yz)]
abbrev yes : Type := Int × Int × Int × Int × List yb × List y0 × List ya × List y7 × List ye × Int × Int × List yb × List y0 × Int × List y7 × List y8 × List ya × List y7 × List ye
abbrev ynq : List Ty := [(.int .i64), (.int .i64), (.int .i64), (.int .i64), (.sl 3 yd), (.sl 99 yg), (.sl 67 yk), (.sl 53 yc), (.sl 41 yz), (.int .i64), (.int .i64), (.sl 3 yd), (.sl 99 yg), (.int .i64), (.sl 53 yc), (.sl 63 yi), (.sl 67 yk), (.sl 53 yc), (.sl 41 yz)]
abbrev ytI : Type := Int × Bool × List yb × List y0 × List ya × List y7 × List ye × Int × Int × Int × List y7 × List yb × List y0 × List ya × List y7 × List ye × List yb × List y0 × List ya × List y7 × List ye
abbrev ytJ : Type := Int × List yb × List y0 × List ya × List y7 × List ye × Int × Int × Int × List y7 × List yb × List y0 × List ya × List y7 × List ye
abbrev ytK : Type := Int × Bool × List yb × List y0 × List ya × List y7 × List ye × Int × Int × List yb × List y0 × Int × List y7 × List yb × List y0 × List ya × List y7 × List ye × List ya × List y7 × List ye
abbrev ytL : Type := Int × List yb × List y0 × List ya × List y7 × List ye × Int × Int × List yb × List y0 × Int × List y7 × List ya × List y7 × List ye
abbrev yet : Type := Int × Int × Int × List yb × List y0 × List ya × List y7 × List ye
abbrev ynr : List Ty := [(.int .i64), (.int .i64), (.int .i64), (.sl 3 yd), (.sl 99 yg), (.sl 67 yk), (.sl 53 yc), (.sl 41 yz)]
abbrev yeu : Type := Int × Int × List yb × List y0 × Int × List ya × List y7 × List ye
abbrev yns : List Ty := [(.int .i64), (.int .i64), (.sl 3 yd), (.sl 99 yg), (.int .i64), (.sl 67 yk), (.sl 53 yc), (.sl 41 yz)]
abbrev ytM : Type := Int × Int × List yb × List y0 × List ya × List y7 × List ye
abbrev ytN : Type := Int × List yb × List y0 × Int × List ya × List y7 × List ye
abbrev ynt : Type := Int × Int × Int × List y8 × List y8
abbrev ynu : List Ty := [(.int .i64), (.int .i64), (.int .i64), (.sl 63 yi), (.sl 63 yi)]
abbrev ynv : Type := List yb × Int × Int × Int
abbrev ynw : List Ty := [(.sl 3 yd), (.int .i64), (.int .i64), (.int .i64)]
abbrev ynx : Type := List yb × Bool × Int × Int × Int × Int × Int × Int × Int × Int × Int × Int × Int × Int × List y8
abbrev yny : List Ty := [(.sl 3 yd), .bool, (.int .i64), (.int .i64), (.int .i64), (.int .i64), (.int .i64), (.int .i64), (.int .i64), (.int .i64), (.int .i64), (.int .i64), (.int .i64), (.int .i64), (.sl 63 yi)]
abbrev ynz : Type := List ya × Int × Int × Int × List yb
abbrev ynA : List Ty := [(.sl 67 yk), (.int .i64), (.int .i64), (.int .i64), (.sl 3 yd)]
abbrev yev : Type := Int × Int × List ye × Int × Int × List yb × List y0 × List ya × List y7 × List ye × Int × ByteArray × Int × Int × Bool × ByteArray × Bool × List km
abbrev ynB : List Ty := [(.int .i64), (.int .i64), (.sl 41 yz), (.int .i64), (.int .i64), (.sl 3 yd), (.sl 99 yg), (.sl 67 yk), (.sl 53 yc), (.sl 41 yz), (.int .i64), .str, (.int .i64), (.int .i64), .bool, .str, .bool, (.sl 89 Zw)]
abbrev yew : Type := Int × Int × List ye × Int × Int × List yb × List y0 × List ya × List y7 × List ye × Int × ByteArray × Int × Int × Bool × ByteArray × Bool × List km × List yb
abbrev ynC : List Ty := [(.int .i64), (.int .i64), (.sl 41 yz), (.int .i64), (.int .i64), (.sl 3 yd), (.sl 99 yg), (.sl 67 yk), (.sl 53 yc), (.sl 41 yz), (.int .i64), .str, (.int .i64), (.int .i64), .bool, .str, .bool, (.sl 89 Zw), (.sl 3 yd)]
abbrev ytO : Type := List ye × Int × Int × List yb × List y0 × List ya × List y7 × List ye × Int × ByteArray × Bool × List km
abbrev ytP : Type := List ye × Int × Int × List yb × List y0 × List ya × List y7 × List ye × Int × ByteArray × Bool × List km × List yb
abbrev ynD : Type := List ye × Int × Int × List yb × List y0 × List ya × List y7 × List ye × Int × List km
abbrev ynE : List Ty := [(.sl 41 yz), (.int .i64), (.int .i64), (.sl 3 yd), (.sl 99 yg), (.sl 67 yk), (.sl 53 yc), (.sl 41 yz), (.int .i64), (.sl 89 Zw)]
abbrev ynF : Type := List yb × List yb × Int × Int
abbrev ynG : List Ty := [(.sl 3 yd), (.sl 3 yd), (.int .i64), (.int .i64)]
abbrev ytQ : Type := ByteArray × Bool × List yb × ByteArray × Bool × List yb
abbrev ytR : List Ty := [.str, .bool, (.sl 3 yd), .str, .bool, (.sl 3 yd)]
abbrev ynH : Type := List km × List km × Int × Int
abbrev ynI : List Ty := [(.sl 89 Zw), (.sl 89 Zw), (.int .i64), (.int .i64)]
abbrev ynJ : Type := List km × List km
abbrev ynK : List Ty := [(.sl 89 Zw), (.sl 89 Zw)]
abbrev ynL : Type := List y2D × Bool × Bool × Int × Int × List yb × List y0 × List ya × List y7 × List ye × Int × Int × List yb × List y0 × Int × List yb × List y0 × List ya × List y7 × List ye × Int × List km × List yb × List y0 × List ya × List y7 × List ye × List ya × List y7 × List ye
abbrev ynM : List Ty := [(.sl 5 W9), .bool, .bool, (.int .i64), (.int .i64), (.sl 3 yd), (.sl 99 yg), (.sl 67 yk), (.sl 53 yc), (.sl 41 yz), (.int .i64), (.int .i64), (.sl 3 yd), (.sl 99 yg), (.int .i64), (.sl 3 yd), (.sl 99 yg), (.sl 67 yk), (.sl 53 yc), (.sl 41 yz), (.int .i64), (.sl 89 Zw), (.sl 3 yd), (.sl 99 yg), (.sl 67 yk), (.sl 53 yc), (.sl 41 yz), (.sl 67 yk), (.sl 53 yc), (.sl 41 yz)]
abbrev ytS : Type := List y2D × Bool × Bool × Bool × Int × List yb × List y0 × List ya × List y7 × List ye × Int × Int × List yb × List y0 × Int × List yb × List y0 × List ya × List y7 × List ye × Int × List km × List yb × List y0 × List ya × List y7 × List ye × List ya × List y7 × List ye
abbrev ytT : Type := List y2D × Bool × Bool × Int × List yb × List y0 × List ya × List y7 × List ye × Int × Int × List yb × List y0 × Int × List yb × List y0 × List ya × List y7 × List ye × Int × List km × List yb × List y0 × List ya × List y7 × List ye × List ya × List y7 × List ye
abbrev ynN : List Ty := [.str, .bool, (.sl 3 yd)]
def ynO : List (Nat × TI) := [
 (3, .c (.int .i64) 8),
 (4, .c (.bool) 1),
 (5, .c (.int .u8) 1),
 (9, .c (.str) 16),
 (22, .c (.sl 5 W9) 24),
 (24, .c (.sl 3 yd) 24),
 (25, .c (.sl 99 yg) 24),
 (27, .s [(0, 24), (1, 25)] [(.sl 3 yd), (.sl 99 yg)] 48),
 (28, .c (.sl 67 yk) 24),
 (29, .c (.sl 53 yc) 24),
 (30, .c (.sl 41 yz) 24),
 (32, .s [(0, 27), (2, 28), (3, 29), (4, 30), (5, 3)] [(.sl 3 yd), (.sl 99 yg), (.sl 67 yk), (.sl 53 yc), (.sl 41 yz), (.int .i64)] 128),
 (34, .s [(0, 3), (1, 9), (2, 9), (3, 3), (4, 3)] [(.int .i64), .str, .str, (.int .i64), (.int .i64)] 56),
 (41, .s [(0, 9), (1, 3), (2, 3), (3, 4)] [.str, (.int .i64), (.int .i64), .bool] 40),
 (49, .c (.sl 89 Zw) 24),
 (53, .s [(0, 3), (1, 4), (2, 3)] [(.int .i64), .bool, (.int .i64)] 24),
 (58, .c (.sl 63 yi) 24),
 (63, .s [(0, 3), (1, 3), (2, 3), (3, 3), (4, 3)] [(.int .i64), (.int .i64), (.int .i64), (.int .i64), (.int .i64)] 40),
 (67, .s [(0, 3), (1, 3)] [(.int .i64), (.int .i64)] 16),
 (89, .s [(0, 9), (1, 4), (2, 24)] [.str, .bool, (.sl 3 yd)] 48),
 (97, .c (.sl 58 yp) 24),
 (99, .s [(0, 97)] [(.sl 58 yp)] 24),
 (106, .s [(0, 22), (1, 3), (2, 3)] [(.sl 5 W9), (.int .i64), (.int .i64)] 40),
 (112, .c (.sl 9 Qe) 24),
 (139, .c (.sl 4 y3W) 24)]
def sg7 : Sig := ⟨[.v false [(.sl 5 W9)] [false]], [⟨false, [.bool], [false]⟩], false, false⟩
def yz0 : Sig := ⟨[.v false [(.sl 5 W9)] [false]], [⟨true, qz0, (nf 3)⟩], true, false⟩
def ynP : Sig := ⟨[.p none qz0 (nf 3)], [⟨false, [(.int .i64)], [false]⟩], false, false⟩
def yz1 : Sig := ⟨[.p none qz0 (nf 3), .v false [(.int .i64)] [false]], [⟨false, [(.int .i64)], [false]⟩], false, false⟩
def yz2 : Sig := ⟨[.p none qz0 (nf 3), .v false [(.sl 3 yd)] [false]], [⟨false, [(.int .i64)], [false]⟩], false, false⟩
def yz3 : Sig := ⟨[.p none qz0 (nf 3), .v false [(.sl 9 Qe)] [false]], [⟨false, [.str], [false]⟩], false, false⟩
def yz4 : Sig := ⟨[.p none qz0 (nf 3)], [⟨false, [.str], [false]⟩], false, false⟩
def yz5 : Sig := ⟨[.p none qz0 (nf 3)], [⟨false, [(.int .i64)], [false]⟩], false, false⟩
def yz6 : Sig := ⟨[.p none qz0 (nf 3)], [⟨true, yhR, (nf 5)⟩], false, false⟩
def ynQ : Sig := ⟨[], [⟨true, qz8, [true, true]⟩], false, false⟩
def ynR : Sig := ⟨[], [⟨false, [(.sl 53 yc)], [true]⟩], false, false⟩
def yz7 : Sig := ⟨[], [⟨true, qz9, [true, true, true, true, true, false]⟩], false, false⟩
def ynS : Sig := ⟨[.v false [(.int .i64)] [false], .v false [(.int .i64)] [false], .v false [(.int .i64)] [false]], [⟨false, [.bool], [false]⟩], false, false⟩
def ynT : Sig := ⟨[.v false [.str] [false]], [⟨false, [.bool], [false]⟩], false, false⟩
def ynU : Sig := ⟨[.v false [(.int .i64)] [false]], [⟨false, [.bool], [false]⟩], false, false⟩
def ynV : Sig := ⟨[.v true yhR (nf 5)], [⟨false, [.bool], [false]⟩], false, false⟩
def ynW : Sig := ⟨[.v true yhR (nf 5)], [⟨false, [.bool], [false]⟩], false, false⟩
def ynX : Sig := ⟨[.v true qt (nf 5)], [⟨false, [.bool], [false]⟩], false, false⟩
def ynY : Sig := ⟨[.v true qt (nf 5), .v true qt (nf 5)], [⟨false, [.bool], [false]⟩], false, false⟩
def ynZ : Sig := ⟨[.v false [(.sl 63 yi)] [false]], [⟨false, [.bool], [false]⟩], false, false⟩
def yo0 : Sig := ⟨[.v false [(.sl 63 yi)] [false]], [⟨false, [.bool], [false]⟩], false, false⟩
def yo1 : Sig := ⟨[.v true [(.sl 58 yp)] [false]], [⟨false, [(.int .i64)], [false]⟩], false, false⟩
def yo2 : Sig := ⟨[.v true [(.sl 58 yp)] [false]], [⟨false, [.bool], [false]⟩], false, false⟩
def yo3 : Sig := ⟨[.v false [(.sl 63 yi)] [false]], [⟨false, [(.sl 63 yi)], [true]⟩], false, false⟩
def yo4 : Sig := ⟨[.v true qt (nf 5), .v true qt (nf 5)], [⟨false, [.bool], [false]⟩], false, false⟩
def yo5 : Sig := ⟨[.v false [(.sl 63 yi)] [false], .v true qt (nf 5)], [⟨false, [(.sl 63 yi)], [true]⟩], false, false⟩
def yo6 : Sig := ⟨[.v false [(.sl 63 yi)] [false], .v false [(.sl 63 yi)] [false]], [⟨false, [(.sl 63 yi)], [true]⟩], false, false⟩
def yo7 : Sig := ⟨[.v true [(.sl 58 yp)] [false]], [⟨false, [(.sl 63 yi)], [true]⟩], false, false⟩
def yo8 : Sig := ⟨[.v false [(.int .i64)] [false], .v false [(.int .i64)] [false]], [⟨false, [(.int .i64)], [false]⟩], false, false⟩
def yo9 : Sig := ⟨[.v true qt (nf 5)], [⟨false, [(.int .i64)], [false]⟩], false, false⟩
def yoa : Sig := ⟨[.v true qz8 [false, false], .v false [(.int .i64)] [false]], [⟨false, [.bool], [false]⟩], false, false⟩
def yob : Sig := ⟨[.v true qz8 [false, false]], [⟨false, [(.sl 63 yi)], [true]⟩], false, false⟩
def yoc : Sig := ⟨[.v true qz8 [false, false]], [⟨false, [.bool], [false]⟩], false, false⟩
def yod : Sig := ⟨[.v false [(.sl 67 yk)] [false], .v false [(.int .i64)] [false]], [⟨false, [(.int .i64)], [false]⟩], false, false⟩
def yoe : Sig := ⟨[.v false [(.sl 67 yk)] [false]], [⟨false, [.bool], [false]⟩], false, false⟩
def yof : Sig := ⟨[.v false [(.sl 53 yc)] [false]], [⟨false, [.bool], [false]⟩], false, false⟩
def yog : Sig := ⟨[.v false [(.sl 67 yk)] [false], .v false [(.int .i64)] [false]], [⟨false, [(.sl 3 yd)], [true]⟩], false, false⟩
def yoh : Sig := ⟨[.v true qz9 (nf 6)], [⟨false, [.bool], [false]⟩], false, false⟩
def yoi : Sig := ⟨[.v false [(.sl 53 yc)] [false], .v false [(.int .i64)] [false], .v false [(.int .i64)] [false]], [⟨false, [(.int .i64)], [false]⟩, ⟨false, [.bool], [false]⟩], false, false⟩
def yoj : Sig := ⟨[.v false [(.sl 53 yc)] [false]], [⟨false, [(.int .i64)], [false]⟩], false, false⟩
def yok : Sig := ⟨[.v true qz9 (nf 6)], [⟨false, [.bool], [false]⟩], false, false⟩
def yol : Sig := ⟨[.v true qz9 (nf 6)], [⟨false, [.bool], [false]⟩], false, false⟩
def yom : Sig := ⟨[.v true [(.sl 58 yp)] [false]], [⟨true, [(.sl 58 yp)], [true]⟩], false, false⟩
def yon : Sig := ⟨[.v true qz8 [false, false]], [⟨true, qz8, [true, true]⟩], false, false⟩
def yoo : Sig := ⟨[.v false [(.sl 53 yc)] [false]], [⟨false, [(.sl 53 yc)], [true]⟩], false, false⟩
def yop : Sig := ⟨[.v true qz9 (nf 6)], [⟨true, qz9, [true, true, true, true, true, false]⟩], false, false⟩
def yoq : Sig := ⟨[.v true qz9 (nf 6), .v false [.str] [false]], [⟨false, [(.int .i64)], [false]⟩], false, false⟩
def yor : Sig := ⟨[.v true qz9 (nf 6), .v false [.str] [false]], [⟨false, [(.int .i64)], [false]⟩], false, false⟩
def yos : Sig := ⟨[.v false [(.sl 67 yk)] [false], .v false [(.int .i64)] [false], .v false [(.int .i64)] [false]], [⟨false, [(.sl 67 yk)], [true]⟩, ⟨false, [.bool], [false]⟩], false, false⟩
def yot : Sig := ⟨[.v false [(.sl 41 yz)] [false], .v true yen (nf 4)], [⟨false, [(.sl 41 yz)], [true]⟩], false, false⟩
def yov : Sig := ⟨[.v true qz9 (nf 6), .v true qz9 [false, false, false, true, true, false], .v false [.bool] [false]], [⟨true, qz9, [false, false, false, true, true, false]⟩, ⟨false, [(.int .i64)], [false]⟩], false, false⟩
def yow : Sig := ⟨[.v true qz9 (nf 6), .v false [.str] [false], .v false [(.int .i64)] [false]], [⟨true, qz9, [false, false, false, true, true, false]⟩, ⟨false, [(.int .i64)], [false]⟩], false, false⟩
def yox : Sig := ⟨[.v true qz9 (nf 6), .v false [.str] [false], .v false [.str] [false], .v false [.bool] [false]], [⟨true, qz9, [false, false, false, true, true, false]⟩, ⟨false, [(.int .i64)], [false]⟩], false, false⟩
def yoy : Sig := ⟨[.v true qz9 (nf 6), .v false [.str] [false]], [⟨false, [(.int .i64)], [false]⟩], false, false⟩
def yoz : Sig := ⟨[.v true qz9 (nf 6), .v false [.str] [false]], [⟨true, qz9, [false, false, false, true, true, false]⟩, ⟨false, [(.int .i64)], [false]⟩], false, false⟩
def yoA : Sig := ⟨[.v true qz9 (nf 6), .v false [.str] [false], .v false [(.int .i64)] [false]], [⟨false, [(.int .i64)], [false]⟩], false, false⟩
def yoB : Sig := ⟨[.v false [(.sl 53 yc)] [false], .v false [(.int .i64)] [false]], [⟨false, [(.sl 53 yc)], [true]⟩, ⟨false, [(.int .i64)], [false]⟩, ⟨false, [.bool], [false]⟩], false, false⟩
def yoC : Sig := ⟨[.v true qz8 [false, false], .v false [(.int .i64)] [false], .v false [(.int .i64)] [false]], [⟨false, [(.int .i64)], [false]⟩], false, false⟩
def yoD : Sig := ⟨[.v false [(.sl 63 yi)] [false], .v false [(.int .i64)] [false], .v false [(.int .i64)] [false]], [⟨true, qt, (nf 5)⟩, ⟨false, [.bool], [false]⟩], false, false⟩
def yoE : Sig := ⟨[.v true [(.sl 58 yp)] [false], .v false [(.int .i64)] [false], .v false [(.int .i64)] [false]], [⟨true, qt, (nf 5)⟩, ⟨false, [.bool], [false]⟩], false, false⟩
def yoF : Sig := ⟨[.v true qz8 [false, false], .v false [(.int .i64)] [false], .v false [(.int .i64)] [false]], [⟨true, qt, (nf 5)⟩, ⟨false, [.bool], [false]⟩], false, false⟩
def yoG : Sig := ⟨[.v false [(.sl 63 yi)] [false]], [⟨true, [(.sl 58 yp)], [true]⟩], false, false⟩
def yoH : Sig := ⟨[.v true [(.sl 58 yp)] [false], .v true qt (nf 5)], [⟨true, [(.sl 58 yp)], [true]⟩, ⟨false, [.bool], [false]⟩], false, false⟩
def yoI : Sig := ⟨[.v true qz8 [true, true], .v false [(.int .i64)] [false], .v false [(.sl 3 yd)] [false], .v false [(.sl 99 yg)] [false]], [⟨true, qz8, [true, true]⟩], false, true⟩
def yoJ : Sig := ⟨[.v true qz8 [false, false]], [⟨false, [(.int .i64)], [false]⟩], false, false⟩
def yoK : Sig := ⟨[.v true qz8 [true, true]], [⟨true, qz8, [true, true]⟩], false, false⟩
def yoL : Sig := ⟨[.v true qz8 [false, false], .v true qt (nf 5)], [⟨true, qz8, [true, true]⟩, ⟨false, [.bool], [false]⟩], false, false⟩
def yoM : Sig := ⟨[.v false [(.sl 53 yc)] [false], .v false [(.int .i64)] [false]], [⟨false, [(.sl 53 yc)], [true]⟩], false, false⟩
def yoN : Sig := ⟨[.p none qz9 [false, false, false, true, true, false], .v true qt (nf 5), .v false [.bool] [false]], [], false, false⟩
def yoO : Sig := ⟨[.p none qz9 [false, false, false, true, true, false], .v true qt (nf 5)], [⟨false, [.bool], [false]⟩], false, false⟩
def yoP : Sig := ⟨[.v true qz9 (nf 6), .v false [.str] [false], .v false [(.int .i64)] [false], .v false [(.int .i64)] [false]], [⟨true, qz9, [false, false, false, true, true, false]⟩, ⟨false, [(.int .i64)], [false]⟩], false, false⟩
def yoQ : Sig := ⟨[.v false [(.sl 67 yk)] [false], .v false [(.int .i64)] [false]], [⟨false, [(.sl 3 yd)], [true]⟩], false, false⟩
def yoR : Sig := ⟨[.v true qz8 [false, false], .v false [(.int .i64)] [false]], [⟨false, [(.sl 63 yi)], [true]⟩], false, false⟩
def yoS : Sig := ⟨[.v false [(.sl 3 yd)] [false], .v false [(.int .i64)] [false]], [⟨false, [.bool], [false]⟩], false, false⟩
def yoT : Sig := ⟨[.v true qz8 [false, false], .v false [(.int .i64)] [false], .v false [(.sl 3 yd)] [false]], [⟨true, qt, (nf 5)⟩, ⟨false, [.bool], [false]⟩], false, false⟩
def yoU : Sig := ⟨[.v true qz8 [false, false], .v false [(.sl 67 yk)] [false], .v false [(.int .i64)] [false], .v false [(.int .i64)] [false]], [⟨true, qt, (nf 5)⟩, ⟨false, [.bool], [false]⟩], false, false⟩
def yoV : Sig := ⟨[.p none qz9 [false, false, false, true, true, false], .v false [(.int .i64)] [false], .v false [(.int .i64)] [false]], [⟨false, [.bool], [false]⟩], false, false⟩
def yoW : Sig := ⟨[.v true qz9 (nf 6), .v false [.str] [false], .v false [(.int .i64)] [false]], [⟨true, qz9, [false, false, false, true, true, false]⟩, ⟨false, [(.int .i64)], [false]⟩], false, false⟩
def yoX : Sig := ⟨[.v true qz9 (nf 6), .v false [.str] [false], .v false [(.int .i64)] [false]], [⟨true, qz9, [false, false, false, true, true, false]⟩, ⟨false, [(.int .i64)], [false]⟩], false, false⟩
def yoY : Sig := ⟨[.v true qz8 [false, false], .v false [(.sl 67 yk)] [false], .v false [(.int .i64)] [false], .v false [(.int .i64)] [false]], [⟨true, qt, (nf 5)⟩, ⟨false, [.bool], [false]⟩], false, false⟩
def yoZ : Sig := ⟨[.v true qz8 [false, false], .v false [(.sl 67 yk)] [false], .v true qt (nf 5), .v false [(.int .i64)] [false]], [⟨false, [.bool], [false]⟩], false, false⟩
def yp0 : Sig := ⟨[.v true qz9 (nf 6), .v true qt (nf 5)], [⟨false, [.bool], [false]⟩], false, false⟩
def yp1 : Sig := ⟨[.v true qz9 (nf 6), .v false [(.int .i64)] [false]], [⟨false, [.bool], [false]⟩], false, false⟩
def yp2 : Sig := ⟨[.v true qz9 (nf 6), .v false [(.int .i64)] [false]], [⟨false, [(.int .i64)], [false]⟩], false, false⟩
def yp3 : Sig := ⟨[.v true qz9 (nf 6), .v true qt (nf 5)], [⟨false, [.bool], [false]⟩], false, false⟩
def yp4 : Sig := ⟨[.v true qz9 (nf 6), .v false [(.int .i64)] [false], .v true qt (nf 5)], [⟨false, [.bool], [false]⟩], false, false⟩
def yp5 : Sig := ⟨[.v true qz9 (nf 6), .v false [(.int .i64)] [false]], [⟨false, [.bool], [false]⟩], false, false⟩
def yp6 : Sig := ⟨[.v true qz9 (nf 6)], [⟨false, [(.int .i64)], [false]⟩, ⟨false, [(.int .i64)], [false]⟩], false, false⟩
def yp7 : Sig := ⟨[.p none qz9 [false, false, false, true, true, false], .v true qt (nf 5)], [⟨false, [.bool], [false]⟩], false, false⟩
def yp8 : Sig := ⟨[.v false [(.sl 67 yk)] [false], .v false [(.int .i64)] [false]], [⟨false, [(.sl 67 yk)], [true]⟩, ⟨false, [.bool], [false]⟩], false, false⟩
def yp9 : Sig := ⟨[.v true qz9 (nf 6)], [⟨true, qz9, [false, false, false, true, true, false]⟩, ⟨false, [.bool], [false]⟩], false, false⟩
def ypa : Sig := ⟨[.v true [(.sl 58 yp)] [false]], [⟨true, [(.sl 58 yp)], [true]⟩], false, false⟩
def ypb : Sig := ⟨[.v true qz8 [false, false], .v false [(.int .i64)] [false]], [⟨true, qz8, [true, true]⟩], false, false⟩
def ypc : Sig := ⟨[.v true qz9 (nf 6), .v false [(.int .i64)] [false]], [⟨true, qz9, [true, true, true, true, true, false]⟩, ⟨false, [.bool], [false]⟩], false, false⟩
def ypd : Sig := ⟨[.v true qz9 (nf 6), .v false [(.int .i64)] [false]], [⟨true, qt, (nf 5)⟩], false, false⟩
def ype : Sig := ⟨[.v true qz9 (nf 6), .v false [(.int .i64)] [false]], [⟨true, qz9, [true, true, true, true, true, false]⟩, ⟨false, [.bool], [false]⟩], false, false⟩
def ypf : Sig := ⟨[.v true qz9 (nf 6), .v true yhR (nf 5)], [⟨true, qz9, [false, false, false, true, true, false]⟩, ⟨false, [.bool], [false]⟩], false, false⟩
def yz8 : Sig := ⟨[.v true qz9 (nf 6), .v true yhR (nf 5)], [⟨true, qz9, [false, false, false, true, true, false]⟩, ⟨false, [(.int .i64)], [false]⟩], false, false⟩
def yz9 : Sig := ⟨[.p none qz0 (nf 3), .v false [(.int .i64)] [false]], [⟨true, qz9, [false, false, false, true, true, false]⟩], false, false⟩
def yza : Sig := ⟨[.v false [(.sl 5 W9)] [false], .v false [(.int .i64)] [false]], [⟨false, [(.int .i64)], [false]⟩], false, false⟩
def sg8 : Sig := ⟨[.v false [(.sl 5 W9)] [false]], [⟨true, qz9, [false, false, false, true, true, false]⟩, ⟨true, yhR, (nf 5)⟩], false, false⟩
def yzb : Sig := ⟨[.v false [(.sl 5 W9)] [false], .v false [(.int .i64)] [false]], [⟨false, [(.int .i64)], [false]⟩], false, false⟩
def yzc : Sig := ⟨[.v false [(.sl 3 yd)] [false], .v false [(.sl 3 yd)] [false]], [⟨false, [.bool], [false]⟩], false, false⟩
def ypg : Sig := ⟨[.v false [(.sl 63 yi)] [false], .v false [(.sl 63 yi)] [false]], [⟨false, [.bool], [false]⟩], false, false⟩
def yzd : Sig := ⟨[.v true [(.sl 58 yp)] [false], .v true [(.sl 58 yp)] [false]], [⟨false, [.bool], [false]⟩], false, false⟩
def yze : Sig := ⟨[.v true qz8 [false, false], .v true qz8 [false, false]], [⟨false, [.bool], [false]⟩], false, false⟩
def yzf : Sig := ⟨[.v false [(.sl 67 yk)] [false], .v false [(.sl 67 yk)] [false]], [⟨false, [.bool], [false]⟩], false, false⟩
def yzg : Sig := ⟨[.v false [(.sl 53 yc)] [false], .v false [(.sl 53 yc)] [false]], [⟨false, [.bool], [false]⟩], false, false⟩
def yzh : Sig := ⟨[.v true qz9 (nf 6), .v true qz9 (nf 6)], [⟨false, [.bool], [false]⟩], false, false⟩
def yzi : Sig := ⟨[.v false [(.int .i64)] [false], .v false [(.int .i64)] [false], .v false [(.int .i64)] [false]], [⟨false, [.bool], [false]⟩], false, false⟩
def yph : Sig := ⟨[.v true qt (nf 5), .v true qt (nf 5)], [⟨false, [.bool], [false]⟩], false, false⟩
def ypi : Sig := ⟨[.v true qt (nf 5), .v true qt (nf 5)], [⟨false, [.bool], [false]⟩], false, false⟩
def ypj : Sig := ⟨[.v false [(.sl 63 yi)] [false], .v true qt (nf 5)], [⟨false, [(.sl 63 yi)], [true]⟩], false, false⟩
def ypk : Sig := ⟨[.v false [(.sl 63 yi)] [false]], [⟨false, [(.sl 63 yi)], [true]⟩], false, false⟩
def ypl : Sig := ⟨[.v false [(.sl 63 yi)] [false], .v false [(.sl 63 yi)] [false]], [⟨false, [(.sl 63 yi)], [true]⟩], false, false⟩
def ypm : Sig := ⟨[.v false [(.sl 63 yi)] [false]], [⟨false, [(.sl 63 yi)], [true]⟩], false, false⟩
def yzj : Sig := ⟨[.v true [(.sl 58 yp)] [false]], [⟨false, [(.sl 63 yi)], [true]⟩], false, false⟩
def yzk : Sig := ⟨[.v true qt (nf 5)], [⟨false, [.bool], [false]⟩], false, false⟩
def ypn : Sig := ⟨[.v false [(.sl 63 yi)] [false]], [⟨false, [.bool], [false]⟩], false, false⟩
def yzl : Sig := ⟨[.v true [(.sl 58 yp)] [false]], [⟨false, [.bool], [false]⟩], false, false⟩
def yzm : Sig := ⟨[.v false [(.int .i64)] [false], .v false [(.int .i64)] [false]], [⟨false, [(.int .i64)], [false]⟩], false, false⟩
def yzn : Sig := ⟨[.v true qz8 [false, false], .v false [(.int .i64)] [false]], [⟨false, [.bool], [false]⟩], false, false⟩
def yzo : Sig := ⟨[.v true qz8 [false, false]], [⟨false, [.bool], [false]⟩], false, false⟩
def ypo : Sig := ⟨[.v true ymk [false, false], .p none [(.int .i64)] [false]], [⟨false, [.bool], [false]⟩], false, false⟩
def ybD : Sig := ⟨[.v false [(.sl 67 yk)] [false], .p (some 129) [(.int .i64)] [false]], [⟨false, [(.int .i64)], [false]⟩], false, false⟩
def yzp : Sig := ⟨[.v false [(.sl 67 yk)] [false], .v false [(.int .i64)] [false]], [⟨false, [(.int .i64)], [false]⟩], false, false⟩
def yzq : Sig := ⟨[.v false [(.sl 67 yk)] [false]], [⟨false, [.bool], [false]⟩], false, false⟩
def yzr : Sig := ⟨[.v false [(.int .i64)] [false]], [⟨false, [.bool], [false]⟩], false, false⟩
def yzs : Sig := ⟨[.v false [(.sl 53 yc)] [false]], [⟨false, [.bool], [false]⟩], false, false⟩
def yzt : Sig := ⟨[.v false [(.sl 67 yk)] [false], .v false [(.int .i64)] [false]], [⟨false, [(.sl 3 yd)], [true]⟩], false, false⟩
def yzu : Sig := ⟨[.v false [.str] [false]], [⟨false, [.bool], [false]⟩], false, false⟩
def yzv : Sig := ⟨[.v true yen (nf 4), .p none yen (nf 4)], [⟨false, [.bool], [false]⟩], false, false⟩
def ybE : Sig := ⟨[.v false [(.sl 41 yz)] [false], .p (some 98) yen (nf 4)], [⟨false, [(.int .i64)], [false]⟩], false, false⟩
def ybF : Sig := ⟨[.v false [(.sl 41 yz)] [false], .p (some 98) yen (nf 4)], [⟨false, [.bool], [false]⟩], false, false⟩
def yzw : Sig := ⟨[.v true qz9 (nf 6)], [⟨false, [.bool], [false]⟩], false, false⟩
def yzx : Sig := ⟨[.v false [(.sl 53 yc)] [false]], [⟨false, [(.int .i64)], [false]⟩], false, false⟩
def yzy : Sig := ⟨[.v true qz8 [false, false]], [⟨false, [(.sl 63 yi)], [true]⟩], false, false⟩
def yzz : Sig := ⟨[.v false [(.sl 53 yc)] [false], .v false [(.int .i64)] [false], .v false [(.int .i64)] [false]], [⟨false, [(.int .i64)], [false]⟩, ⟨false, [.bool], [false]⟩], false, false⟩
def yzA : Sig := ⟨[.v true qz9 (nf 6)], [⟨false, [.bool], [false]⟩], false, false⟩
def yzB : Sig := ⟨[.v true qz9 (nf 6)], [⟨false, [.bool], [false]⟩], false, false⟩
def ypp : Sig := ⟨[.v false [(.sl 3 yd)] [false]], [⟨false, [(.sl 3 yd)], [true]⟩], false, false⟩
def ypq : Sig := ⟨[.v true [(.sl 58 yp)] [false]], [⟨true, [(.sl 58 yp)], [true]⟩], false, false⟩
def yzC : Sig := ⟨[.v true qz8 [false, false]], [⟨true, qz8, [true, true]⟩], false, false⟩
def yzD : Sig := ⟨[.v false [(.sl 67 yk)] [false]], [⟨false, [(.sl 67 yk)], [true]⟩], false, false⟩
def yzE : Sig := ⟨[.v false [(.sl 53 yc)] [false]], [⟨false, [(.sl 53 yc)], [true]⟩], false, false⟩
def yzF : Sig := ⟨[.v true qz9 (nf 6)], [⟨true, qz9, [true, true, true, true, true, false]⟩], false, false⟩
def yzG : Sig := ⟨[.v false [(.sl 63 yi)] [false]], [⟨true, [(.sl 58 yp)], [true]⟩], false, false⟩
def yzH : Sig := ⟨[.v true [(.sl 58 yp)] [false]], [⟨true, [(.sl 58 yp)], [true]⟩], false, false⟩
def yzI : Sig := ⟨[.v true qz8 [false, false], .v false [(.int .i64)] [false]], [⟨true, qz8, [true, true]⟩], false, false⟩
def yzJ : Sig := ⟨[.v true qz9 (nf 6), .v false [(.int .i64)] [false]], [⟨true, qz9, [true, true, true, true, true, false]⟩, ⟨false, [.bool], [false]⟩], false, false⟩
def yzK : Sig := ⟨[.v false [(.sl 53 yc)] [false]], [⟨false, [(.int .i64)], [false]⟩], false, false⟩
def yzL : Sig := ⟨[.v false [(.sl 53 yc)] [false], .v false [(.int .i64)] [false]], [⟨false, [(.sl 53 yc)], [true]⟩, ⟨false, [(.int .i64)], [false]⟩, ⟨false, [.bool], [false]⟩], false, false⟩
def yzM : Sig := ⟨[.v true qz8 [false, false], .v false [(.int .i64)] [false], .v false [(.int .i64)] [false]], [⟨false, [(.int .i64)], [false]⟩], false, false⟩
def yzN : Sig := ⟨[.v true [(.sl 58 yp)] [false], .v true qt (nf 5)], [⟨false, [(.sl 63 yi)], [true]⟩], false, false⟩
def ypr : Sig := ⟨[.v false [(.sl 63 yi)] [false], .v false [(.int .i64)] [false], .v false [(.int .i64)] [false]], [⟨true, qt, (nf 5)⟩, ⟨false, [.bool], [false]⟩], false, false⟩
def yzO : Sig := ⟨[.v true [(.sl 58 yp)] [false], .v true qt (nf 5)], [⟨true, [(.sl 58 yp)], [true]⟩, ⟨false, [.bool], [false]⟩], false, false⟩
def yzP : Sig := ⟨[.v true qz8 [false, false], .v false [(.int .i64)] [false], .v false [(.int .i64)] [false], .v false [(.sl 3 yd)] [false], .v false [(.sl 99 yg)] [false]], [⟨true, qz8, [true, true]⟩], false, false⟩
def yzQ : Sig := ⟨[.v true qz8 [false, false]], [⟨true, qz8, [false, false]⟩], false, false⟩
def yzR : Sig := ⟨[.v true qz8 [false, false], .v true qt (nf 5)], [⟨true, qz8, [false, false]⟩, ⟨false, [.bool], [false]⟩], false, false⟩
def yzS : Sig := ⟨[.v false [(.sl 53 yc)] [false], .v false [(.int .i64)] [false]], [⟨false, [(.sl 53 yc)], [true]⟩], false, false⟩
def yzT : Sig := ⟨[.v true qz9 (nf 6), .v false [(.int .i64)] [false]], [⟨true, qz9, [false, false, true, true, true, false]⟩, ⟨false, [.bool], [false]⟩], false, false⟩
def yzU : Sig := ⟨[.v false [(.sl 53 yc)] [false]], [⟨false, [(.int .i64)], [false]⟩], false, false⟩
def yzV : Sig := ⟨[.v true qz9 (nf 6)], [⟨true, qz9, (nf 6)⟩], false, false⟩
def yps : Sig := ⟨[.v true qz8 [false, false], .v false [(.int .i64)] [false]], [⟨false, [(.sl 63 yi)], [true]⟩], false, false⟩
def ypt : Sig := ⟨[.v false [(.sl 3 yd)] [false], .v false [(.int .i64)] [false]], [⟨false, [(.int .i64)], [false]⟩], false, false⟩
def ypu : Sig := ⟨[.v false [(.sl 3 yd)] [false], .v false [(.int .i64)] [false]], [⟨false, [.bool], [false]⟩], false, false⟩
def ypv : Sig := ⟨[.v true qz8 [false, false], .v false [(.int .i64)] [false], .v false [(.sl 3 yd)] [false]], [⟨true, qt, (nf 5)⟩, ⟨false, [.bool], [false]⟩], false, false⟩
def ypw : Sig := ⟨[.v false [(.sl 67 yk)] [false], .v false [(.int .i64)] [false]], [⟨false, [(.sl 3 yd)], [true]⟩], false, false⟩
def yzW : Sig := ⟨[.v true qz8 [false, false], .v false [(.sl 67 yk)] [false], .v false [(.int .i64)] [false], .v false [(.int .i64)] [false]], [⟨true, qt, (nf 5)⟩, ⟨false, [.bool], [false]⟩], false, false⟩
def yzX : Sig := ⟨[.v true qz9 (nf 6), .v false [(.int .i64)] [false], .v false [(.int .i64)] [false]], [⟨false, [(.int .i64)], [false]⟩], false, false⟩
def yzY : Sig := ⟨[.v true qz9 (nf 6)], [⟨false, [(.sl 89 Zw)], [true]⟩], false, false⟩
def yzZ : Sig := ⟨[.v false [(.sl 3 yd)] [false], .v false [(.sl 3 yd)] [false]], [⟨false, [.bool], [false]⟩], false, false⟩
def yA0 : Sig := ⟨[.v true ynN (nf 3), .v true ynN (nf 3)], [⟨false, [.bool], [false]⟩], false, false⟩
def ybG : Sig := ⟨[.v false [(.sl 89 Zw)] [false], .v false [(.sl 89 Zw)] [false], .k 59], [⟨false, [.bool], [false]⟩], false, false⟩
def yA1 : Sig := ⟨[.v false [(.sl 89 Zw)] [false], .v false [(.sl 89 Zw)] [false]], [⟨false, [.bool], [false]⟩], false, false⟩
def sg4 : Sig := ⟨[.v false [(.sl 5 W9)] [false]], [⟨false, [.bool], [false]⟩], false, false⟩
def yAS : List (Nat × Sig) := [(7, sg7), (32, yz0), (106, ynP), (69, yz1), (71, yz2), (72, yz3), (73, yz4), (74, yz5), (35, yz6), (104, ynQ), (105, ynR), (68, yz7), (132, ynS), (131, ynT), (133, ynU), (134, ynV), (107, ynW), (183, ynX), (201, ynY), (208, ynZ), (196, yo0), (197, yo1), (178, yo2), (186, yo3), (202, yo4), (187, yo5), (198, yo6), (179, yo7), (199, yo8), (180, yo9), (159, yoa), (160, yob), (135, yoc), (161, yod), (136, yoe), (137, yof), (162, yog), (138, yoh), (163, yoi), (164, yoj), (139, yok), (108, yol), (165, yom), (140, yon), (141, yoo), (109, yop), (142, yoq), (143, yor), (144, yos), (145, yot), (146, yov), (110, yow), (111, yox), (147, yoy), (112, yoz), (148, yoA), (149, yoB), (181, yoC), (200, yoD), (182, yoE), (166, yoF), (188, yoG), (184, yoH), (185, yoI), (203, yoJ), (189, yoK), (167, yoL), (176, yoM), (168, yoN), (150, yoO), (113, yoP), (190, yoQ), (204, yoR), (205, yoS), (191, yoT), (169, yoU), (151, yoV), (114, yoW), (115, yoX), (210, yoY), (209, yoZ), (206, yp0), (194, yp1), (172, yp2), (207, yp3), (192, yp4), (193, yp5), (170, yp6), (171, yp7), (173, yp8), (152, yp9), (195, ypa), (174, ypb), (153, ypc), (175, ypd), (154, ype), (116, ypf), (70, yz8), (33, yz9), (34, yza), (8, sg8), (10, yzb), (83, yzc), (123, ypg), (84, yzd), (43, yze), (44, yzf), (45, yzg), (12, yzh), (47, yzi), (157, yph), (158, ypi), (125, ypj), (126, ypk), (101, ypl), (102, ypm), (63, yzj), (87, yzk), (127, ypn), (95, yzl), (92, yzm), (96, yzn), (53, yzo), (129, ypo), (100000, ybD), (97, yzp), (54, yzq), (38, yzr), (55, yzs), (28, yzt), (76, yzu), (98, yzv), (100002, ybE), (100001, ybF), (56, yzw), (18, yzx), (23, yzy), (78, yzz), (57, yzA), (19, yzB), (120, ypp), (121, ypq), (79, yzC), (80, yzD), (81, yzE), (39, yzF), (93, yzG), (86, yzH), (48, yzI), (14, yzJ), (49, yzK), (40, yzL), (88, yzM), (90, yzN), (124, ypr), (89, yzO), (91, yzP), (94, yzQ), (50, yzR), (51, yzS), (15, yzT), (52, yzU), (16, yzV), (155, yps), (177, ypt), (156, ypu), (118, ypv), (119, ypw), (77, yzW), (37, yzX), (17, yzY), (99, yzZ), (59, yA0), (100003, ybG), (20, yA1), (4, sg4)]
def ytU : List (Nat × (List Nat × List Nat)) := [
 (3200003, [0, 3, 4, 13, 14], [0, 3]),
 (13100002, [0, 3, 17, 18, 19, 20, 21, 22], [0, 2]),
 (20800002, [0, 3], [2]),
 (19600002, [0, 3, 19, 20, 21], [0, 2, 19, 20, 21]),
 (19700003, [1, 3, 4], [3]),
 (17800002, [1, 3, 19, 20, 21, 22, 23, 24, 25, 32, 33, 34], [1, 2, 32, 33, 34]),
 (18600003, [0, 3, 4], [3]),
 (18700004, [0, 3, 5, 6, 7, 18, 19, 20, 21, 22, 23, 24], [3, 5, 6]),
 (19800003, [1, 5, 6], [5]),
 (17900003, [1, 3, 4], [3]),
 (15900005, [1, 2, 5, 6, 61, 62, 63, 64, 65, 66, 67, 68, 69, 70, 71, 72, 73, 74, 75, 76], [4]),
 (15900008, [1, 2, 5, 6, 7, 61, 62, 63, 64, 65, 66, 67, 68, 69, 70, 71, 72, 73, 74, 75, 76], [1, 2, 4, 5, 6, 61, 62, 63, 64, 65, 66, 67, 68, 69, 70, 71, 72, 73, 74, 75, 76]),
 (16000003, [1, 3, 4], [3]),
 (13500004, [1, 3, 35, 36, 37, 38, 39, 40, 41, 42, 43, 44, 45, 46, 49, 50, 51, 52], [1, 2]),
 (16100002, [0, 1, 5], [4]),
 (13600002, [0, 3, 18, 19, 20, 21, 22, 23, 24, 25, 26, 27, 28, 29, 30, 31, 32, 33, 42, 43, 44, 45, 46, 47, 48, 49, 50, 51], [0, 2]),
 (13700002, [0, 3, 18, 19, 20, 21, 22, 23, 24, 27, 28, 29, 30, 31, 32, 33, 34, 35, 36, 37, 38, 39, 40], [0, 2]),
 (16200003, [0, 1, 5, 6, 22, 23], [5]),
 (13800002, [1, 3, 23, 24, 25, 26, 29, 30, 31, 32, 33, 34, 37, 38, 39, 40, 41, 42, 43, 46, 47, 48, 49, 50, 51, 52, 53, 54, 55, 56, 57, 58, 59], [1, 2]),
 (13800008, [1, 3, 4, 5, 23, 24, 25, 26, 29, 30, 31, 32, 33, 34, 37, 38, 39, 40, 41, 42, 43, 46, 47, 48, 49, 50, 51, 52, 53, 54, 55, 56, 57, 58, 59], [1, 2, 3, 23, 24, 25, 26, 29, 30, 31, 32, 33, 34, 37, 38, 39, 40, 41, 42, 43, 46, 47, 48, 49, 50, 51, 52, 53, 54, 55, 56, 57, 58, 59]),
 (16400003, [0, 3, 4], [3]),
 (13900004, [1, 3, 4, 5, 65, 66, 67, 68, 69, 70, 71, 72, 73, 74, 75], [1, 2, 4]),
 (13900014, [1, 3, 4, 5, 8, 65, 66, 67, 68, 69, 70, 71, 72, 73, 74, 75], [1, 2, 3, 4, 5, 65, 66, 67, 68, 69, 70, 71, 72, 73, 74, 75]),
 (10800002, [1, 3, 24, 25, 26, 29, 30, 31, 34, 35, 36, 39, 40, 43, 44], [1, 2, 24, 25, 26, 29, 30, 31, 34, 35, 36, 39, 40, 43, 44]),
 (16500003, [1, 2, 3, 4], [2, 3]),
 (14000003, [1, 2, 3, 4], [2, 3]),
 (14300002, [1, 2, 5], [4]),
 (14400004, [0, 1, 2, 8, 9, 10, 25, 26, 27, 28, 29, 30, 31, 59, 60, 61], [0, 1, 2, 8, 9, 59, 60, 61]),
 (14500003, [3, 5, 6, 19, 20, 21, 22, 23, 24, 25, 26, 27], [3, 5, 6]),
 (14900003, [0, 1, 7, 8, 16, 17, 20, 21], [4, 5, 6, 7]),
 (18100003, [1, 2, 3, 7, 8], [7]),
 (20000002, [0, 1, 2, 6, 8, 23, 24, 25, 26, 27, 28, 29], [6, 7]),
 (18200002, [1, 2, 3, 6, 8, 32, 33, 34], [6, 7]),
 (20300002, [1, 3], [2]),
 (18900002, [1, 2, 3], [1, 2]),
 (19000003, [0, 5, 6, 14, 15, 16, 17, 18], [5]),
 (20400004, [1, 5, 6, 7], [5]),
 (20500002, [0, 1, 5], [4]),
 (19100005, [2, 6, 8, 9, 10, 11, 30, 31, 32, 33, 34, 35, 36, 37, 38, 39, 40, 41], [6, 8, 9]),
 (11500010, [2, 3, 6, 8, 10, 11, 12, 43], [2, 3, 6, 8, 10, 11]),
 (20600002, [2, 3, 5, 23, 24, 25, 26, 27, 28, 29, 30, 31, 32, 33, 34], [4]),
 (19400002, [1, 2, 5], [4]),
 (19300003, [1, 2, 5, 6, 27, 28, 29, 30, 31, 32], [1, 2, 4, 27, 28, 29, 30, 31, 32]),
 (17000005, [1, 4, 5], [1, 2, 3]),
 (17000008, [1, 4, 5, 6], [1, 2, 3, 4, 5]),
 (17000013, [1, 7], [2, 3]),
 (17300006, [0, 1, 6, 7, 8], [7]),
 (17500003, [1, 4, 5, 6, 23, 24, 25, 26, 27, 28, 29], [4]),
 (3300003, [0, 4, 5, 6], [0, 4, 5]),
 (8300004, [0, 1, 5], [4]),
 (12300004, [0, 1, 5], [4]),
 (8400004, [2, 3, 5], [4]),
 (4300004, [2, 3, 5], [4]),
 (4400004, [0, 1, 5], [4]),
 (4500004, [0, 1, 5], [4]),
 (1200004, [2, 3, 5], [4]),
 (12500004, [3, 5, 6, 10, 11, 12, 19, 20, 21, 22], [3, 5, 6]),
 (10100003, [5, 10, 11, 12], [5]),
 (10200003, [3, 7, 8, 9], [3]),
 (6300003, [3, 8, 9, 10], [3]),
 (12700002, [0, 5, 6, 7, 16, 17, 18, 19, 20, 21, 22, 23, 24, 25, 26, 27], [0, 2]),
 (9500003, [1, 3, 7, 8, 9, 17, 18, 19, 31, 32], [1, 2, 3, 31, 32]),
 (9600002, [1, 2, 15, 16, 17, 40, 41, 42, 43, 44, 45, 46, 47, 48, 49, 50, 51, 52, 53, 54, 55], [4]),
 (9600005, [1, 2, 15, 16, 17, 21, 22, 23, 40, 41, 42, 43, 44, 45, 46, 47, 48, 49, 50, 51, 52, 53, 54, 55], [1, 2, 4, 15, 16, 17, 40, 41, 42, 43, 44, 45, 46, 47, 48, 49, 50, 51, 52, 53, 54, 55]),
 (5300005, [1, 3, 29, 30, 31, 39, 40, 41, 42, 43, 44, 45, 46, 47, 48, 49, 50, 53, 54, 55, 58, 59, 60, 61, 69, 70], [2, 3]),
 (10000000002, [0, 1, 7, 8], [1, 4]),
 (5400002, [0, 5, 6, 7, 17, 18, 19, 20, 21, 22, 23, 24, 25, 26, 27, 28, 29, 32, 33, 34, 35, 36, 37, 38, 39, 40, 41, 42, 43], [0, 2]),
 (5500002, [0, 5, 6, 7, 16, 17, 18, 19, 22, 23, 24, 25, 26, 27, 28, 29], [0, 2]),
 (2800005, [1, 5, 12, 13, 14], [5]),
 (7600002, [0, 3, 17, 18, 19, 20, 21, 22], [0, 2]),
 (10000200002, [0, 1, 7, 8], [1, 4]),
 (5600002, [1, 6, 7, 8, 18, 19, 20, 21, 22, 23, 24, 25, 26, 27, 28, 29, 30, 31, 34, 35, 36, 37, 46, 47, 48, 49, 50, 51, 52], [1, 2]),
 (1800003, [3, 6, 7, 8], [3]),
 (2300003, [3, 8, 9, 10], [3]),
 (5700004, [1, 3, 4, 12, 13, 14, 40, 41, 42, 43, 44], [1, 2, 4]),
 (1900004, [1, 28, 29, 30, 43, 44], [1, 2, 43, 44]),
 (12100003, [2, 3, 8, 9, 10], [2, 3]),
 (7900003, [2, 3, 11, 12, 13], [2, 3]),
 (4900002, [5, 6, 7], [2]),
 (8800002, [1, 2, 3, 7], [6]),
 (12400002, [1, 2, 6, 10, 11, 12, 21, 22, 23, 24], [6, 7]),
 (9400002, [1, 2, 3], [1, 2]),
 (1500007, [1, 2, 4, 7, 8, 9, 63, 64, 65, 73, 74, 75, 76], [1, 2, 4, 5, 7, 8]),
 (5200002, [0, 3], [2]),
 (1600003, [2, 3, 8], [2, 3]),
 (15500003, [1, 5, 10, 11, 12], [5]),
 (17700002, [0, 1, 7, 8], [4]),
 (11800003, [2, 6, 8, 9, 15, 16, 17, 26, 27, 28, 29, 30, 31, 32, 33, 34], [6, 8, 9]),
 (11900003, [0, 1, 5, 10, 11], [5]),
 (1700003, [1, 3, 10, 11, 12, 27, 28], [3]),
 (1700007, [1, 3, 4, 5, 6, 7, 10, 11, 12, 27, 28], [1, 3, 6, 10, 11, 12, 27, 28]),
 (9900004, [0, 1, 12, 13], [4]),
 (10000300004, [1, 2, 15, 16, 17], [6]),
 (400010, [0, 3, 5, 6, 7, 8, 9, 10, 11, 12, 63, 64, 67, 68, 71, 72, 73, 74, 77, 78, 79, 80, 83, 84, 85, 86, 89, 90, 91, 92, 93, 94, 95, 96, 97, 98, 101, 102, 103, 104, 105, 108, 109, 110, 111, 112, 113], [0, 2, 3, 5, 6, 7, 8, 9, 10, 11, 63, 64, 67, 68, 71, 72, 73, 74, 77, 78, 79, 80, 83, 84, 85, 86, 89, 90, 91, 92, 93, 94, 95, 96, 97, 98, 101, 102, 103, 104, 105, 108, 109, 110, 111, 112, 113])]
def yA2 : List (Nat × List Nat × Nat) := [(128, [129], 100000), (66, [98], 100001), (103, [98], 100002), (58, [59], 100003)]
def ytV : List (Nat × List Nat) := [(165, [22]), (140, [25]), (189, [2000000000006000001, 2000000000007000001, 1000033000000027, 1000046000000041, 1000048000000025, 49, 1000049000049000, 1000050000000046]), (167, [2000000000010000011, 49, 1000037000999999, 1000049000038000, 1000050000000047, 1000050000000049, 1000082000999999, 1000086000999999, 87, 1000087000083000, 1000087000087000]), (113, [60]), (169, [21]), (33, [1000019000000900]), (8, [1000015000008500]), (121, [18]), (79, [21]), (94, [40, 1000039000000026, 1000040000040000]), (50, [2000000000011000010, 1000038000999999, 1000080000999999, 1000084000999999, 85, 1000085000081000, 1000085000085000]), (15, [1000084000000012])]
def C : Ctx := { info := y9C ynO, sig := y9C yAS, live := fun f i => y9C ytU (100000 * f + i), key := JA yA2, fid := ym3 yA2, hint := yhF ytV }
theorem tok : TOk C Tryz.prog := ymi (l := ynO) rfl (by kernel_rfl)
theorem ytW : Tryz.prog.follows .mixedOrders = true := by kernel_rfl
abbrev QF := Qf C Tryz.prog
abbrev EV (l : List QF) (lp : Lp) (n : Nat) (fn : Func) (sg : Sig) (ins outs : List Ty) (F : z8 ins → Option (z8 outs)) : Prop := ∀ x, yfG C (yjb l) lp n fn (VI fn) sg ins outs x = F x
abbrev LF (l : List QF) (lp : Lp) (n i : Nat) (fn : Func) (k : Nat) {T V : Type} (e : T → St) (g : Gk T) (inj : V → T) : Prop := LC C (yjb l) lp n i (cL fn k) e g inj
abbrev LK (l : List QF) (lp : Lp) (n : Nat) (fn : Func) (k : Nat) : Prop := y2C C (yjb l) lp n (cL fn k)
theorem okN {l : List QF} {lp : Lp} {f g : Nat} {fn : Func} {sg : Sig} {n : Nat} (hfn : Tryz.prog.funcs[g]? = some fn) (hl : ymh (y2C C (yjb l) lp f) (ZY (VI fn)) n 0) {F : z8 (C.ins f) → Option (z8 (C.outs f))} (hF : ∀ x, yfG C (yjb l) lp f fn (VI fn) sg (C.ins f) (C.outs f) x = F x) (hsig : C.sig f = some sg := by kernel_rfl) (hB : fnB C f g fn sg n = true := by kernel_rfl) : JC C Tryz.prog f F := ysS tok ytW hfn hsig hB hl hF
theorem lkN {call : C.Sem} {lp : Lp} {f i : Nat} {c : Code} {T : Type} {e : T → St} {u : St → Option T} {g : Gk T} (hu : ∀ s t, u s = some t → e t = s) (hc : LC C call lp f i c e @g (fun t => t)) (hl : laB C f i c = true := by kernel_rfl) (hb : LB lp i u @g := by intro R κ s; kernel_rfl) : y2C C call lp f c := ygd hl hu hb hc
end Go.Proofs.YtjllpipmaejeoaaGreat.XU
