/- The context of the evaluator for P: types, signatures, slots that live at loops; by a program (dec.py). No condition. -/
import Derived.Test.YtmapoakbdgpamaaGreatProg
import Derived.Test.YtmapoakbdgpamaaGreatRRow
import Derived.KernelRfl
set_option linter.all false
namespace Go.Proofs.YtmapoakbdgpamaaGreat.XP
open Go.Proofs.YtmapoakbdgpamaaGreat.R
set_option maxRecDepth 100000
abbrev yd : List Ty := [(.int .i64)]
abbrev yh : Type := Int
abbrev yd2 : yh := jV yd
abbrev z9 (xs : List yh) (i : Int) : yh := rdE yd xs i
def ze (x : List yh) : A := .val (.sl 3 yd) x
abbrev VL : List Ty := [(.int .i64), (.int .i64), (.int .i64), (.int .i64), (.int .i64)]
abbrev y1Z : Type := Int × Int × Int × Int × Int
abbrev y3r (xs : List y1Z) (i : Int) : y1Z := rdE VL xs i
def yl1 (x : List y1Z) : A := .val (.sl 279 VL) x
abbrev Yr : List Ty := [(.sl 279 VL)]
abbrev za : Type := List y1Z
abbrev yaQ : za := jV Yr
abbrev qI (xs : List za) (i : Int) : za := rdE Yr xs i
def yaR (x : List za) : A := .val (.sl 267 Yr) x
abbrev Yl : List Ty := [(.sl 267 Yr)]
abbrev Ya : Type := List za
abbrev yd3 : Ya := jV Yl
abbrev y0V (xs : List Ya) (i : Int) : Ya := rdE Yl xs i
def yd4 (x : List Ya) : A := .val (.sl 216 Yl) x
abbrev wq : List Ty := [(.int .i64), (.int .i64)]
abbrev kZ : Type := Int × Int
abbrev yd5 (xs : List kZ) (i : Int) : kZ := rdE wq xs i
def yl2 (x : List kZ) : A := .val (.sl 166 wq) x
abbrev jl : List Ty := [(.int .i64), .bool, (.int .i64)]
abbrev Jh : Type := Int × Bool × Int
abbrev y5u (xs : List Jh) (i : Int) : Jh := rdE jl xs i
def yhZ (x : List Jh) : A := .val (.sl 168 jl) x
abbrev Ji : List Ty := [.str, (.int .i64), (.int .i64), .bool]
abbrev Jn : Type := ByteArray × Int × Int × Bool
abbrev y82 : Jn := jV Ji
abbrev kA (xs : List Jn) (i : Int) : Jn := rdE Ji xs i
def yg8 (x : List Jn) : A := .val (.sl 158 Ji) x
abbrev yb : List Ty := [(.int .i64), (.int .i64), (.int .i64), (.int .i64), (.int .i64)]
abbrev y8 : Type := Int × Int × Int × Int × Int
abbrev z0 : y8 := jV yb
abbrev y0 (xs : List y8) (i : Int) : y8 := rdE yb xs i
def Vp (x : List y8) : A := .val (.sl 106 yb) x
abbrev yi : List Ty := [(.sl 106 yb)]
abbrev y9 : Type := List y8
abbrev yM : y9 := jV yi
abbrev yj (xs : List y9) (i : Int) : y9 := rdE yi xs i
def Y6 (x : List y9) : A := .val (.sl 100 yi) x
abbrev yk : List Ty := [(.sl 100 yi)]
abbrev y7 : Type := List y9
abbrev yr : y7 := jV yk
abbrev ya (xs : List y7) (i : Int) : y7 := rdE yk xs i
def yC (x : List y7) : A := .val (.sl 98 yk) x
abbrev yo : List Ty := [(.int .i64), (.int .i64)]
abbrev yf : Type := Int × Int
abbrev Y1 : yf := jV yo
abbrev yD (xs : List yf) (i : Int) : yf := rdE yo xs i
def zu (x : List yf) : A := .val (.sl 89 yo) x
abbrev yn : List Ty := [(.int .i64), .bool, (.int .i64)]
abbrev yg : Type := Int × Bool × Int
abbrev jq : yg := jV yn
abbrev zw (xs : List yg) (i : Int) : yg := rdE yn xs i
def yX (x : List yg) : A := .val (.sl 95 yn) x
abbrev z7 : List Ty := [.str, (.int .i64), (.int .i64), .bool]
abbrev yF : Type := ByteArray × Int × Int × Bool
abbrev K8 : yF := jV z7
abbrev zd (xs : List yF) (i : Int) : yF := rdE z7 xs i
def zX (x : List yF) : A := .val (.sl 91 z7) x
abbrev y3s : List Ty := [.bool]
abbrev yaS : Type := Bool
abbrev yd6 : yaS := jV y3s
abbrev yd7 (xs : List yaS) (i : Int) : yaS := rdE y3s xs i
abbrev Qz0 : Type := List yh × Int
abbrev qz0 : List Ty := [(.sl 3 yd), (.int .i64)]
abbrev Qz1 : Type := List y1Z × Int
abbrev qz1 : List Ty := [(.sl 279 VL), (.int .i64)]
abbrev Qz2 : Type := List za × Int × Int
abbrev qz2 : List Ty := [(.sl 267 Yr), (.int .i64), (.int .i64)]
abbrev Qz3 : Type := Int × Int
abbrev qz3 : List Ty := [(.int .i64), (.int .i64)]
abbrev Qz4 : Type := List za × Int
abbrev qz4 : List Ty := [(.sl 267 Yr), (.int .i64)]
abbrev Qz5 : Type := List Ya × Int × Int
abbrev qz5 : List Ty := [(.sl 216 Yl), (.int .i64), (.int .i64)]
abbrev Qz6 : Type := List Ya × Int
abbrev qz6 : List Ty := [(.sl 216 Yl), (.int .i64)]
abbrev Qz7 : Type := List yh × List Ya × Int
abbrev qz7 : List Ty := [(.sl 3 yd), (.sl 216 Yl), (.int .i64)]
abbrev Qz8 : Type := List kZ × Int
abbrev qz8 : List Ty := [(.sl 166 wq), (.int .i64)]
abbrev Qz9 : Type := List Jh × Int
abbrev qz9 : List Ty := [(.sl 168 jl), (.int .i64)]
abbrev ywa : Type := ByteArray × Int × Int × Bool × Int
abbrev ywb : List Ty := [.str, (.int .i64), (.int .i64), .bool, (.int .i64)]
abbrev ywc : Type := List Jn × Int × Int
abbrev ywd : List Ty := [(.sl 158 Ji), (.int .i64), (.int .i64)]
abbrev yyA : Type := List Jn × Int
abbrev yyB : List Ty := [(.sl 158 Ji), (.int .i64)]
abbrev yyC : Type := List yh × List Ya × List kZ × List Jh × List Jn × Int × Int
abbrev yyD : List Ty := [(.sl 3 yd), (.sl 216 Yl), (.sl 166 wq), (.sl 168 jl), (.sl 158 Ji), (.int .i64), (.int .i64)]
abbrev ywe : Type := List yh × Int × List yh
abbrev ywf : List Ty := [(.sl 3 yd), (.int .i64), (.sl 3 yd)]
abbrev yeY : Type := Int × Int × Int × Int × Int
abbrev K0 : List Ty := [(.int .i64), (.int .i64), (.int .i64), (.int .i64), (.int .i64)]
abbrev ywg : Type := List y1Z × Int × List y8
abbrev ywh : List Ty := [(.sl 279 VL), (.int .i64), (.sl 106 yb)]
abbrev ywi : Type := List za × Int × List y9
abbrev ywj : List Ty := [(.sl 267 Yr), (.int .i64), (.sl 100 yi)]
abbrev ywk : Type := List Ya × Int × List y7
abbrev ywl : List Ty := [(.sl 216 Yl), (.int .i64), (.sl 98 yk)]
abbrev yyE : Type := List yh × List Ya
abbrev ysu : List Ty := [(.sl 3 yd), (.sl 216 Yl)]
abbrev y3Y : Type := List yh × List y7
abbrev WA : List Ty := [(.sl 3 yd), (.sl 98 yk)]
abbrev ywm : Type := List kZ × Int × List yf
abbrev ywn : List Ty := [(.sl 166 wq), (.int .i64), (.sl 89 yo)]
abbrev ywo : Type := Int × Bool × Int
abbrev ykE : List Ty := [(.int .i64), .bool, (.int .i64)]
abbrev ywp : Type := List Jh × Int × List yg
abbrev ywq : List Ty := [(.sl 168 jl), (.int .i64), (.sl 95 yn)]
abbrev ysv : Type := ByteArray × Int × Int × Bool
abbrev ycg : List Ty := [.str, (.int .i64), (.int .i64), .bool]
abbrev ywr : Type := List Jn × Int × List yF
abbrev yws : List Ty := [(.sl 158 Ji), (.int .i64), (.sl 91 z7)]
abbrev ywt : Type := List yh × List Ya × List kZ × List Jh × List Jn × Int
abbrev yl3 : List Ty := [(.sl 3 yd), (.sl 216 Yl), (.sl 166 wq), (.sl 168 jl), (.sl 158 Ji), (.int .i64)]
abbrev y2s : Type := List yh × List y7 × List yf × List yg × List yF × Int
abbrev WB : List Ty := [(.sl 3 yd), (.sl 98 yk), (.sl 89 yo), (.sl 95 yn), (.sl 91 z7), (.int .i64)]
abbrev ywu : Type := List yh × List yh × Int
abbrev ywv : List Ty := [(.sl 3 yd), (.sl 3 yd), (.int .i64)]
abbrev yyF : Type := List yh × List yh
abbrev yyG : List Ty := [(.sl 3 yd), (.sl 3 yd)]
abbrev yl4 : Type := Int × Int × Int × Int × Int × Int × Int × Int × Int × Int
abbrev yl5 : List Ty := [(.int .i64), (.int .i64), (.int .i64), (.int .i64), (.int .i64), (.int .i64), (.int .i64), (.int .i64), (.int .i64), (.int .i64)]
abbrev yww : Type := List y8 × List y8 × Int
abbrev ywx : List Ty := [(.sl 106 yb), (.sl 106 yb), (.int .i64)]
abbrev ysw : Type := List y8 × List y8
abbrev ysx : List Ty := [(.sl 106 yb), (.sl 106 yb)]
abbrev ywy : Type := List y9 × List y9 × Int
abbrev ywz : List Ty := [(.sl 100 yi), (.sl 100 yi), (.int .i64)]
abbrev ywA : Type := List y9 × List y9
abbrev ywB : List Ty := [(.sl 100 yi), (.sl 100 yi)]
abbrev ywC : Type := List y7 × List y7 × Int
abbrev ywD : List Ty := [(.sl 98 yk), (.sl 98 yk), (.int .i64)]
abbrev yyH : Type := List y7 × List y7
abbrev yyI : List Ty := [(.sl 98 yk), (.sl 98 yk)]
abbrev yyJ : Type := List yh × List y7 × List yh × List y7
abbrev yyK : List Ty := [(.sl 3 yd), (.sl 98 yk), (.sl 3 yd), (.sl 98 yk)]
abbrev yyL : Type := Int × Int × Int × Int
abbrev yyM : List Ty := [(.int .i64), (.int .i64), (.int .i64), (.int .i64)]
abbrev ywE : Type := List yf × List yf × Int
abbrev ywF : List Ty := [(.sl 89 yo), (.sl 89 yo), (.int .i64)]
abbrev yyN : Type := List yf × List yf
abbrev yyO : List Ty := [(.sl 89 yo), (.sl 89 yo)]
abbrev yyP : Type := Int × Bool × Int × Int × Bool × Int
abbrev yyQ : List Ty := [(.int .i64), .bool, (.int .i64), (.int .i64), .bool, (.int .i64)]
abbrev ywG : Type := List yg × List yg × Int
abbrev ywH : List Ty := [(.sl 95 yn), (.sl 95 yn), (.int .i64)]
abbrev yyR : Type := List yg × List yg
abbrev yyS : List Ty := [(.sl 95 yn), (.sl 95 yn)]
abbrev ywI : Type := ByteArray × Int × Int × Bool × ByteArray × Int × Int × Bool
abbrev ywJ : List Ty := [.str, (.int .i64), (.int .i64), .bool, .str, (.int .i64), (.int .i64), .bool]
abbrev ywK : Type := List yF × List yF × Int
abbrev ywL : List Ty := [(.sl 91 z7), (.sl 91 z7), (.int .i64)]
abbrev yyT : Type := List yF × List yF
abbrev yyU : List Ty := [(.sl 91 z7), (.sl 91 z7)]
abbrev yyV : Type := List yh × List y7 × List yf × List yg × List yF × Int × List yh × List y7 × List yf × List yg × List yF × Int
abbrev yyW : List Ty := [(.sl 3 yd), (.sl 98 yk), (.sl 89 yo), (.sl 95 yn), (.sl 91 z7), (.int .i64), (.sl 3 yd), (.sl 98 yk), (.sl 89 yo), (.sl 95 yn), (.sl 91 z7), (.int .i64)]
abbrev yg9 : Type := Int × List y9
abbrev ys2 : List Ty := [(.int .i64), (.sl 100 yi)]
abbrev yl6 : Type := Int × List y9 × List y9
abbrev ywM : List Ty := [(.int .i64), (.sl 100 yi), (.sl 100 yi)]
abbrev yl7 : Type := Int × List yh × List y7 × List yh
abbrev ywN : List Ty := [(.int .i64), (.sl 3 yd), (.sl 98 yk), (.sl 3 yd)]
abbrev yl8 : Type := Int × List yh × List y7 × List yh × List y7
abbrev ywO : List Ty := [(.int .i64), (.sl 3 yd), (.sl 98 yk), (.sl 3 yd), (.sl 98 yk)]
abbrev ysy : Type := Int × Int × Int
abbrev ysz : List Ty := [(.int .i64), (.int .i64), (.int .i64)]
abbrev ys3 : Type := List y8 × Int × List y8
abbrev ys4 : List Ty := [(.sl 106 yb), (.int .i64), (.sl 106 yb)]
abbrev ywP : Type := List y8 × Bool × Int × Int × Int × Int × Int × Int × List y8
abbrev ywQ : List Ty := [(.sl 106 yb), .bool, (.int .i64), (.int .i64), (.int .i64), (.int .i64), (.int .i64), (.int .i64), (.sl 106 yb)]
abbrev ywR : Type := Bool × Int × Int × Int × Int × Int × List y8
abbrev ywS : Type := List y8 × Int × Int × Int × Int × Int
abbrev ywT : List Ty := [(.sl 106 yb), (.int .i64), (.int .i64), (.int .i64), (.int .i64), (.int .i64)]
abbrev ywU : Type := Int × List y9 × List y8
abbrev ywV : List Ty := [(.int .i64), (.sl 100 yi), (.sl 106 yb)]
abbrev ywW : Type := Int × List yh × List y7 × List y8
abbrev ywX : List Ty := [(.int .i64), (.sl 3 yd), (.sl 98 yk), (.sl 106 yb)]
abbrev yl9 : Type := List y8 × Int
abbrev yla : List Ty := [(.sl 106 yb), (.int .i64)]
abbrev ywY : Type := List y8 × Bool
abbrev ywZ : Type := Int × Int × List y9
abbrev yx0 : List Ty := [(.int .i64), (.int .i64), (.sl 100 yi)]
abbrev yyX : Type := Bool × List y9
abbrev yx1 : Type := Int × Int × Int × List yh × List y7 × List y9
abbrev yx2 : List Ty := [(.int .i64), (.int .i64), (.int .i64), (.sl 3 yd), (.sl 98 yk), (.sl 100 yi)]
abbrev yyY : Type := Int × Bool × Int × List yh × List y7 × List y9
abbrev ysA : Type := Int × Int × List yh × List y7 × List y9
abbrev yx3 : List Ty := [(.int .i64), (.int .i64), (.sl 3 yd), (.sl 98 yk), (.sl 100 yi)]
abbrev ys5 : Type := List yh × List y7 × Int
abbrev ys6 : List Ty := [(.sl 3 yd), (.sl 98 yk), (.int .i64)]
abbrev y9b : Type := Int × List yh × List y7
abbrev yei : List Ty := [(.int .i64), (.sl 3 yd), (.sl 98 yk)]
abbrev yyZ : Type := Bool × List yh × List y7
abbrev yx4 : Type := List yf × Int × Int
abbrev yx5 : List Ty := [(.sl 89 yo), (.int .i64), (.int .i64)]
abbrev yd8 : Type := List yf × Int
abbrev yd9 : List Ty := [(.sl 89 yo), (.int .i64)]
abbrev ys7 : Type := List yf × Bool
abbrev yx6 : List Ty := [(.sl 89 yo), .bool]
abbrev ys8 : Type := List yg × Int
abbrev ys9 : List Ty := [(.sl 95 yn), (.int .i64)]
abbrev yx7 : Type := List yg × Bool
abbrev ysa : Type := ByteArray × Int
abbrev ysb : List Ty := [.str, (.int .i64)]
abbrev yx8 : Type := ByteArray × Bool
abbrev yx9 : Type := List yf × Int × Int × List yh
abbrev yxa : List Ty := [(.sl 89 yo), (.int .i64), (.int .i64), (.sl 3 yd)]
abbrev yxb : Type := Int × Int × List yh × List y7 × List yf × List yg × List yF × Int × ByteArray × Int × Int × Bool
abbrev yxc : List Ty := [(.int .i64), (.int .i64), (.sl 3 yd), (.sl 98 yk), (.sl 89 yo), (.sl 95 yn), (.sl 91 z7), (.int .i64), .str, (.int .i64), (.int .i64), .bool]
abbrev ysB : Type := Bool × Int × List yh × List y7 × List yf × List yg × List yF × Int
abbrev y9c : Type := Int × List yh × List y7 × List yf × List yg × List yF × Int
abbrev yga : List Ty := [(.int .i64), (.sl 3 yd), (.sl 98 yk), (.sl 89 yo), (.sl 95 yn), (.sl 91 z7), (.int .i64)]
abbrev ygb : Type := Bool × List yh × List y7 × List yf × List yg × List yF × Int
abbrev ysc : List Ty := [.bool, (.sl 3 yd), (.sl 98 yk), (.sl 89 yo), (.sl 95 yn), (.sl 91 z7), (.int .i64)]
abbrev ysd : Type := List yg × Int × Int
abbrev yse : List Ty := [(.sl 95 yn), (.int .i64), (.int .i64)]
abbrev yxd : Type := Int × Bool
abbrev yxe : List Ty := [(.int .i64), .bool]
abbrev ysC : Type := Int × Int × Int × List yh × List y7 × List yf × List yg × List yF × Int × List y8
abbrev yxf : List Ty := [(.int .i64), (.int .i64), (.int .i64), (.sl 3 yd), (.sl 98 yk), (.sl 89 yo), (.sl 95 yn), (.sl 91 z7), (.int .i64), (.sl 106 yb)]
abbrev yz0 : Type := Bool × Int × Int × List yh × List y7 × List yf × List yg × List yF × Int × List y8
abbrev ygc : Type := Int × Int × List yh × List y7 × List yf × List yg × List yF × Int × List y8
abbrev ykF : List Ty := [(.int .i64), (.int .i64), (.sl 3 yd), (.sl 98 yk), (.sl 89 yo), (.sl 95 yn), (.sl 91 z7), (.int .i64), (.sl 106 yb)]
abbrev yxg : Type := List yf × Int × List yh
abbrev yxh : List Ty := [(.sl 89 yo), (.int .i64), (.sl 3 yd)]
abbrev yxi : Type := Int × Int × List y8 × List y8
abbrev yxj : List Ty := [(.int .i64), (.int .i64), (.sl 106 yb), (.sl 106 yb)]
abbrev yxk : Type := List yh × Int × Int
abbrev yxl : List Ty := [(.sl 3 yd), (.int .i64), (.int .i64)]
abbrev yxm : Type := List yh × Bool × Int × Int × Int × Int × Int × Int × Int × Int × Int × Int × Int × List y8
abbrev yxn : List Ty := [(.sl 3 yd), .bool, (.int .i64), (.int .i64), (.int .i64), (.int .i64), (.int .i64), (.int .i64), (.int .i64), (.int .i64), (.int .i64), (.int .i64), (.int .i64), (.sl 106 yb)]
abbrev yxo : Type := Bool × Int × Int × Int × Int × Int × Int × Int × Int × Int × Int
abbrev yxp : Type := List yh × List y7 × Int × List yh
abbrev yxq : List Ty := [(.sl 3 yd), (.sl 98 yk), (.int .i64), (.sl 3 yd)]
abbrev ych : Type := Int × Int × Int × Int × Int × Bool
abbrev yci : List Ty := [(.int .i64), (.int .i64), (.int .i64), (.int .i64), (.int .i64), .bool]
abbrev ysf : Type := List yh × List y7 × List yf × Int × Int
abbrev ysg : List Ty := [(.sl 3 yd), (.sl 98 yk), (.sl 89 yo), (.int .i64), (.int .i64)]
abbrev yxr : Type := List yh × List y7 × List yf × Int × Int × Int × Int × Int × Int
abbrev yxs : List Ty := [(.sl 3 yd), (.sl 98 yk), (.sl 89 yo), (.int .i64), (.int .i64), (.int .i64), (.int .i64), (.int .i64), (.int .i64)]
abbrev yxt : Type := Int × List yh × List y7 × List yf × List yg × List yF × Int × Int × Int × Int × Int × Int
abbrev yxu : List Ty := [(.int .i64), (.sl 3 yd), (.sl 98 yk), (.sl 89 yo), (.sl 95 yn), (.sl 91 z7), (.int .i64), (.int .i64), (.int .i64), (.int .i64), (.int .i64), (.int .i64)]
abbrev ykG : Type := List yh × List y7 × List yf × List yg × List yF × Int × Int × Int × Int × Int × Int
abbrev ykH : List Ty := [(.sl 3 yd), (.sl 98 yk), (.sl 89 yo), (.sl 95 yn), (.sl 91 z7), (.int .i64), (.int .i64), (.int .i64), (.int .i64), (.int .i64), (.int .i64)]
abbrev ygd : Type := Int × Int × List yh × List y7 × List yf × List yg × List yF × Int
abbrev ysh : List Ty := [(.int .i64), (.int .i64), (.sl 3 yd), (.sl 98 yk), (.sl 89 yo), (.sl 95 yn), (.sl 91 z7), (.int .i64)]
abbrev ylb : Type := List yh × List y7 × List yf × List yg × List yF × Int × Int
abbrev ylc : List Ty := [(.sl 3 yd), (.sl 98 yk), (.sl 89 yo), (.sl 95 yn), (.sl 91 z7), (.int .i64), (.int .i64)]
abbrev yxv : Type := Int × Int × Int × Int × List yh × List y7
abbrev yxw : List Ty := [(.int .i64), (.int .i64), (.int .i64), (.int .i64), (.sl 3 yd), (.sl 98 yk)]
abbrev yeZ : Type := List yh × List y7 × Int × Int
abbrev yf0 : List Ty := [(.sl 3 yd), (.sl 98 yk), (.int .i64), (.int .i64)]
abbrev yld : Type := List y8 × Int × Int × Int × Int × Int × Int × Int × Int
abbrev yle : List Ty := [(.sl 106 yb), (.int .i64), (.int .i64), (.int .i64), (.int .i64), (.int .i64), (.int .i64), (.int .i64), (.int .i64)]
abbrev yf1 : Type := Bool × Int × Int × Int × Int × Int
abbrev ylf : Type := List y8 × Int × Int
abbrev ylg : List Ty := [(.sl 106 yb), (.int .i64), (.int .i64)]
abbrev yf2 : Type := Int × Int × Int × List y9 × Int × Int × Int × Int × Int
abbrev yf3 : List Ty := [(.int .i64), (.int .i64), (.int .i64), (.sl 100 yi), (.int .i64), (.int .i64), (.int .i64), (.int .i64), (.int .i64)]
abbrev y9K : Type := List y9 × Int × Int
abbrev yf4 : List Ty := [(.sl 100 yi), (.int .i64), (.int .i64)]
abbrev ylh : Type := List yh × List y7 × List yf × List yg × List yF × Int × Int × Int × Int × Int × Int × Int
abbrev yli : List Ty := [(.sl 3 yd), (.sl 98 yk), (.sl 89 yo), (.sl 95 yn), (.sl 91 z7), (.int .i64), (.int .i64), (.int .i64), (.int .i64), (.int .i64), (.int .i64), (.int .i64)]
abbrev ysD : Type := Int × Bool × List yh × List y7 × List yf × List yg × List yF × Int
abbrev yi0 : Type := Int × List yh × List y7 × List yf × List yg × List yF × Int × List y8
abbrev ylj : List Ty := [(.int .i64), (.sl 3 yd), (.sl 98 yk), (.sl 89 yo), (.sl 95 yn), (.sl 91 z7), (.int .i64), (.sl 106 yb)]
abbrev yi1 : Type := List y9 × Int × Int × Int × Int × Int
abbrev yi2 : List Ty := [(.sl 100 yi), (.int .i64), (.int .i64), (.int .i64), (.int .i64), (.int .i64)]
abbrev ylk : Type := List y9 × Bool
abbrev yll : List Ty := [(.sl 100 yi), .bool]
abbrev ysE : Type := List yh × List y7 × Int × List yh × List y7
abbrev ysF : List Ty := [(.sl 3 yd), (.sl 98 yk), (.int .i64), (.sl 3 yd), (.sl 98 yk)]
abbrev ylm : Type := List yh × List y7 × Int × Int × Int × Int × Int
abbrev yln : List Ty := [(.sl 3 yd), (.sl 98 yk), (.int .i64), (.int .i64), (.int .i64), (.int .i64), (.int .i64)]
abbrev ylo : Type := List yh × List y7 × Bool
abbrev ylp : List Ty := [(.sl 3 yd), (.sl 98 yk), .bool]
abbrev ysG : Type := List yh × List y7 × List yf × List yg × List yF × Int × Int × Int × Int × Int × Int × Bool
abbrev ysH : List Ty := [(.sl 3 yd), (.sl 98 yk), (.sl 89 yo), (.sl 95 yn), (.sl 91 z7), (.int .i64), (.int .i64), (.int .i64), (.int .i64), (.int .i64), (.int .i64), .bool]
abbrev ylq : Type := List yf × Int × Int × Int × List yf
abbrev ylr : List Ty := [(.sl 89 yo), (.int .i64), (.int .i64), (.int .i64), (.sl 89 yo)]
abbrev yls : Type := List yh × List y7 × List yf × List yg × List yF × Int × Bool
abbrev ylt : List Ty := [(.sl 3 yd), (.sl 98 yk), (.sl 89 yo), (.sl 95 yn), (.sl 91 z7), (.int .i64), .bool]
abbrev ybY : Type := Int × Int × List yh × List y7 × List yf × List yg × List yF
abbrev ylu : List Ty := [(.int .i64), (.int .i64), (.sl 3 yd), (.sl 98 yk), (.sl 89 yo), (.sl 95 yn), (.sl 91 z7)]
abbrev yda : Type := List y9 × Int × Int × List y9
abbrev ylv : List Ty := [(.sl 100 yi), (.int .i64), (.int .i64), (.sl 100 yi)]
abbrev ydb : Type := List y7 × Int × Int × List yh
abbrev ylw : List Ty := [(.sl 98 yk), (.int .i64), (.int .i64), (.sl 3 yd)]
abbrev ydc : Type := List y7 × Int × Int × List yh × List y7
abbrev ylx : List Ty := [(.sl 98 yk), (.int .i64), (.int .i64), (.sl 3 yd), (.sl 98 yk)]
abbrev yly : Type := List y8 × List y8 × Int × Int
abbrev ylz : List Ty := [(.sl 106 yb), (.sl 106 yb), (.int .i64), (.int .i64)]
abbrev ylA : Type := Int × List y9 × Int × Int × List y9
abbrev ylB : List Ty := [(.int .i64), (.sl 100 yi), (.int .i64), (.int .i64), (.sl 100 yi)]
abbrev ysI : Type := Bool × Int × List y9
abbrev ylC : Type := Int × List y9 × Int × Int × List y8 × Int × Int × List yh × List y7
abbrev ylD : List Ty := [(.int .i64), (.sl 100 yi), (.int .i64), (.int .i64), (.sl 106 yb), (.int .i64), (.int .i64), (.sl 3 yd), (.sl 98 yk)]
abbrev ysJ : Type := Int × Bool × List y9 × Int × Int × List yh × List y7
abbrev yi3 : Type := Int × List y9 × Int × Int × List yh × List y7
abbrev ylE : List Ty := [(.int .i64), (.sl 100 yi), (.int .i64), (.int .i64), (.sl 3 yd), (.sl 98 yk)]
abbrev ylF : Type := Bool × List y8 × Int × Int × Int × Int × Int × Int × Int × List y8
abbrev ylG : List Ty := [.bool, (.sl 106 yb), (.int .i64), (.int .i64), (.int .i64), (.int .i64), (.int .i64), (.int .i64), (.int .i64), (.sl 106 yb)]
abbrev yf5 : Type := List y8 × Int × Int × List y8
abbrev yf6 : List Ty := [(.sl 106 yb), (.int .i64), (.int .i64), (.sl 106 yb)]
abbrev ylH : Type := List y9 × Int × Int × List y8
abbrev ylI : List Ty := [(.sl 100 yi), (.int .i64), (.int .i64), (.sl 106 yb)]
abbrev ylJ : Type := Int × List y7 × Int × Int × List yh × List y7
abbrev ylK : List Ty := [(.int .i64), (.sl 98 yk), (.int .i64), (.int .i64), (.sl 3 yd), (.sl 98 yk)]
abbrev yf7 : Type := Bool × Int
abbrev yi4 : List Ty := [.bool, (.int .i64)]
abbrev ylL : Type := List yf × Int × Int × Int
abbrev ylM : List Ty := [(.sl 89 yo), (.int .i64), (.int .i64), (.int .i64)]
abbrev ylN : Type := List yf × List yf × Int × Int
abbrev ylO : List Ty := [(.sl 89 yo), (.sl 89 yo), (.int .i64), (.int .i64)]
abbrev ylP : Type := List yg × List yg × Int × Int
abbrev ylQ : List Ty := [(.sl 95 yn), (.sl 95 yn), (.int .i64), (.int .i64)]
abbrev ylR : Type := Int × List yf × Int × Int × List yh
abbrev ylS : List Ty := [(.int .i64), (.sl 89 yo), (.int .i64), (.int .i64), (.sl 3 yd)]
abbrev ylT : Type := Bool × ByteArray × Int × Int × Bool
abbrev ylU : List Ty := [.bool, .str, (.int .i64), (.int .i64), .bool]
abbrev ylV : Type := List yF × Int × Int × ByteArray × Int × Int × Bool
abbrev ylW : List Ty := [(.sl 91 z7), (.int .i64), (.int .i64), .str, (.int .i64), (.int .i64), .bool]
abbrev ylX : Type := Int × ByteArray × Int × Int × Bool
abbrev ysK : List Ty := [(.int .i64), .str, (.int .i64), (.int .i64), .bool]
abbrev ylY : Type := List yF × ByteArray × Int × Int × Bool
abbrev ylZ : List Ty := [(.sl 91 z7), .str, (.int .i64), (.int .i64), .bool]
abbrev ym0 : Type := List yF × Int × Int × List yh × List y7 × List yf × List yg × List yF × Int
abbrev ym1 : List Ty := [(.sl 91 z7), (.int .i64), (.int .i64), (.sl 3 yd), (.sl 98 yk), (.sl 89 yo), (.sl 95 yn), (.sl 91 z7), (.int .i64)]
abbrev ym2 : Type := List y7 × Int × Int × List y8
abbrev ym3 : List Ty := [(.sl 98 yk), (.int .i64), (.int .i64), (.sl 106 yb)]
abbrev ym4 : Type := Int × List yg × Int × Int
abbrev ym5 : List Ty := [(.int .i64), (.sl 95 yn), (.int .i64), (.int .i64)]
abbrev ym6 : Type := Int × Int × Int × List yh × List y7 × List yf × List yg × List yF × Int × List yaS × List y8
abbrev ym7 : List Ty := [(.int .i64), (.int .i64), (.int .i64), (.sl 3 yd), (.sl 98 yk), (.sl 89 yo), (.sl 95 yn), (.sl 91 z7), (.int .i64), (.sl 4 y3s), (.sl 106 yb)]
abbrev ym8 : Type := List yf × Int × Int × List yh × List y7 × List yf × List yg × List yF × Int
abbrev ym9 : List Ty := [(.sl 89 yo), (.int .i64), (.int .i64), (.sl 3 yd), (.sl 98 yk), (.sl 89 yo), (.sl 95 yn), (.sl 91 z7), (.int .i64)]
abbrev yma : Type := List yF × Int × Int × Int
abbrev ymb : List Ty := [(.sl 91 z7), (.int .i64), (.int .i64), (.int .i64)]
abbrev ymc : Type := List yF × Int
abbrev ymd : List Ty := [(.sl 91 z7), (.int .i64)]
abbrev yme : Type := List yf × Int × Int × Int × List yh
abbrev ymf : List Ty := [(.sl 89 yo), (.int .i64), (.int .i64), (.int .i64), (.sl 3 yd)]
abbrev ymg : Type := Int × Int × Int × List y8 × List y8
abbrev ymh : List Ty := [(.int .i64), (.int .i64), (.int .i64), (.sl 106 yb), (.sl 106 yb)]
abbrev ymi : Type := List yh × Int × Int × Int
abbrev ymj : List Ty := [(.sl 3 yd), (.int .i64), (.int .i64), (.int .i64)]
abbrev ymk : Type := List yh × Bool × Int × Int × Int × Int × Int × Int × Int × Int × Int × Int × Int × Int × List y8
abbrev yml : List Ty := [(.sl 3 yd), .bool, (.int .i64), (.int .i64), (.int .i64), (.int .i64), (.int .i64), (.int .i64), (.int .i64), (.int .i64), (.int .i64), (.int .i64), (.int .i64), (.int .i64), (.sl 106 yb)]
abbrev ymm : Type := List yF × Int × Int × List yh × List y7 × List yf × List yg × List yF × Int × Int × Int × Int × Int × Int
abbrev ymn : List Ty := [(.sl 91 z7), (.int .i64), (.int .i64), (.sl 3 yd), (.sl 98 yk), (.sl 89 yo), (.sl 95 yn), (.sl 91 z7), (.int .i64), (.int .i64), (.int .i64), (.int .i64), (.int .i64), (.int .i64)]
abbrev ymo : Type := Int × Int × Int × List yh × List y7
abbrev ymp : List Ty := [(.int .i64), (.int .i64), (.int .i64), (.sl 3 yd), (.sl 98 yk)]
abbrev ymq : Type := Int × Int × List y8 × Int × Int × Int × Int × Int × Int × Int
abbrev ymr : List Ty := [(.int .i64), (.int .i64), (.sl 106 yb), (.int .i64), (.int .i64), (.int .i64), (.int .i64), (.int .i64), (.int .i64), (.int .i64)]
abbrev yms : Type := Int × List y8 × Int × Int
abbrev ymt : List Ty := [(.int .i64), (.sl 106 yb), (.int .i64), (.int .i64)]
abbrev ymu : Type := Int × Int × Int × Int × Int × List yh × List y7 × List yf × List yg × List yF × Int × List y8 × List yh
abbrev ymv : List Ty := [(.int .i64), (.int .i64), (.int .i64), (.int .i64), (.int .i64), (.sl 3 yd), (.sl 98 yk), (.sl 89 yo), (.sl 95 yn), (.sl 91 z7), (.int .i64), (.sl 106 yb), (.sl 3 yd)]
abbrev ysL : Type := Int × Int × Int × Int × List yh × List y7 × List yf × List yg × List yF × Int × List y8 × List yh
abbrev yi5 : Type := Int × Int × List yh × List y7 × List yf × List yg × List yF × Int × List y8 × List yh
abbrev ymw : List Ty := [(.int .i64), (.int .i64), (.sl 3 yd), (.sl 98 yk), (.sl 89 yo), (.sl 95 yn), (.sl 91 z7), (.int .i64), (.sl 106 yb), (.sl 3 yd)]
abbrev ysM : Type := List yh × List y7 × List yf × List yg × List yF × Int × List y8
abbrev ymx : Type := List yf × Int × Int × List yh × List y7 × List yf × List yg × List yF × Int × List y8
abbrev ymy : List Ty := [(.sl 89 yo), (.int .i64), (.int .i64), (.sl 3 yd), (.sl 98 yk), (.sl 89 yo), (.sl 95 yn), (.sl 91 z7), (.int .i64), (.sl 106 yb)]
abbrev ymz : Type := List yf × Int × Int × Int × Int × List yf
abbrev ymA : List Ty := [(.sl 89 yo), (.int .i64), (.int .i64), (.int .i64), (.int .i64), (.sl 89 yo)]
abbrev ysN : Type := Int × List yf
abbrev ysO : Type := List yh × List y7 × Int × Int × List yh × List y7
abbrev ysP : List Ty := [(.sl 3 yd), (.sl 98 yk), (.int .i64), (.int .i64), (.sl 3 yd), (.sl 98 yk)]
abbrev ysQ : Type := List yh × List y7 × List yf × List yg × List yF × Int × Int × Int
abbrev ysR : List Ty := [(.sl 3 yd), (.sl 98 yk), (.sl 89 yo), (.sl 95 yn), (.sl 91 z7), (.int .i64), (.int .i64), (.int .i64)]
abbrev ydd : Type := Int × Int × Int × List yh × List y7 × List yf × List yg × List yF
abbrev ymB : List Ty := [(.int .i64), (.int .i64), (.int .i64), (.sl 3 yd), (.sl 98 yk), (.sl 89 yo), (.sl 95 yn), (.sl 91 z7)]
abbrev ysS : Type := Int × List yh × List y7 × List yf × List yg × List yF × Int × List yh × List y7 × List yf × List yg × List yF × Int
def ymC : List (Nat × TI) := [
 (3, .c (.int .i64) 8),
 (4, .c (.bool) 1),
 (5, .c (.int .u8) 1),
 (9, .c (.str) 16),
 (22, .c (.sl 3 yd) 24),
 (23, .c (.sl 216 Yl) 24),
 (25, .s [(0, 22), (1, 23)] [(.sl 3 yd), (.sl 216 Yl)] 48),
 (26, .c (.sl 166 wq) 24),
 (27, .c (.sl 168 jl) 24),
 (28, .c (.sl 158 Ji) 24),
 (30, .s [(0, 25), (2, 26), (3, 27), (4, 28), (5, 3)] [(.sl 3 yd), (.sl 216 Yl), (.sl 166 wq), (.sl 168 jl), (.sl 158 Ji), (.int .i64)] 128),
 (34, .c (.sl 98 yk) 24),
 (36, .s [(0, 22), (1, 34)] [(.sl 3 yd), (.sl 98 yk)] 48),
 (37, .c (.sl 89 yo) 24),
 (38, .c (.sl 95 yn) 24),
 (39, .c (.sl 91 z7) 24),
 (41, .s [(0, 36), (2, 37), (3, 38), (4, 39), (5, 3)] [(.sl 3 yd), (.sl 98 yk), (.sl 89 yo), (.sl 95 yn), (.sl 91 z7), (.int .i64)] 128),
 (89, .s [(0, 3), (1, 3)] [(.int .i64), (.int .i64)] 16),
 (91, .s [(0, 9), (1, 3), (2, 3), (3, 4)] [.str, (.int .i64), (.int .i64), .bool] 40),
 (95, .s [(0, 3), (1, 4), (2, 3)] [(.int .i64), .bool, (.int .i64)] 24),
 (96, .c (.sl 100 yi) 24),
 (98, .s [(0, 96)] [(.sl 100 yi)] 24),
 (100, .c (.sl 106 yb) 24),
 (106, .s [(0, 3), (1, 3), (2, 3), (3, 3), (4, 3)] [(.int .i64), (.int .i64), (.int .i64), (.int .i64), (.int .i64)] 40),
 (158, .s [(0, 9), (1, 3), (2, 3), (3, 4)] [.str, (.int .i64), (.int .i64), .bool] 40),
 (166, .s [(0, 3), (1, 3)] [(.int .i64), (.int .i64)] 16),
 (168, .s [(0, 3), (1, 4), (2, 3)] [(.int .i64), .bool, (.int .i64)] 24),
 (214, .c (.sl 267 Yr) 24),
 (216, .s [(0, 214)] [(.sl 267 Yr)] 24),
 (229, .c (.sl 4 y3s) 24),
 (267, .c (.sl 279 VL) 24),
 (279, .s [(0, 3), (1, 3), (2, 3), (3, 3), (4, 3)] [(.int .i64), (.int .i64), (.int .i64), (.int .i64), (.int .i64)] 40)]
def ymD : Sig := ⟨[.v false [(.sl 3 yd)] [false], .v false [(.int .i64)] [false]], [⟨false, [(.int .i64)], [false]⟩], false, false, false⟩
def ymE : Sig := ⟨[.v false [(.sl 279 VL)] [false], .v false [(.int .i64)] [false]], [⟨false, [(.int .i64)], [false]⟩], false, false, false⟩
def ymF : Sig := ⟨[.v false [(.sl 267 Yr)] [false], .v false [(.int .i64)] [false]], [⟨false, [(.int .i64)], [false]⟩], false, false, false⟩
def ymG : Sig := ⟨[.v true [(.sl 267 Yr)] [false], .v false [(.int .i64)] [false]], [⟨false, [(.int .i64)], [false]⟩], false, false, false⟩
def ymH : Sig := ⟨[.v false [(.sl 216 Yl)] [false], .v false [(.int .i64)] [false]], [⟨false, [(.int .i64)], [false]⟩], false, false, false⟩
def yxx : Sig := ⟨[.v true ysu [false, false], .v false [(.int .i64)] [false]], [⟨false, [(.int .i64)], [false]⟩], false, false, false⟩
def yxy : Sig := ⟨[.v false [(.sl 166 wq)] [false], .v false [(.int .i64)] [false]], [⟨false, [(.int .i64)], [false]⟩], false, false, false⟩
def yxz : Sig := ⟨[.v false [(.sl 168 jl)] [false], .v false [(.int .i64)] [false]], [⟨false, [(.int .i64)], [false]⟩], false, false, false⟩
def ymI : Sig := ⟨[.v true ycg (nf 4), .v false [(.int .i64)] [false]], [⟨false, [(.int .i64)], [false]⟩], false, false, false⟩
def yxA : Sig := ⟨[.v false [(.sl 158 Ji)] [false], .v false [(.int .i64)] [false]], [⟨false, [(.int .i64)], [false]⟩], false, false, false⟩
def yxB : Sig := ⟨[.v true yl3 (nf 6), .v false [(.int .i64)] [false]], [⟨false, [(.int .i64)], [false]⟩], false, false, false⟩
def ymJ : Sig := ⟨[.v false [(.sl 3 yd)] [false]], [⟨false, [(.sl 3 yd)], [true]⟩], false, true, false⟩
def ymK : Sig := ⟨[.v true K0 (nf 5)], [⟨true, K0, (nf 5)⟩], false, true, false⟩
def ymL : Sig := ⟨[.v false [(.sl 279 VL)] [false]], [⟨false, [(.sl 106 yb)], [true]⟩], false, true, false⟩
def ymM : Sig := ⟨[.v false [(.sl 267 Yr)] [false]], [⟨false, [(.sl 100 yi)], [true]⟩], false, true, false⟩
def ymN : Sig := ⟨[.v true [(.sl 267 Yr)] [false]], [⟨true, [(.sl 100 yi)], [true]⟩], false, true, false⟩
def ymO : Sig := ⟨[.v false [(.sl 216 Yl)] [false]], [⟨false, [(.sl 98 yk)], [true]⟩], false, true, false⟩
def yxC : Sig := ⟨[.v true ysu [false, false]], [⟨true, WA, [true, true]⟩], false, true, false⟩
def ymP : Sig := ⟨[.v true qz3 [false, false]], [⟨true, qz3, [false, false]⟩], false, true, false⟩
def yxD : Sig := ⟨[.v false [(.sl 166 wq)] [false]], [⟨false, [(.sl 89 yo)], [true]⟩], false, true, false⟩
def ymQ : Sig := ⟨[.v true ykE (nf 3)], [⟨true, ykE, (nf 3)⟩], false, true, false⟩
def yxE : Sig := ⟨[.v false [(.sl 168 jl)] [false]], [⟨false, [(.sl 95 yn)], [true]⟩], false, true, false⟩
def ymR : Sig := ⟨[.v true ycg (nf 4)], [⟨true, ycg, (nf 4)⟩], false, true, false⟩
def yxF : Sig := ⟨[.v false [(.sl 158 Ji)] [false]], [⟨false, [(.sl 91 z7)], [true]⟩], false, true, false⟩
def yxG : Sig := ⟨[.v true yl3 (nf 6)], [⟨true, WB, [true, true, true, true, true, false]⟩], false, true, false⟩
def ymS : Sig := ⟨[.v false [(.sl 3 yd)] [false], .v false [(.sl 3 yd)] [false]], [⟨false, [.bool], [false]⟩], false, false, false⟩
def ymT : Sig := ⟨[.v true K0 (nf 5), .v true K0 (nf 5)], [⟨false, [.bool], [false]⟩], false, false, false⟩
def ymU : Sig := ⟨[.v false [(.sl 106 yb)] [false], .v false [(.sl 106 yb)] [false]], [⟨false, [.bool], [false]⟩], false, false, false⟩
def ymV : Sig := ⟨[.v false [(.sl 100 yi)] [false], .v false [(.sl 100 yi)] [false]], [⟨false, [.bool], [false]⟩], false, false, false⟩
def ymW : Sig := ⟨[.v true [(.sl 100 yi)] [false], .v true [(.sl 100 yi)] [false]], [⟨false, [.bool], [false]⟩], false, false, false⟩
def ymX : Sig := ⟨[.v false [(.sl 98 yk)] [false], .v false [(.sl 98 yk)] [false]], [⟨false, [.bool], [false]⟩], false, false, false⟩
def yxH : Sig := ⟨[.v true WA [false, false], .v true WA [false, false]], [⟨false, [.bool], [false]⟩], false, false, false⟩
def ymY : Sig := ⟨[.v true qz3 [false, false], .v true qz3 [false, false]], [⟨false, [.bool], [false]⟩], false, false, false⟩
def yxI : Sig := ⟨[.v false [(.sl 89 yo)] [false], .v false [(.sl 89 yo)] [false]], [⟨false, [.bool], [false]⟩], false, false, false⟩
def ymZ : Sig := ⟨[.v true ykE (nf 3), .v true ykE (nf 3)], [⟨false, [.bool], [false]⟩], false, false, false⟩
def yxJ : Sig := ⟨[.v false [(.sl 95 yn)] [false], .v false [(.sl 95 yn)] [false]], [⟨false, [.bool], [false]⟩], false, false, false⟩
def yn0 : Sig := ⟨[.v true ycg (nf 4), .v true ycg (nf 4)], [⟨false, [.bool], [false]⟩], false, false, false⟩
def yxK : Sig := ⟨[.v false [(.sl 91 z7)] [false], .v false [(.sl 91 z7)] [false]], [⟨false, [.bool], [false]⟩], false, false, false⟩
def yxL : Sig := ⟨[.v true WB (nf 6), .v true WB (nf 6)], [⟨false, [.bool], [false]⟩], false, false, false⟩
def yn1 : Sig := ⟨[.v true [(.sl 100 yi)] [false]], [⟨true, [(.sl 100 yi)], [true]⟩], false, false, false⟩
def yn2 : Sig := ⟨[.v true WA [false, false]], [⟨true, WA, [true, true]⟩], false, false, false⟩
def yn3 : Sig := ⟨[.v false [(.sl 95 yn)] [false]], [⟨false, [(.sl 95 yn)], [true]⟩], false, false, false⟩
def yn4 : Sig := ⟨[.v true WB (nf 6)], [⟨true, WB, [true, true, true, true, true, false]⟩], false, false, false⟩
def yn5 : Sig := ⟨[.v false [(.int .i64)] [false], .v false [(.int .i64)] [false], .v false [(.int .i64)] [false]], [⟨false, [.bool], [false]⟩], false, false, false⟩
def yn6 : Sig := ⟨[.v false [(.sl 106 yb)] [false]], [⟨false, [(.sl 106 yb)], [true]⟩], false, false, false⟩
def yn7 : Sig := ⟨[.v true K0 (nf 5), .v true K0 (nf 5)], [⟨false, [.bool], [false]⟩], false, false, false⟩
def yn8 : Sig := ⟨[.v true K0 (nf 5), .v true K0 (nf 5)], [⟨false, [.bool], [false]⟩], false, false, false⟩
def yn9 : Sig := ⟨[.v false [(.sl 106 yb)] [false], .v true K0 (nf 5)], [⟨false, [(.sl 106 yb)], [true]⟩], false, false, false⟩
def yna : Sig := ⟨[.v false [(.sl 106 yb)] [false], .v false [(.sl 106 yb)] [false]], [⟨false, [(.sl 106 yb)], [true]⟩], false, false, false⟩
def ynb : Sig := ⟨[.v true [(.sl 100 yi)] [false]], [⟨false, [(.sl 106 yb)], [true]⟩], false, false, false⟩
def ync : Sig := ⟨[.v true WA [false, false]], [⟨false, [(.sl 106 yb)], [true]⟩], false, false, false⟩
def ynd : Sig := ⟨[.v false [(.int .i64)] [false], .v false [(.int .i64)] [false]], [⟨false, [(.int .i64)], [false]⟩], false, false, false⟩
def yne : Sig := ⟨[.v true K0 (nf 5)], [⟨false, [(.int .i64)], [false]⟩], false, false, false⟩
def ynf : Sig := ⟨[.v true K0 (nf 5)], [⟨false, [.bool], [false]⟩], false, false, false⟩
def yng : Sig := ⟨[.v false [(.sl 106 yb)] [false]], [⟨false, [.bool], [false]⟩], false, false, false⟩
def ynh : Sig := ⟨[.v false [(.sl 106 yb)] [false]], [⟨false, [.bool], [false]⟩], false, false, false⟩
def yni : Sig := ⟨[.v true [(.sl 100 yi)] [false]], [⟨false, [(.int .i64)], [false]⟩], false, false, false⟩
def ynj : Sig := ⟨[.v true [(.sl 100 yi)] [false]], [⟨false, [.bool], [false]⟩], false, false, false⟩
def ynk : Sig := ⟨[.v true WA [false, false], .v false [(.int .i64)] [false]], [⟨false, [.bool], [false]⟩], false, false, false⟩
def ynl : Sig := ⟨[.v true WA [false, false]], [⟨false, [.bool], [false]⟩], false, false, false⟩
def ynm : Sig := ⟨[.v false [(.sl 89 yo)] [false], .v false [(.int .i64)] [false]], [⟨false, [(.int .i64)], [false]⟩], false, false, false⟩
def ynn : Sig := ⟨[.v false [(.sl 89 yo)] [false]], [⟨false, [.bool], [false]⟩], false, false, false⟩
def yno : Sig := ⟨[.v false [(.int .i64)] [false]], [⟨false, [.bool], [false]⟩], false, false, false⟩
def ynp : Sig := ⟨[.v false [(.sl 95 yn)] [false]], [⟨false, [.bool], [false]⟩], false, false, false⟩
def ynq : Sig := ⟨[.v false [.str] [false]], [⟨false, [.bool], [false]⟩], false, false, false⟩
def ynr : Sig := ⟨[.v false [(.sl 89 yo)] [false], .v false [(.int .i64)] [false]], [⟨false, [(.sl 3 yd)], [true]⟩], false, false, false⟩
def yns : Sig := ⟨[.v true WB (nf 6)], [⟨false, [.bool], [false]⟩], false, false, false⟩
def ynt : Sig := ⟨[.v false [(.sl 95 yn)] [false], .v false [(.int .i64)] [false], .v false [(.int .i64)] [false]], [⟨false, [(.int .i64)], [false]⟩, ⟨false, [.bool], [false]⟩], false, false, false⟩
def ynu : Sig := ⟨[.v false [(.sl 95 yn)] [false]], [⟨false, [(.int .i64)], [false]⟩], false, false, false⟩
def ynv : Sig := ⟨[.v true WB (nf 6)], [⟨false, [.bool], [false]⟩], false, false, false⟩
def yxM : Sig := ⟨[.v true WB (nf 6)], [⟨false, [.bool], [false]⟩], false, false, false⟩
def ynw : Sig := ⟨[.v false [(.sl 89 yo)] [false], .v false [(.int .i64)] [false]], [⟨false, [(.sl 3 yd)], [true]⟩], false, false, false⟩
def ynx : Sig := ⟨[.v true WA [false, false], .v false [(.int .i64)] [false]], [⟨false, [(.sl 106 yb)], [true]⟩], false, false, false⟩
def yny : Sig := ⟨[.v false [(.sl 3 yd)] [false], .v false [(.int .i64)] [false]], [⟨false, [.bool], [false]⟩], false, false, false⟩
def ynz : Sig := ⟨[.v true WA [false, false], .v false [(.int .i64)] [false], .v false [(.sl 3 yd)] [false]], [⟨true, K0, (nf 5)⟩, ⟨false, [.bool], [false]⟩], false, false, false⟩
def ynA : Sig := ⟨[.v true WA [false, false], .v false [(.sl 89 yo)] [false], .v false [(.int .i64)] [false], .v false [(.int .i64)] [false]], [⟨true, K0, (nf 5)⟩, ⟨false, [.bool], [false]⟩], false, false, false⟩
def ynB : Sig := ⟨[.v true WA [false, false], .v false [(.sl 89 yo)] [false], .v true K0 (nf 5), .v false [(.int .i64)] [false]], [⟨false, [.bool], [false]⟩], false, false, false⟩
def ynC : Sig := ⟨[.v true WB (nf 6), .v true K0 (nf 5)], [⟨false, [.bool], [false]⟩], false, false, false⟩
def ynD : Sig := ⟨[.v true WA [false, false], .v false [(.sl 89 yo)] [false], .v false [(.int .i64)] [false], .v false [(.int .i64)] [false]], [⟨true, K0, (nf 5)⟩, ⟨false, [.bool], [false]⟩], false, false, false⟩
def ynE : Sig := ⟨[.v true WB (nf 6), .v false [(.int .i64)] [false]], [⟨false, [.bool], [false]⟩], false, false, false⟩
def ynF : Sig := ⟨[.v true WB (nf 6), .v false [(.int .i64)] [false]], [⟨false, [(.int .i64)], [false]⟩], false, false, false⟩
def ynG : Sig := ⟨[.v true WA [false, false], .v false [(.int .i64)] [false], .v false [(.int .i64)] [false]], [⟨false, [(.int .i64)], [false]⟩], false, false, false⟩
def ynH : Sig := ⟨[.v false [(.sl 106 yb)] [false], .v false [(.int .i64)] [false], .v false [(.int .i64)] [false]], [⟨true, K0, (nf 5)⟩, ⟨false, [.bool], [false]⟩], false, false, false⟩
def ynI : Sig := ⟨[.v true [(.sl 100 yi)] [false], .v false [(.int .i64)] [false], .v false [(.int .i64)] [false]], [⟨true, K0, (nf 5)⟩, ⟨false, [.bool], [false]⟩], false, false, false⟩
def ynJ : Sig := ⟨[.v true WA [false, false], .v false [(.int .i64)] [false], .v false [(.int .i64)] [false]], [⟨true, K0, (nf 5)⟩, ⟨false, [.bool], [false]⟩], false, false, false⟩
def ynK : Sig := ⟨[.v true WB (nf 6), .v true K0 (nf 5)], [⟨false, [.bool], [false]⟩], false, false, false⟩
def ynL : Sig := ⟨[.v true WB (nf 6), .v false [(.int .i64)] [false], .v true K0 (nf 5)], [⟨false, [.bool], [false]⟩], false, false, false⟩
def ynM : Sig := ⟨[.v true WB (nf 6), .v false [(.int .i64)] [false]], [⟨false, [.bool], [false]⟩], false, false, false⟩
def ynN : Sig := ⟨[.v true WB (nf 6)], [⟨false, [(.int .i64)], [false]⟩, ⟨false, [(.int .i64)], [false]⟩], false, false, false⟩
def ynO : Sig := ⟨[.v false [(.sl 106 yb)] [false]], [⟨true, [(.sl 100 yi)], [true]⟩], false, false, false⟩
def ynP : Sig := ⟨[.v true [(.sl 100 yi)] [false], .v true K0 (nf 5)], [⟨true, [(.sl 100 yi)], [true]⟩, ⟨false, [.bool], [false]⟩], false, false, false⟩
def ynQ : Sig := ⟨[.v true WA [false, false], .v false [(.int .i64)] [false], .v false [(.sl 3 yd)] [false], .v false [(.sl 98 yk)] [false]], [⟨true, WA, [true, true]⟩], false, false, false⟩
def ynR : Sig := ⟨[.v true WA [false, false]], [⟨false, [(.int .i64)], [false]⟩], false, false, false⟩
def ynS : Sig := ⟨[.v true WA [false, false]], [⟨true, WA, [false, false]⟩], false, false, false⟩
def ynT : Sig := ⟨[.v true WA [false, false], .v true K0 (nf 5)], [⟨true, WA, [false, false]⟩, ⟨false, [.bool], [false]⟩], false, false, false⟩
def ynU : Sig := ⟨[.v false [(.sl 95 yn)] [false], .v false [(.int .i64)] [false]], [⟨false, [(.sl 95 yn)], [true]⟩], false, false, false⟩
def ynV : Sig := ⟨[.p none WB (nf 6), .v true K0 (nf 5), .v false [.bool] [false]], [], false, false, false⟩
def ynW : Sig := ⟨[.p none WB (nf 6), .v true K0 (nf 5)], [⟨false, [.bool], [false]⟩], false, false, false⟩
def ynX : Sig := ⟨[.p none WB (nf 6), .v true K0 (nf 5)], [⟨false, [.bool], [false]⟩], false, false, false⟩
def ynY : Sig := ⟨[.v false [(.sl 89 yo)] [false], .v false [(.int .i64)] [false]], [⟨false, [(.sl 89 yo)], [true]⟩, ⟨false, [.bool], [false]⟩], false, false, false⟩
def ynZ : Sig := ⟨[.v true WB (nf 6)], [⟨true, WB, (nf 6)⟩, ⟨false, [.bool], [false]⟩], false, false, false⟩
def yxN : Sig := ⟨[.v true WB (nf 6)], [⟨false, [(.int .i64)], [false]⟩], false, false, false⟩
def yo0 : Sig := ⟨[.v false [(.sl 3 yd)] [false]], [⟨false, [(.sl 3 yd)], [true]⟩], false, false, false⟩
def yo1 : Sig := ⟨[.v false [(.sl 106 yb)] [false]], [⟨false, [(.sl 106 yb)], [true]⟩], false, false, false⟩
def yo2 : Sig := ⟨[.v true [(.sl 100 yi)] [false]], [⟨true, [(.sl 100 yi)], [true]⟩], false, false, false⟩
def yo3 : Sig := ⟨[.v true WA [false, false]], [⟨true, WA, [true, true]⟩], false, false, false⟩
def yo4 : Sig := ⟨[.v false [(.sl 89 yo)] [false]], [⟨false, [(.sl 89 yo)], [true]⟩], false, false, false⟩
def yo5 : Sig := ⟨[.v false [(.sl 95 yn)] [false]], [⟨false, [(.sl 95 yn)], [true]⟩], false, false, false⟩
def yo6 : Sig := ⟨[.v true WB (nf 6)], [⟨true, WB, [true, true, true, true, true, false]⟩], false, false, false⟩
def yo7 : Sig := ⟨[.v false [(.int .i64)] [false], .v false [(.int .i64)] [false], .v false [(.int .i64)] [false]], [⟨false, [.bool], [false]⟩], false, false, false⟩
def yo8 : Sig := ⟨[.v true K0 (nf 5)], [⟨false, [.bool], [false]⟩], false, false, false⟩
def yo9 : Sig := ⟨[.v true K0 (nf 5), .v true K0 (nf 5)], [⟨false, [.bool], [false]⟩], false, false, false⟩
def yoa : Sig := ⟨[.v false [(.sl 106 yb)] [false]], [⟨false, [.bool], [false]⟩], false, false, false⟩
def yob : Sig := ⟨[.v true [(.sl 100 yi)] [false]], [⟨false, [.bool], [false]⟩], false, false, false⟩
def yoc : Sig := ⟨[.v false [(.int .i64)] [false], .v false [(.int .i64)] [false]], [⟨false, [(.int .i64)], [false]⟩], false, false, false⟩
def yod : Sig := ⟨[.v true WA [false, false], .v false [(.int .i64)] [false]], [⟨false, [.bool], [false]⟩], false, false, false⟩
def yoe : Sig := ⟨[.v true K0 (nf 5), .v true K0 (nf 5)], [⟨false, [.bool], [false]⟩], false, false, false⟩
def yof : Sig := ⟨[.v false [(.sl 106 yb)] [false], .v true K0 (nf 5)], [⟨false, [(.sl 106 yb)], [true]⟩], false, false, false⟩
def yog : Sig := ⟨[.v false [(.sl 106 yb)] [false], .v false [(.sl 106 yb)] [false]], [⟨false, [(.sl 106 yb)], [true]⟩], false, false, false⟩
def yoh : Sig := ⟨[.v false [(.sl 106 yb)] [false]], [⟨false, [(.sl 106 yb)], [true]⟩], false, false, false⟩
def yoi : Sig := ⟨[.v true [(.sl 100 yi)] [false]], [⟨false, [(.sl 106 yb)], [true]⟩], false, false, false⟩
def yoj : Sig := ⟨[.v true WA [false, false]], [⟨false, [.bool], [false]⟩], false, false, false⟩
def yok : Sig := ⟨[.v true qz3 [false, false], .p none [(.int .i64)] [false]], [⟨false, [.bool], [false]⟩], false, false, false⟩
def yaT : Sig := ⟨[.v false [(.sl 89 yo)] [false], .p (some 251) [(.int .i64)] [false]], [⟨false, [(.int .i64)], [false]⟩], false, false, false⟩
def yol : Sig := ⟨[.v false [(.sl 89 yo)] [false], .v false [(.int .i64)] [false]], [⟨false, [(.int .i64)], [false]⟩], false, false, false⟩
def yom : Sig := ⟨[.v false [(.sl 89 yo)] [false]], [⟨false, [.bool], [false]⟩], false, false, false⟩
def yon : Sig := ⟨[.v false [(.int .i64)] [false]], [⟨false, [.bool], [false]⟩], false, false, false⟩
def yoo : Sig := ⟨[.v false [(.sl 95 yn)] [false]], [⟨false, [.bool], [false]⟩], false, false, false⟩
def yop : Sig := ⟨[.v false [.str] [false]], [⟨false, [.bool], [false]⟩], false, false, false⟩
def yoq : Sig := ⟨[.v false [(.sl 89 yo)] [false], .v false [(.int .i64)] [false]], [⟨false, [(.sl 3 yd)], [true]⟩], false, false, false⟩
def yor : Sig := ⟨[.v true ycg (nf 4), .p none ycg (nf 4)], [⟨false, [.bool], [false]⟩], false, false, false⟩
def yaU : Sig := ⟨[.v false [(.sl 91 z7)] [false], .p (some 212) ycg (nf 4)], [⟨false, [(.int .i64)], [false]⟩], false, false, false⟩
def yaV : Sig := ⟨[.v false [(.sl 91 z7)] [false], .p (some 212) ycg (nf 4)], [⟨false, [.bool], [false]⟩], false, false, false⟩
def yos : Sig := ⟨[.v true WB (nf 6)], [⟨false, [.bool], [false]⟩], false, false, false⟩
def yot : Sig := ⟨[.v true WA [false, false]], [⟨false, [(.sl 106 yb)], [true]⟩], false, false, false⟩
def yov : Sig := ⟨[.v false [(.sl 95 yn)] [false], .v false [(.int .i64)] [false], .v false [(.int .i64)] [false]], [⟨false, [(.int .i64)], [false]⟩, ⟨false, [.bool], [false]⟩], false, false, false⟩
def yow : Sig := ⟨[.v false [(.sl 95 yn)] [false]], [⟨false, [(.int .i64)], [false]⟩], false, false, false⟩
def yox : Sig := ⟨[.v true WB (nf 6)], [⟨false, [.bool], [false]⟩], false, false, false⟩
def yxO : Sig := ⟨[.v true WB (nf 6)], [⟨false, [.bool], [false]⟩], false, false, false⟩
def yoy : Sig := ⟨[.v true ycg (nf 4), .p none [(.int .i64)] [false]], [⟨false, [.bool], [false]⟩], false, false, false⟩
def yaW : Sig := ⟨[.v false [(.sl 91 z7)] [false], .p (some 291) [(.int .i64)] [false]], [⟨false, [(.int .i64)], [false]⟩], false, false, false⟩
def yaX : Sig := ⟨[.v false [(.sl 91 z7)] [false], .p (some 291) [(.int .i64)] [false]], [⟨false, [.bool], [false]⟩], false, false, false⟩
def yoz : Sig := ⟨[.v true WB (nf 6), .v false [(.int .i64)] [false]], [⟨false, [.bool], [false]⟩], false, false, false⟩
def yoA : Sig := ⟨[.v false [(.sl 89 yo)] [false], .v false [(.int .i64)] [false]], [⟨false, [(.sl 3 yd)], [true]⟩], false, false, false⟩
def yoB : Sig := ⟨[.v true WA [false, false], .v false [(.int .i64)] [false]], [⟨false, [(.sl 106 yb)], [true]⟩], false, false, false⟩
def yoC : Sig := ⟨[.v false [(.sl 3 yd)] [false], .v false [(.int .i64)] [false]], [⟨false, [(.int .i64)], [false]⟩], false, false, false⟩
def yoD : Sig := ⟨[.v false [(.sl 3 yd)] [false], .v false [(.int .i64)] [false]], [⟨false, [.bool], [false]⟩], false, false, false⟩
def yoE : Sig := ⟨[.v true WA [false, false], .v false [(.int .i64)] [false], .v false [(.sl 3 yd)] [false]], [⟨true, K0, (nf 5)⟩, ⟨false, [.bool], [false]⟩], false, false, false⟩
def yoF : Sig := ⟨[.v true WA [false, false], .v false [(.sl 89 yo)] [false], .v false [(.int .i64)] [false], .v false [(.int .i64)] [false]], [⟨true, K0, (nf 5)⟩, ⟨false, [.bool], [false]⟩], false, false, false⟩
def yoG : Sig := ⟨[.v true WA [false, false], .v false [(.sl 89 yo)] [false], .v true K0 (nf 5), .v false [(.int .i64)] [false]], [⟨false, [.bool], [false]⟩], false, false, false⟩
def yoH : Sig := ⟨[.v true WB (nf 6), .v true K0 (nf 5)], [⟨false, [.bool], [false]⟩], false, false, false⟩
def yoI : Sig := ⟨[.v true WA [false, false], .v false [(.sl 89 yo)] [false], .v false [(.int .i64)] [false], .v false [(.int .i64)] [false]], [⟨true, K0, (nf 5)⟩, ⟨false, [.bool], [false]⟩], false, false, false⟩
def yoJ : Sig := ⟨[.v true WA [false, false], .v false [(.int .i64)] [false], .v false [(.int .i64)] [false]], [⟨false, [(.int .i64)], [false]⟩], false, false, false⟩
def yoK : Sig := ⟨[.v false [(.sl 106 yb)] [false], .v false [(.int .i64)] [false], .v false [(.int .i64)] [false]], [⟨true, K0, (nf 5)⟩, ⟨false, [.bool], [false]⟩], false, false, false⟩
def yoL : Sig := ⟨[.v true [(.sl 100 yi)] [false], .v false [(.int .i64)] [false], .v false [(.int .i64)] [false]], [⟨true, K0, (nf 5)⟩, ⟨false, [.bool], [false]⟩], false, false, false⟩
def yoM : Sig := ⟨[.v true WA [false, false], .v false [(.int .i64)] [false], .v false [(.int .i64)] [false]], [⟨true, K0, (nf 5)⟩, ⟨false, [.bool], [false]⟩], false, false, false⟩
def yoN : Sig := ⟨[.v true WB (nf 6), .v false [(.int .i64)] [false], .v true K0 (nf 5)], [⟨false, [.bool], [false]⟩], false, false, false⟩
def yoO : Sig := ⟨[.v false [(.sl 106 yb)] [false], .v false [(.int .i64)] [false]], [⟨false, [.bool], [false]⟩], false, false, false⟩
def yoP : Sig := ⟨[.v true WB (nf 6)], [⟨false, [(.int .i64)], [false]⟩, ⟨false, [(.int .i64)], [false]⟩], false, false, false⟩
def yde : Sig := ⟨[.v false [(.sl 89 yo)] [true], .v false [(.int .i64)] [false], .v false [(.int .i64)] [false]], [⟨false, [(.sl 89 yo)], [true]⟩], false, false, false⟩
def yoQ : Sig := ⟨[.v false [(.sl 89 yo)] [false], .v false [(.int .i64)] [false]], [⟨false, [(.sl 89 yo)], [true]⟩, ⟨false, [.bool], [false]⟩], false, false, false⟩
def yoR : Sig := ⟨[.v true [(.sl 100 yi)] [false], .v true K0 (nf 5)], [⟨false, [(.sl 106 yb)], [true]⟩], false, false, false⟩
def yoS : Sig := ⟨[.v false [(.sl 106 yb)] [false]], [⟨true, [(.sl 100 yi)], [true]⟩], false, false, false⟩
def yoT : Sig := ⟨[.v true [(.sl 100 yi)] [false], .v true K0 (nf 5)], [⟨true, [(.sl 100 yi)], [true]⟩, ⟨false, [.bool], [false]⟩], false, false, false⟩
def yoU : Sig := ⟨[.v true WA [false, false], .v false [(.int .i64)] [false], .v false [(.int .i64)] [false], .v false [(.sl 3 yd)] [false], .v false [(.sl 98 yk)] [false]], [⟨true, WA, [true, true]⟩], false, false, false⟩
def yoV : Sig := ⟨[.v true WA [false, false]], [⟨true, WA, [false, false]⟩], false, false, false⟩
def yoW : Sig := ⟨[.v true WA [false, false], .v true K0 (nf 5)], [⟨true, WA, [false, false]⟩, ⟨false, [.bool], [false]⟩], false, false, false⟩
def yoX : Sig := ⟨[.v false [(.sl 95 yn)] [false], .v false [(.int .i64)] [false]], [⟨false, [(.sl 95 yn)], [true]⟩], false, false, false⟩
def yoY : Sig := ⟨[.p none WB (nf 6), .v true K0 (nf 5)], [⟨false, [.bool], [false]⟩], false, false, false⟩
def yoZ : Sig := ⟨[.p none WB (nf 6), .v false [(.int .i64)] [false], .v false [(.int .i64)] [false]], [⟨false, [.bool], [false]⟩], false, false, false⟩
def yp0 : Sig := ⟨[.v true WB (nf 6)], [⟨true, WB, (nf 6)⟩, ⟨false, [.bool], [false]⟩], false, false, false⟩
def yp1 : Sig := ⟨[.v true WB (nf 6)], [⟨true, WB, (nf 6)⟩, ⟨false, [(.int .i64)], [false]⟩], false, false, false⟩
def yxP : Sig := ⟨[.v true WB (nf 6)], [⟨false, [(.int .i64)], [false]⟩], false, false, false⟩
def sg9 : Sig := ⟨[.v true yl3 (nf 6)], [⟨false, [.bool], [false]⟩], false, false, false⟩
def yz1 : List (Nat × Sig) := [(117, ymD), (275, ymE), (243, ymF), (194, ymG), (118, ymH), (43, yxx), (44, yxy), (45, yxz), (119, ymI), (46, yxA), (10, yxB), (126, ymJ), (301, ymK), (278, ymL), (245, ymM), (203, ymN), (127, ymO), (52, yxC), (128, ymP), (53, yxD), (129, ymQ), (54, yxE), (130, ymR), (55, yxF), (12, yxG), (139, ymS), (303, ymT), (282, ymU), (253, ymV), (216, ymW), (140, ymX), (61, yxH), (141, ymY), (62, yxI), (142, ymZ), (63, yxJ), (143, yn0), (64, yxK), (15, yxL), (227, yn1), (185, yn2), (186, yn3), (114, yn4), (107, yn5), (235, yn6), (266, yn7), (267, yn8), (236, yn9), (261, yna), (230, ynb), (188, ync), (264, ynd), (237, yne), (202, ynf), (300, yng), (276, ynh), (277, yni), (244, ynj), (195, ynk), (120, ynl), (196, ynm), (121, ynn), (197, yno), (122, ynp), (198, ynq), (199, ynr), (123, yns), (200, ynt), (201, ynu), (124, ynv), (47, yxM), (284, ynw), (305, ynx), (306, yny), (285, ynz), (304, ynA), (283, ynB), (258, ynC), (259, ynD), (240, ynE), (191, ynF), (232, ynG), (265, ynH), (286, ynI), (262, ynJ), (260, ynK), (228, ynL), (229, ynM), (187, ynN), (238, ynO), (233, ynP), (234, ynQ), (268, ynR), (239, ynS), (190, ynT), (287, ynU), (263, ynV), (231, ynW), (189, ynX), (192, ynY), (115, ynZ), (41, yxN), (256, yo0), (280, yo1), (257, yo2), (223, yo3), (224, yo4), (225, yo5), (179, yo6), (134, yo7), (138, yo8), (279, yo9), (246, yoa), (204, yob), (247, yoc), (205, yod), (302, yoe), (281, yof), (248, yog), (249, yoh), (206, yoi), (131, yoj), (251, yok), (100000, yaT), (207, yol), (132, yom), (208, yon), (133, yoo), (209, yop), (210, yoq), (212, yor), (100002, yaU), (100001, yaV), (135, yos), (213, yot), (214, yov), (215, yow), (136, yox), (56, yxO), (291, yoy), (100004, yaW), (100003, yaX), (270, yoz), (308, yoA), (313, yoB), (315, yoC), (314, yoD), (309, yoE), (312, yoF), (307, yoG), (288, yoH), (289, yoI), (294, yoJ), (311, yoK), (310, yoL), (290, yoM), (269, yoN), (271, yoO), (241, yoP), (292, yde), (272, yoQ), (296, yoR), (298, yoS), (295, yoT), (297, yoU), (299, yoV), (274, yoW), (293, yoX), (273, yoY), (242, yoZ), (193, yp0), (116, yp1), (42, yxP), (9, sg9)]
def ysT : List (Nat × (List Nat × List Nat)) := [
 (24300005, [0, 1, 5], [1, 4]),
 (11800005, [0, 1, 5], [1, 4]),
 (4600005, [0, 1, 5], [1, 4]),
 (12600003, [0, 3, 4], [3]),
 (27800003, [0, 3, 4], [3]),
 (24500003, [0, 3, 4], [3]),
 (12700003, [0, 3, 4], [3]),
 (5300003, [0, 3, 4], [3]),
 (5400003, [0, 3, 4], [3]),
 (5500003, [0, 3, 4], [3]),
 (13900004, [0, 1, 5], [4]),
 (28200004, [0, 1, 5], [4]),
 (25300004, [0, 1, 5], [4]),
 (14000004, [0, 1, 5], [4]),
 (6200004, [0, 1, 5], [4]),
 (6300004, [0, 1, 5], [4]),
 (6400004, [0, 1, 5], [4]),
 (22700003, [1, 2, 3, 4], [2, 3]),
 (18500003, [1, 2, 3, 4], [2, 3]),
 (23500003, [0, 3, 4], [3]),
 (23600004, [0, 3, 5, 6, 7, 18, 19, 20, 21, 22, 23, 24], [3, 5, 6]),
 (26100003, [1, 5, 6], [5]),
 (23000003, [1, 3, 4], [3]),
 (18800003, [1, 3, 4], [3]),
 (30000002, [0, 3], [2]),
 (27600002, [0, 3, 19, 20, 21], [0, 2, 19, 20, 21]),
 (27700003, [1, 3, 4], [3]),
 (24400002, [1, 3, 19, 20, 21, 22, 23, 24, 25, 32, 33, 34], [1, 2, 32, 33, 34]),
 (19500005, [1, 2, 5, 6, 61, 62, 63, 64, 65, 66, 67, 68, 69, 70, 71, 72, 73, 74, 75, 76], [4]),
 (19500008, [1, 2, 5, 6, 7, 61, 62, 63, 64, 65, 66, 67, 68, 69, 70, 71, 72, 73, 74, 75, 76], [1, 2, 4, 5, 6, 61, 62, 63, 64, 65, 66, 67, 68, 69, 70, 71, 72, 73, 74, 75, 76]),
 (12000004, [1, 3, 35, 36, 37, 38, 39, 40, 41, 42, 43, 44, 45, 46, 49, 50, 51, 52], [1, 2]),
 (19600002, [0, 1, 5], [4]),
 (12100002, [0, 3, 18, 19, 20, 21, 22, 23, 24, 25, 26, 27, 28, 29, 30, 31, 32, 33, 42, 43, 44, 45, 46, 47, 48, 49, 50, 51], [0, 2]),
 (12200002, [0, 3, 18, 19, 20, 21, 22, 23, 24, 27, 28, 29, 30, 31, 32, 33, 34, 35, 36, 37, 38, 39, 40], [0, 2]),
 (19800002, [0, 3, 17, 18, 19, 20, 21, 22], [0, 2]),
 (19900003, [0, 1, 5, 6, 22, 23], [5]),
 (12300002, [1, 3, 23, 24, 25, 26, 29, 30, 31, 32, 33, 34, 37, 38, 39, 40, 41, 42, 43, 46, 47, 48, 49, 50, 51, 52, 53, 54, 55, 56, 57, 58, 59], [1, 2]),
 (12300008, [1, 3, 4, 5, 23, 24, 25, 26, 29, 30, 31, 32, 33, 34, 37, 38, 39, 40, 41, 42, 43, 46, 47, 48, 49, 50, 51, 52, 53, 54, 55, 56, 57, 58, 59], [1, 2, 3, 23, 24, 25, 26, 29, 30, 31, 32, 33, 34, 37, 38, 39, 40, 41, 42, 43, 46, 47, 48, 49, 50, 51, 52, 53, 54, 55, 56, 57, 58, 59]),
 (20100003, [0, 3, 4], [3]),
 (12400004, [1, 3, 4, 5, 65, 66, 67, 68, 69, 70, 71, 72, 73, 74, 75], [1, 2, 4]),
 (12400014, [1, 3, 4, 5, 8, 65, 66, 67, 68, 69, 70, 71, 72, 73, 74, 75], [1, 2, 3, 4, 5, 65, 66, 67, 68, 69, 70, 71, 72, 73, 74, 75]),
 (4700002, [1, 3, 24, 25, 26, 29, 30, 31, 34, 35, 36, 39, 40, 43, 44], [1, 2, 24, 25, 26, 29, 30, 31, 34, 35, 36, 39, 40, 43, 44]),
 (28400003, [0, 5, 6, 14, 15, 16, 17, 18], [5]),
 (30500004, [1, 5, 6, 7], [5]),
 (30600002, [0, 1, 5], [4]),
 (28500005, [2, 6, 8, 9, 10, 11, 30, 31, 32, 33, 34, 35, 36, 37, 38, 39, 40, 41], [6, 8, 9]),
 (25800002, [2, 3, 5, 23, 24, 25, 26, 27, 28, 29, 30, 31, 32, 33, 34], [4]),
 (24000002, [1, 2, 5], [4]),
 (23200003, [1, 2, 3, 7, 8], [7]),
 (26500002, [0, 1, 2, 6, 8, 23, 24, 25, 26, 27, 28, 29], [6, 7]),
 (28600002, [1, 2, 3, 6, 8, 32, 33, 34], [6, 7]),
 (22900003, [1, 2, 5, 6, 27, 28, 29, 30, 31, 32], [1, 2, 4, 27, 28, 29, 30, 31, 32]),
 (18700005, [1, 4, 5], [1, 2, 3]),
 (18700008, [1, 4, 5, 6], [1, 2, 3, 4, 5]),
 (18700013, [1, 7], [2, 3]),
 (26800002, [1, 3], [2]),
 (23900002, [1, 2, 3], [1, 2]),
 (19200006, [0, 1, 6, 7, 8], [7]),
 (4100003, [3, 4], [2]),
 (25700003, [2, 3, 8, 9, 10], [2, 3]),
 (22300003, [2, 3, 11, 12, 13], [2, 3]),
 (24600002, [0, 5, 6, 7, 16, 17, 18, 19, 20, 21, 22, 23, 24, 25, 26, 27], [0, 2]),
 (20400003, [1, 3, 7, 8, 9, 17, 18, 19, 31, 32], [1, 2, 3, 31, 32]),
 (20500002, [1, 2, 15, 16, 17, 40, 41, 42, 43, 44, 45, 46, 47, 48, 49, 50, 51, 52, 53, 54, 55], [4]),
 (20500005, [1, 2, 15, 16, 17, 21, 22, 23, 40, 41, 42, 43, 44, 45, 46, 47, 48, 49, 50, 51, 52, 53, 54, 55], [1, 2, 4, 15, 16, 17, 40, 41, 42, 43, 44, 45, 46, 47, 48, 49, 50, 51, 52, 53, 54, 55]),
 (28100004, [3, 5, 6, 10, 11, 12, 19, 20, 21, 22], [3, 5, 6]),
 (24800003, [5, 10, 11, 12], [5]),
 (24900003, [3, 7, 8, 9], [3]),
 (20600003, [3, 8, 9, 10], [3]),
 (13100005, [1, 3, 29, 30, 31, 39, 40, 41, 42, 43, 44, 45, 46, 47, 48, 49, 50, 53, 54, 55, 58, 59, 60, 61, 69, 70], [2, 3]),
 (10000000002, [0, 1, 7, 8], [1, 4]),
 (13200002, [0, 5, 6, 7, 17, 18, 19, 20, 21, 22, 23, 24, 25, 26, 27, 28, 29, 32, 33, 34, 35, 36, 37, 38, 39, 40, 41, 42, 43], [0, 2]),
 (13300002, [0, 5, 6, 7, 16, 17, 18, 19, 22, 23, 24, 25, 26, 27, 28, 29], [0, 2]),
 (20900002, [0, 3, 17, 18, 19, 20, 21, 22], [0, 2]),
 (21000005, [1, 5, 12, 13, 14], [5]),
 (10000200002, [0, 1, 7, 8], [1, 4]),
 (13500002, [1, 6, 7, 8, 18, 19, 20, 21, 22, 23, 24, 25, 26, 27, 28, 29, 30, 31, 34, 35, 36, 37, 46, 47, 48, 49, 50, 51, 52], [1, 2]),
 (21300003, [3, 8, 9, 10], [3]),
 (21500003, [3, 6, 7, 8], [3]),
 (13600004, [1, 3, 4, 12, 13, 14, 40, 41, 42, 43, 44], [1, 2, 4]),
 (5600004, [1, 28, 29, 30, 43, 44], [1, 2, 43, 44]),
 (10000400002, [0, 1, 7, 8], [1, 4]),
 (30800003, [0, 1, 5, 10, 11], [5]),
 (31300003, [1, 5, 10, 11, 12], [5]),
 (31500002, [0, 1, 7, 8], [4]),
 (30900003, [2, 6, 8, 9, 15, 16, 17, 26, 27, 28, 29, 30, 31, 32, 33, 34], [6, 8, 9]),
 (28800002, [2, 3, 8, 9, 10, 20, 21, 22, 23, 24, 25, 26, 27], [4]),
 (29400002, [1, 2, 3, 7], [6]),
 (31100002, [1, 2, 6, 10, 11, 12, 21, 22, 23, 24], [6, 7]),
 (31000002, [1, 2, 3, 6, 8], [6, 7]),
 (27100002, [1, 7, 8, 9], [4]),
 (24100005, [1, 4, 17, 18, 19, 51, 52, 53, 54, 55, 56, 57, 60, 61, 62, 63, 64], [1, 2, 3, 4, 51, 52, 53, 54, 55, 56, 57, 60, 61, 62, 63, 64]),
 (24100008, [1, 4, 6, 17, 18, 19, 23, 24, 25, 51, 52, 53, 54, 55, 56, 57, 60, 61, 62, 63, 64], [1, 2, 3, 4, 17, 18, 19, 51, 52, 53, 54, 55, 56, 57, 60, 61, 62, 63, 64]),
 (24100015, [1, 4, 39, 40, 41, 51, 52, 53, 54, 55, 56, 57, 60, 61, 62, 63, 64], [2, 3]),
 (27200006, [0, 1, 6, 7, 23, 24], [6, 7]),
 (29900002, [1, 2, 3], [1, 2]),
 (11600003, [2, 4, 10], [2, 3, 4])]
def yxQ : List (Nat × List Nat × Nat) := [(250, [251], 100000), (211, [212], 100001), (252, [212], 100002), (211, [291], 100003), (252, [291], 100004)]
def ysU : List (Nat × List Nat) := [(245, [100007]), (127, [100007]), (227, [22]), (185, [25]), (259, [21]), (239, [2000000000003000001, 49]), (190, [2000000000010000011, 49, 1000037000999999, 1000049000038000, 1000050000015000, 1000050000015001, 1000050000000047, 1000050000000049, 1000082000999999, 1000086000999999, 87, 1000087000083000, 1000087000087000]), (257, [18]), (223, [21]), (289, [20]), (299, [40, 1000039000000026, 1000040000040000]), (274, [2000000000011000010, 1000038000999999, 1000080000999999, 1000084000999999, 85, 1000085000081000, 1000085000085000])]
def C : Ctx := { info := y9d ymC, sig := y9d yz1, live := fun f i => y9d ysT (100000 * f + i), key := ykK yxQ, fid := ykL yxQ, hint := yfU ysU }
theorem tok : TOk C Tryz.prog := yl0 (l := ymC) rfl (by kernel_rfl)
theorem ysV : Tryz.prog.follows .mixedOrders = true := by kernel_rfl
abbrev QF := Qf C Tryz.prog
abbrev EV (l : List QF) (lp : Lp) (n : Nat) (fn : Func) (sg : Sig) (ins outs : List Ty) (F : yB ins → Option (yB outs)) : Prop := ∀ x, yeo C (yhX l) lp n fn (Vo fn) sg ins outs x = F x
abbrev LF (l : List QF) (lp : Lp) (n i : Nat) (fn : Func) (k : Nat) {T V : Type} (e : T → St) (g : Gk T) (inj : V → T) : Prop := LC C (yhX l) lp n i (cL fn k) e g inj
abbrev LK (l : List QF) (lp : Lp) (n : Nat) (fn : Func) (k : Nat) : Prop := y1Y C (yhX l) lp n (cL fn k)
theorem okN {l : List QF} {lp : Lp} {f g : Nat} {fn : Func} {sg : Sig} {n : Nat} (hfn : Tryz.prog.funcs[g]? = some fn) (hl : ykZ (y1Y C (yhX l) lp f) (Zq (Vo fn)) n 0) {F : yB (C.ins f) → Option (yB (C.outs f))} (hF : ∀ x, yeo C (yhX l) lp f fn (Vo fn) sg (C.ins f) (C.outs f) x = F x) (hsig : C.sig f = some sg := by kernel_rfl) (hB : fnB C f g fn sg n = true := by kernel_rfl) : j6 C Tryz.prog f F := ysq tok ysV hfn hsig hB hl hF
theorem lkN {call : C.Sem} {lp : Lp} {f i : Nat} {c : Code} {T : Type} {e : T → St} {u : St → Option T} {g : Gk T} (hu : ∀ s t, u s = some t → e t = s) (hc : LC C call lp f i c e @g (fun t => t)) (hl : laB C f i c = true := by kernel_rfl) (hb : LB lp i u @g := by intro R κ s; kernel_rfl) : y1Y C call lp f c := yeU hl hu hb hc
end Go.Proofs.YtmapoakbdgpamaaGreat.XP
