/- The context of the evaluator for R: types, signatures, slots that live at loops; by a program (dec.py). No condition. -/
import Derived.Test.YtjllpipmaejeoaaGreatProg
import Derived.Test.YtjllpipmaejeoaaGreatRRow
import Derived.KernelRfl
set_option linter.all false
namespace Go.Proofs.YtjllpipmaejeoaaGreat.XR
open Go.Proofs.YtjllpipmaejeoaaGreat.R
set_option maxRecDepth 100000
abbrev wV : List Ty := [(.int .u8)]
abbrev y29 : Type := Int
abbrev yeY (xs : List y29) (i : Int) : y29 := rdE wV xs i
def yea (x : List y29) : A := .val (.sl 5 wV) x
abbrev yf : List Ty := [(.int .i64)]
abbrev yb : Type := Int
abbrev y1y : yb := V8 yf
abbrev zt (xs : List yb) (i : Int) : yb := rdE yf xs i
def z9 (x : List yb) : A := .val (.sl 3 yf) x
abbrev yg : List Ty := [(.int .i64), (.int .i64), (.int .i64), (.int .i64), (.int .i64)]
abbrev y7 : Type := Int × Int × Int × Int × Int
abbrev yH : y7 := V8 yg
abbrev y6 (xs : List y7) (i : Int) : y7 := rdE yg xs i
def VK (x : List y7) : A := .val (.sl 63 yg) x
abbrev yn : List Ty := [(.sl 63 yg)]
abbrev y9 : Type := List y7
abbrev yT : y9 := V8 yn
abbrev yl (xs : List y9) (i : Int) : y9 := rdE yn xs i
def Yg (x : List y9) : A := .val (.sl 58 yn) x
abbrev yj : List Ty := [(.sl 58 yn)]
abbrev y0 : Type := List y9
abbrev yi : y0 := V8 yj
abbrev yd (xs : List y0) (i : Int) : y0 := rdE yj xs i
def yA (x : List y0) : A := .val (.sl 99 yj) x
abbrev yp : List Ty := [(.int .i64), (.int .i64)]
abbrev ya : Type := Int × Int
abbrev zq : ya := V8 yp
abbrev yK (xs : List ya) (i : Int) : ya := rdE yp xs i
def zl (x : List ya) : A := .val (.sl 67 yp) x
abbrev ye : List Ty := [(.int .i64), .bool, (.int .i64)]
abbrev y8 : Type := Int × Bool × Int
abbrev yN : y8 := V8 ye
abbrev ym (xs : List y8) (i : Int) : y8 := rdE ye xs i
def yW (x : List y8) : A := .val (.sl 53 ye) x
abbrev yO : List Ty := [.str, (.int .i64), (.int .i64), .bool]
abbrev yh : Type := ByteArray × Int × Int × Bool
abbrev yD : yh := V8 yO
abbrev yc (xs : List yh) (i : Int) : yh := rdE yO xs i
def Y0 (x : List yh) : A := .val (.sl 41 yO) x
abbrev qF : List Ty := [.str]
abbrev Qz : Type := ByteArray
abbrev yeZ : Qz := V8 qF
abbrev yd0 (xs : List Qz) (i : Int) : Qz := rdE qF xs i
abbrev y3j : List Ty := [.bool]
abbrev yay : Type := Bool
abbrev yd1 : yay := V8 y3j
abbrev yd2 (xs : List yay) (i : Int) : yay := rdE y3j xs i
abbrev Qz0 : Type := List y29 × Int × Int
abbrev qz0 : List Ty := [(.sl 5 wV), (.int .i64), (.int .i64)]
abbrev Qz1 : Type := List y29 × Int
abbrev qz1 : List Ty := [(.sl 5 wV), (.int .i64)]
abbrev Qz2 : Type := Int × List y29 × Int × Int
abbrev qz2 : List Ty := [(.int .i64), (.sl 5 wV), (.int .i64), (.int .i64)]
abbrev Qz3 : Type := List y29 × Int × Int × Int
abbrev qz3 : List Ty := [(.sl 5 wV), (.int .i64), (.int .i64), (.int .i64)]
abbrev Qz4 : Type := List y29 × Int × Int × List yb
abbrev qz4 : List Ty := [(.sl 5 wV), (.int .i64), (.int .i64), (.sl 3 yf)]
abbrev Qz5 : Type := List y29 × Int × Int × List Qz
abbrev qz5 : List Ty := [(.sl 5 wV), (.int .i64), (.int .i64), (.sl 9 qF)]
abbrev Qz6 : Type := ByteArray × List y29 × Int × Int
abbrev qz6 : List Ty := [.str, (.sl 5 wV), (.int .i64), (.int .i64)]
abbrev Qz7 : Type := Int × ByteArray × ByteArray × Int × Int × List y29 × Int × Int
abbrev qz7 : List Ty := [(.int .i64), .str, .str, (.int .i64), (.int .i64), (.sl 5 wV), (.int .i64), (.int .i64)]
abbrev Qz8 : Type := List yb × List y0
abbrev qz8 : List Ty := [(.sl 3 yf), (.sl 99 yj)]
abbrev Qz9 : Type := List yb × List y0 × List ya × List y8 × List yh × Int
abbrev qz9 : List Ty := [(.sl 3 yf), (.sl 99 yj), (.sl 67 yp), (.sl 53 ye), (.sl 41 yO), (.int .i64)]
abbrev yqY : Type := Int × Int × Int
abbrev yqZ : List Ty := [(.int .i64), (.int .i64), (.int .i64)]
abbrev yqk : Type := ByteArray × Int
abbrev yql : List Ty := [.str, (.int .i64)]
abbrev yvG : Type := ByteArray × Bool
abbrev yvH : Type := Int × ByteArray × ByteArray × Int × Int
abbrev ygr : List Ty := [(.int .i64), .str, .str, (.int .i64), (.int .i64)]
abbrev yeb : Type := Int × Int × Int × Int × Int
abbrev vN : List Ty := [(.int .i64), (.int .i64), (.int .i64), (.int .i64), (.int .i64)]
abbrev yqm : Type := Int × Int × Int × Int × Int × Int × Int × Int × Int × Int
abbrev yqn : List Ty := [(.int .i64), (.int .i64), (.int .i64), (.int .i64), (.int .i64), (.int .i64), (.int .i64), (.int .i64), (.int .i64), (.int .i64)]
abbrev yqo : Type := List y7 × Int
abbrev yqp : List Ty := [(.sl 63 yg), (.int .i64)]
abbrev yvI : Type := List y7 × Bool
abbrev yvJ : Type := Int × Int × List y9
abbrev yvK : List Ty := [(.int .i64), (.int .i64), (.sl 58 yn)]
abbrev ygs : Type := Int × List y9
abbrev yqq : List Ty := [(.int .i64), (.sl 58 yn)]
abbrev yyi : Type := Bool × List y9
abbrev yqr : Type := List y7 × Int × List y7
abbrev yqs : List Ty := [(.sl 63 yg), (.int .i64), (.sl 63 yg)]
abbrev yvL : Type := List y7 × Bool × Int × Int × Int × Int × Int × Int × List y7
abbrev yvM : List Ty := [(.sl 63 yg), .bool, (.int .i64), (.int .i64), (.int .i64), (.int .i64), (.int .i64), (.int .i64), (.sl 63 yg)]
abbrev yvN : Type := Bool × Int × Int × Int × Int × Int × List y7
abbrev yvO : Type := List y7 × Int × Int × Int × Int × Int
abbrev yvP : List Ty := [(.sl 63 yg), (.int .i64), (.int .i64), (.int .i64), (.int .i64), (.int .i64)]
abbrev yr0 : Type := List y7 × List y7
abbrev yr1 : List Ty := [(.sl 63 yg), (.sl 63 yg)]
abbrev yvQ : Type := Int × List y9 × List y7
abbrev yvR : List Ty := [(.int .i64), (.sl 58 yn), (.sl 63 yg)]
abbrev ygt : Type := Int × Int
abbrev yhN : List Ty := [(.int .i64), (.int .i64)]
abbrev yvS : Type := Int × Int × Int × List yb × List y0 × List y9
abbrev yvT : List Ty := [(.int .i64), (.int .i64), (.int .i64), (.sl 3 yf), (.sl 99 yj), (.sl 58 yn)]
abbrev yyj : Type := Int × Bool × Int × List yb × List y0 × List y9
abbrev yr2 : Type := Int × Int × List yb × List y0 × List y9
abbrev yvU : List Ty := [(.int .i64), (.int .i64), (.sl 3 yf), (.sl 99 yj), (.sl 58 yn)]
abbrev ykA : Type := List yb × List y0 × Int
abbrev ykB : List Ty := [(.sl 3 yf), (.sl 99 yj), (.int .i64)]
abbrev yvV : Type := Int × List yb × List y0 × List y7
abbrev yvW : List Ty := [(.int .i64), (.sl 3 yf), (.sl 99 yj), (.sl 63 yg)]
abbrev y8x : Type := Int × List yb × List y0
abbrev yec : List Ty := [(.int .i64), (.sl 3 yf), (.sl 99 yj)]
abbrev yyk : Type := Bool × List yb × List y0
abbrev yr3 : Type := List ya × Int × Int
abbrev yr4 : List Ty := [(.sl 67 yp), (.int .i64), (.int .i64)]
abbrev yed : Type := List ya × Int
abbrev yee : List Ty := [(.sl 67 yp), (.int .i64)]
abbrev yqt : Type := List ya × Bool
abbrev yvX : List Ty := [(.sl 67 yp), .bool]
abbrev yk9 : Type := List y8 × Int
abbrev yka : List Ty := [(.sl 53 ye), (.int .i64)]
abbrev yvY : Type := List y8 × Bool
abbrev yvZ : Type := List ya × Int × Int × List yb
abbrev yw0 : List Ty := [(.sl 67 yp), (.int .i64), (.int .i64), (.sl 3 yf)]
abbrev yw1 : Type := Int × Int × List yb × List y0 × List ya × List y8 × List yh × Int × ByteArray × Int × Int × Bool
abbrev yw2 : List Ty := [(.int .i64), (.int .i64), (.sl 3 yf), (.sl 99 yj), (.sl 67 yp), (.sl 53 ye), (.sl 41 yO), (.int .i64), .str, (.int .i64), (.int .i64), .bool]
abbrev yr5 : Type := Bool × Int × List yb × List y0 × List ya × List y8 × List yh × Int
abbrev yef : Type := Int × List yb × List y0 × List ya × List y8 × List yh × Int
abbrev ykb : List Ty := [(.int .i64), (.sl 3 yf), (.sl 99 yj), (.sl 67 yp), (.sl 53 ye), (.sl 41 yO), (.int .i64)]
abbrev yf0 : Type := Bool × List yb × List y0 × List ya × List y8 × List yh × Int
abbrev ykC : List Ty := [.bool, (.sl 3 yf), (.sl 99 yj), (.sl 67 yp), (.sl 53 ye), (.sl 41 yO), (.int .i64)]
abbrev ykc : Type := List y8 × Int × Int
abbrev ykd : List Ty := [(.sl 53 ye), (.int .i64), (.int .i64)]
abbrev yw3 : Type := Int × Bool
abbrev yw4 : List Ty := [(.int .i64), .bool]
abbrev yr6 : Type := Int × Int × Int × List yb × List y0 × List ya × List y8 × List yh × Int × List y7
abbrev yw5 : List Ty := [(.int .i64), (.int .i64), (.int .i64), (.sl 3 yf), (.sl 99 yj), (.sl 67 yp), (.sl 53 ye), (.sl 41 yO), (.int .i64), (.sl 63 yg)]
abbrev yyl : Type := Bool × Int × Int × List yb × List y0 × List ya × List y8 × List yh × Int × List y7
abbrev yhO : Type := Int × Int × List yb × List y0 × List ya × List y8 × List yh × Int × List y7
abbrev yke : List Ty := [(.int .i64), (.int .i64), (.sl 3 yf), (.sl 99 yj), (.sl 67 yp), (.sl 53 ye), (.sl 41 yO), (.int .i64), (.sl 63 yg)]
abbrev yhP : Type := Int × List y9 × List y9
abbrev yqu : List Ty := [(.int .i64), (.sl 58 yn), (.sl 58 yn)]
abbrev ykD : Type := Int × List yb × List y0 × List yb
abbrev yw6 : List Ty := [(.int .i64), (.sl 3 yf), (.sl 99 yj), (.sl 3 yf)]
abbrev yhQ : Type := Int × List yb × List y0 × List yb × List y0
abbrev yqv : List Ty := [(.int .i64), (.sl 3 yf), (.sl 99 yj), (.sl 3 yf), (.sl 99 yj)]
abbrev ykE : Type := List yb × List y0 × List ya × List y8 × List yh × Int × ByteArray
abbrev ykF : List Ty := [(.sl 3 yf), (.sl 99 yj), (.sl 67 yp), (.sl 53 ye), (.sl 41 yO), (.int .i64), .str]
abbrev yw7 : Type := ByteArray × Int × List yb × List y0 × List ya × List y8 × List yh × Int
abbrev yw8 : List Ty := [.str, (.int .i64), (.sl 3 yf), (.sl 99 yj), (.sl 67 yp), (.sl 53 ye), (.sl 41 yO), (.int .i64)]
abbrev yw9 : Type := List ya × Int × Int × Bool × Int × List ya
abbrev ywa : List Ty := [(.sl 67 yp), (.int .i64), (.int .i64), .bool, (.int .i64), (.sl 67 yp)]
abbrev yym : Type := List ya × Int × Int × Bool × List ya
abbrev yr7 : Type := Int × ByteArray × Int × Int × Bool × List yh
abbrev ywb : List Ty := [(.int .i64), .str, (.int .i64), (.int .i64), .bool, (.sl 41 yO)]
abbrev yr8 : Type := List yh × ByteArray × Int × Int × Bool
abbrev yr9 : List Ty := [(.sl 41 yO), .str, (.int .i64), (.int .i64), .bool]
abbrev ywc : Type := List yb × List y0 × List ya × List y8 × List yh × Int × List yb × List y0 × List ya × List y8 × List yh × Int × Bool
abbrev ywd : List Ty := [(.sl 3 yf), (.sl 99 yj), (.sl 67 yp), (.sl 53 ye), (.sl 41 yO), (.int .i64), (.sl 3 yf), (.sl 99 yj), (.sl 67 yp), (.sl 53 ye), (.sl 41 yO), (.int .i64), .bool]
abbrev y7L : Type := List yb × List y0 × List ya × List y8 × List yh × Int × Int
abbrev y7M : List Ty := [(.sl 3 yf), (.sl 99 yj), (.sl 67 yp), (.sl 53 ye), (.sl 41 yO), (.int .i64), (.int .i64)]
abbrev ykf : Type := List yb × List y0 × List ya × List y8 × List yh × Int × ByteArray × Int
abbrev ykg : List Ty := [(.sl 3 yf), (.sl 99 yj), (.sl 67 yp), (.sl 53 ye), (.sl 41 yO), (.int .i64), .str, (.int .i64)]
abbrev yyn : Type := List yb × List y0 × List ya × List y8 × List yh × Int × ByteArray × ByteArray × Bool
abbrev yyo : List Ty := [(.sl 3 yf), (.sl 99 yj), (.sl 67 yp), (.sl 53 ye), (.sl 41 yO), (.int .i64), .str, .str, .bool]
abbrev ywe : Type := List y8 × Int × Int × List y8
abbrev ywf : List Ty := [(.sl 53 ye), (.int .i64), (.int .i64), (.sl 53 ye)]
abbrev yyp : Type := Int × Bool × List y8
abbrev ywg : Type := List y8 × Int × Bool
abbrev ywh : List Ty := [(.sl 53 ye), (.int .i64), .bool]
abbrev ywi : Type := Int × Int × Int × Int × List yb × List y0
abbrev ywj : List Ty := [(.int .i64), (.int .i64), (.int .i64), (.int .i64), (.sl 3 yf), (.sl 99 yj)]
abbrev yqw : Type := List yb × List y0 × Int × Int
abbrev yqx : List Ty := [(.sl 3 yf), (.sl 99 yj), (.int .i64), (.int .i64)]
abbrev ywk : Type := List y7 × Int × Int × Int × Int × Int × Int × Int × Int
abbrev ywl : List Ty := [(.sl 63 yg), (.int .i64), (.int .i64), (.int .i64), (.int .i64), (.int .i64), (.int .i64), (.int .i64), (.int .i64)]
abbrev yqy : Type := Bool × Int × Int × Int × Int × Int
abbrev ywm : Type := List y7 × Int × Int
abbrev ywn : List Ty := [(.sl 63 yg), (.int .i64), (.int .i64)]
abbrev yce : Type := Int × Int × Int × Int × Int × Bool
abbrev ycf : List Ty := [(.int .i64), (.int .i64), (.int .i64), (.int .i64), (.int .i64), .bool]
abbrev yqz : Type := Int × Int × Int × List y9 × Int × Int × Int × Int × Int
abbrev yqA : List Ty := [(.int .i64), (.int .i64), (.int .i64), (.sl 58 yn), (.int .i64), (.int .i64), (.int .i64), (.int .i64), (.int .i64)]
abbrev yhR : Type := List y9 × Int × Int
abbrev yqB : List Ty := [(.sl 58 yn), (.int .i64), (.int .i64)]
abbrev yra : Type := List y9 × Int × Int × Int × Int × Int
abbrev yrb : List Ty := [(.sl 58 yn), (.int .i64), (.int .i64), (.int .i64), (.int .i64), (.int .i64)]
abbrev ywo : Type := List y9 × Bool
abbrev ywp : List Ty := [(.sl 58 yn), .bool]
abbrev yyq : Type := List yb × List y0 × Int × List yb × List y0
abbrev yyr : List Ty := [(.sl 3 yf), (.sl 99 yj), (.int .i64), (.sl 3 yf), (.sl 99 yj)]
abbrev ywq : Type := List yb × List y0 × Int × Int × Int × Int × Int
abbrev ywr : List Ty := [(.sl 3 yf), (.sl 99 yj), (.int .i64), (.int .i64), (.int .i64), (.int .i64), (.int .i64)]
abbrev yws : Type := List yb × List y0 × Bool
abbrev ywt : List Ty := [(.sl 3 yf), (.sl 99 yj), .bool]
abbrev yys : Type := List yb × List y0 × List ya × List y8 × List yh × Int × Int × Int × Int × Int × Int × Bool
abbrev yyt : List Ty := [(.sl 3 yf), (.sl 99 yj), (.sl 67 yp), (.sl 53 ye), (.sl 41 yO), (.int .i64), (.int .i64), (.int .i64), (.int .i64), (.int .i64), (.int .i64), .bool]
abbrev ykG : Type := List yb × List y0 × List ya × List y8 × List yh × Int × Int × Int × Int × Int × Int
abbrev ykH : List Ty := [(.sl 3 yf), (.sl 99 yj), (.sl 67 yp), (.sl 53 ye), (.sl 41 yO), (.int .i64), (.int .i64), (.int .i64), (.int .i64), (.int .i64), (.int .i64)]
abbrev ywu : Type := List yb × List y0 × List ya × List y8 × List yh × Int × ByteArray × Int × Int
abbrev ywv : List Ty := [(.sl 3 yf), (.sl 99 yj), (.sl 67 yp), (.sl 53 ye), (.sl 41 yO), (.int .i64), .str, (.int .i64), (.int .i64)]
abbrev yww : Type := List ya × Int × List yb
abbrev ywx : List Ty := [(.sl 67 yp), (.int .i64), (.sl 3 yf)]
abbrev ywy : Type := Int × Int × List y7 × List y7
abbrev ywz : List Ty := [(.int .i64), (.int .i64), (.sl 63 yg), (.sl 63 yg)]
abbrev ywA : Type := List yb × Int × Int
abbrev ywB : List Ty := [(.sl 3 yf), (.int .i64), (.int .i64)]
abbrev yrc : Type := List yb × Int
abbrev yrd : List Ty := [(.sl 3 yf), (.int .i64)]
abbrev ywC : Type := List yb × Bool × Int × Int × Int × Int × Int × Int × Int × Int × Int × Int × Int × List y7
abbrev ywD : List Ty := [(.sl 3 yf), .bool, (.int .i64), (.int .i64), (.int .i64), (.int .i64), (.int .i64), (.int .i64), (.int .i64), (.int .i64), (.int .i64), (.int .i64), (.int .i64), (.sl 63 yg)]
abbrev ywE : Type := Bool × Int × Int × Int × Int × Int × Int × Int × Int × Int × Int
abbrev ywF : Type := List yb × List y0 × Int × List yb
abbrev ywG : List Ty := [(.sl 3 yf), (.sl 99 yj), (.int .i64), (.sl 3 yf)]
abbrev yqC : Type := List yb × List y0 × List ya × Int × Int
abbrev yqD : List Ty := [(.sl 3 yf), (.sl 99 yj), (.sl 67 yp), (.int .i64), (.int .i64)]
abbrev yre : Type := List yb × List y0 × List ya × List y8 × List yh × Int × Int × Int
abbrev yrf : List Ty := [(.sl 3 yf), (.sl 99 yj), (.sl 67 yp), (.sl 53 ye), (.sl 41 yO), (.int .i64), (.int .i64), (.int .i64)]
abbrev ykI : Type := Int × Int × Bool × Int × List yb × List y0 × List ya × List y8 × List yh × Int × Int × Int × List yb × List y0 × List ya × List y8 × List yh
abbrev ywH : List Ty := [(.int .i64), (.int .i64), .bool, (.int .i64), (.sl 3 yf), (.sl 99 yj), (.sl 67 yp), (.sl 53 ye), (.sl 41 yO), (.int .i64), (.int .i64), (.int .i64), (.sl 3 yf), (.sl 99 yj), (.sl 67 yp), (.sl 53 ye), (.sl 41 yO)]
abbrev ykJ : Type := Int × Int × Bool × Int × List yb × List y0 × List ya × List y8 × List yh × Int × Int × List yb × List y0 × List ya × Int × List y8 × List yh
abbrev ywI : List Ty := [(.int .i64), (.int .i64), .bool, (.int .i64), (.sl 3 yf), (.sl 99 yj), (.sl 67 yp), (.sl 53 ye), (.sl 41 yO), (.int .i64), (.int .i64), (.sl 3 yf), (.sl 99 yj), (.sl 67 yp), (.int .i64), (.sl 53 ye), (.sl 41 yO)]
abbrev yyu : Type := Int × Int × Bool × List yb × List y0 × List ya × List y8 × List yh × Int × Int × Int × List yb × List y0 × List ya × List y8 × List yh
abbrev yyv : Type := Int × Int × Bool × List yb × List y0 × List ya × List y8 × List yh × Int × Int × List yb × List y0 × List ya × Int × List y8 × List yh
abbrev yyw : Type := List yb × List y0 × List ya × Int × Int × Int × Int × Int × Int
abbrev yyx : List Ty := [(.sl 3 yf), (.sl 99 yj), (.sl 67 yp), (.int .i64), (.int .i64), (.int .i64), (.int .i64), (.int .i64), (.int .i64)]
abbrev ywJ : Type := Int × List yb × List y0 × List ya × List y8 × List yh × Int × Int × Int × Int × Int × Int
abbrev ywK : List Ty := [(.int .i64), (.sl 3 yf), (.sl 99 yj), (.sl 67 yp), (.sl 53 ye), (.sl 41 yO), (.int .i64), (.int .i64), (.int .i64), (.int .i64), (.int .i64), (.int .i64)]
abbrev yrg : Type := Int × Int × List yb × List y0 × List ya × List y8 × List yh × Int
abbrev ywL : List Ty := [(.int .i64), (.int .i64), (.sl 3 yf), (.sl 99 yj), (.sl 67 yp), (.sl 53 ye), (.sl 41 yO), (.int .i64)]
abbrev yyy : Type := List yb × List y0 × List ya × List y8 × List yh × Int × Int × Int × Int × Int × Int × Int
abbrev yyz : List Ty := [(.sl 3 yf), (.sl 99 yj), (.sl 67 yp), (.sl 53 ye), (.sl 41 yO), (.int .i64), (.int .i64), (.int .i64), (.int .i64), (.int .i64), (.int .i64), (.int .i64)]
abbrev yyA : Type := Int × Bool × List yb × List y0 × List ya × List y8 × List yh × Int
abbrev yhS : Type := Int × List yb × List y0 × List ya × List y8 × List yh × Int × List y7
abbrev ykK : List Ty := [(.int .i64), (.sl 3 yf), (.sl 99 yj), (.sl 67 yp), (.sl 53 ye), (.sl 41 yO), (.int .i64), (.sl 63 yg)]
abbrev ykL : Type := List ya × Int × Int × Int × List ya
abbrev ykM : List Ty := [(.sl 67 yp), (.int .i64), (.int .i64), (.int .i64), (.sl 67 yp)]
abbrev yf1 : Type := List yb × List y0 × List ya × List y8 × List yh × Int × Bool
abbrev yf2 : List Ty := [(.sl 3 yf), (.sl 99 yj), (.sl 67 yp), (.sl 53 ye), (.sl 41 yO), (.int .i64), .bool]
abbrev ykN : Type := Int × Int × Int × Int × Int × Int × Int × List y7
abbrev ykO : List Ty := [(.int .i64), (.int .i64), (.int .i64), (.int .i64), (.int .i64), (.int .i64), (.int .i64), (.sl 63 yg)]
abbrev yhT : Type := List yb × List y0 × List ya × List y8 × List yh × Int × Int × ByteArray × ByteArray × Int × Int
abbrev yhU : List Ty := [(.sl 3 yf), (.sl 99 yj), (.sl 67 yp), (.sl 53 ye), (.sl 41 yO), (.int .i64), (.int .i64), .str, .str, (.int .i64), (.int .i64)]
abbrev yd3 : Type := Int × List y29 × Int × Int × Int × Int × List yb × List y0 × List ya × List y8 × List yh
abbrev ykP : List Ty := [(.int .i64), (.sl 5 wV), (.int .i64), (.int .i64), (.int .i64), (.int .i64), (.sl 3 yf), (.sl 99 yj), (.sl 67 yp), (.sl 53 ye), (.sl 41 yO)]
abbrev yd4 : Type := Int × List y29 × Int × Int × Int × List yb × List y0 × List ya × Int × List y8 × List yh
abbrev ykQ : List Ty := [(.int .i64), (.sl 5 wV), (.int .i64), (.int .i64), (.int .i64), (.sl 3 yf), (.sl 99 yj), (.sl 67 yp), (.int .i64), (.sl 53 ye), (.sl 41 yO)]
abbrev yrh : Type := List y29 × Int × Int × Int × Int × List yb × List y0 × List ya × List y8 × List yh
abbrev yri : Type := List y29 × Int × Int × Int × List yb × List y0 × List ya × Int × List y8 × List yh
abbrev yrj : Type := List yb × List y0 × List ya × List y8 × List yh × Int × List y29 × Int × Int
abbrev yrk : List Ty := [(.sl 3 yf), (.sl 99 yj), (.sl 67 yp), (.sl 53 ye), (.sl 41 yO), (.int .i64), (.sl 5 wV), (.int .i64), (.int .i64)]
abbrev ykR : Type := Bool × List y7 × Int × Int × Int × Int × Int × Int × Int × List y7
abbrev ykS : List Ty := [.bool, (.sl 63 yg), (.int .i64), (.int .i64), (.int .i64), (.int .i64), (.int .i64), (.int .i64), (.int .i64), (.sl 63 yg)]
abbrev yf3 : Type := List y7 × Int × Int × List y7
abbrev yf4 : List Ty := [(.sl 63 yg), (.int .i64), (.int .i64), (.sl 63 yg)]
abbrev ykT : Type := List y9 × Int × Int × List y7
abbrev ykU : List Ty := [(.sl 58 yn), (.int .i64), (.int .i64), (.sl 63 yg)]
abbrev ykV : Type := List y7 × List y7 × Int × Int
abbrev ykW : List Ty := [(.sl 63 yg), (.sl 63 yg), (.int .i64), (.int .i64)]
abbrev ykX : Type := Int × List y9 × Int × Int × List y9
abbrev ykY : List Ty := [(.int .i64), (.sl 58 yn), (.int .i64), (.int .i64), (.sl 58 yn)]
abbrev yrl : Type := Bool × Int × List y9
abbrev ykZ : Type := Int × List y9 × Int × Int × List y7 × Int × Int × List yb × List y0
abbrev yl0 : List Ty := [(.int .i64), (.sl 58 yn), (.int .i64), (.int .i64), (.sl 63 yg), (.int .i64), (.int .i64), (.sl 3 yf), (.sl 99 yj)]
abbrev yrm : Type := Int × Bool × List y9 × Int × Int × List yb × List y0
abbrev yhV : Type := Int × List y9 × Int × Int × List yb × List y0
abbrev yl1 : List Ty := [(.int .i64), (.sl 58 yn), (.int .i64), (.int .i64), (.sl 3 yf), (.sl 99 yj)]
abbrev yl2 : Type := Int × List y0 × Int × Int × List yb × List y0
abbrev yl3 : List Ty := [(.int .i64), (.sl 99 yj), (.int .i64), (.int .i64), (.sl 3 yf), (.sl 99 yj)]
abbrev yl4 : Type := Bool × Int
abbrev yrn : List Ty := [.bool, (.int .i64)]
abbrev yl5 : Type := List ya × Int × Int × Int
abbrev yl6 : List Ty := [(.sl 67 yp), (.int .i64), (.int .i64), (.int .i64)]
abbrev yl7 : Type := List ya × List ya × Int × Int
abbrev yl8 : List Ty := [(.sl 67 yp), (.sl 67 yp), (.int .i64), (.int .i64)]
abbrev yl9 : Type := List y8 × List y8 × Int × Int
abbrev yla : List Ty := [(.sl 53 ye), (.sl 53 ye), (.int .i64), (.int .i64)]
abbrev ylb : Type := Int × List ya × Int × Int × List yb
abbrev ylc : List Ty := [(.int .i64), (.sl 67 yp), (.int .i64), (.int .i64), (.sl 3 yf)]
abbrev yro : Type := ByteArray × Int × Int × Bool × ByteArray × Int × Int × Bool
abbrev yrp : List Ty := [.str, (.int .i64), (.int .i64), .bool, .str, (.int .i64), (.int .i64), .bool]
abbrev yld : Type := Bool × ByteArray × Int × Int × Bool
abbrev yle : List Ty := [.bool, .str, (.int .i64), (.int .i64), .bool]
abbrev ylf : Type := List yh × Int × Int × ByteArray × Int × Int × Bool
abbrev ylg : List Ty := [(.sl 41 yO), (.int .i64), (.int .i64), .str, (.int .i64), (.int .i64), .bool]
abbrev ylh : Type := Int × ByteArray × Int × Int × Bool
abbrev yrq : List Ty := [(.int .i64), .str, (.int .i64), (.int .i64), .bool]
abbrev yrr : Type := ByteArray × Int × Int × Bool
abbrev ybQ : List Ty := [.str, (.int .i64), (.int .i64), .bool]
abbrev yli : Type := List yh × Int × Int × List yb × List y0 × List ya × List y8 × List yh × Int
abbrev ylj : List Ty := [(.sl 41 yO), (.int .i64), (.int .i64), (.sl 3 yf), (.sl 99 yj), (.sl 67 yp), (.sl 53 ye), (.sl 41 yO), (.int .i64)]
abbrev ylk : Type := Int × List y8 × Int × Int
abbrev yll : List Ty := [(.int .i64), (.sl 53 ye), (.int .i64), (.int .i64)]
abbrev ylm : Type := List y0 × Int × Int × List y7
abbrev yln : List Ty := [(.sl 99 yj), (.int .i64), (.int .i64), (.sl 63 yg)]
abbrev ylo : Type := Int × Int × Int × List yb × List y0 × List ya × List y8 × List yh × Int × List yay × List y7
abbrev ylp : List Ty := [(.int .i64), (.int .i64), (.int .i64), (.sl 3 yf), (.sl 99 yj), (.sl 67 yp), (.sl 53 ye), (.sl 41 yO), (.int .i64), (.sl 4 y3j), (.sl 63 yg)]
abbrev ylq : Type := List ya × Int × Int × List yb × List y0 × List ya × List y8 × List yh × Int
abbrev ylr : List Ty := [(.sl 67 yp), (.int .i64), (.int .i64), (.sl 3 yf), (.sl 99 yj), (.sl 67 yp), (.sl 53 ye), (.sl 41 yO), (.int .i64)]
abbrev yrs : Type := ByteArray × Int × Int × Bool × ByteArray
abbrev yrt : List Ty := [.str, (.int .i64), (.int .i64), .bool, .str]
abbrev yru : Type := Bool × ByteArray
abbrev yrv : List Ty := [.bool, .str]
abbrev yls : Type := List yh × Int × Int × ByteArray
abbrev ylt : List Ty := [(.sl 41 yO), (.int .i64), (.int .i64), .str]
abbrev ylu : Type := Int × ByteArray
abbrev yrw : List Ty := [(.int .i64), .str]
abbrev yrx : Type := List yh × ByteArray
abbrev yry : List Ty := [(.sl 41 yO), .str]
abbrev yrz : Type := List yb × List y0 × List ya × List y8 × List yh × Int × ByteArray × Int × Bool
abbrev yrA : List Ty := [(.sl 3 yf), (.sl 99 yj), (.sl 67 yp), (.sl 53 ye), (.sl 41 yO), (.int .i64), .str, (.int .i64), .bool]
abbrev ylv : Type := Int × Int × Int × List y7 × List y7
abbrev ylw : List Ty := [(.int .i64), (.int .i64), (.int .i64), (.sl 63 yg), (.sl 63 yg)]
abbrev ylx : Type := List yb × Int × Int × Int
abbrev yly : List Ty := [(.sl 3 yf), (.int .i64), (.int .i64), (.int .i64)]
abbrev ylz : Type := List yb × Bool × Int × Int × Int × Int × Int × Int × Int × Int × Int × Int × Int × Int × List y7
abbrev ylA : List Ty := [(.sl 3 yf), .bool, (.int .i64), (.int .i64), (.int .i64), (.int .i64), (.int .i64), (.int .i64), (.int .i64), (.int .i64), (.int .i64), (.int .i64), (.int .i64), (.int .i64), (.sl 63 yg)]
abbrev ylB : Type := List ya × Int × Int × Int × List yb
abbrev ylC : List Ty := [(.sl 67 yp), (.int .i64), (.int .i64), (.int .i64), (.sl 3 yf)]
abbrev yd5 : Type := List y9 × Int × Int × List y9
abbrev ylD : List Ty := [(.sl 58 yn), (.int .i64), (.int .i64), (.sl 58 yn)]
abbrev yd6 : Type := List y0 × Int × Int × List yb
abbrev ylE : List Ty := [(.sl 99 yj), (.int .i64), (.int .i64), (.sl 3 yf)]
abbrev yd7 : Type := List y0 × Int × Int × List yb × List y0
abbrev ylF : List Ty := [(.sl 99 yj), (.int .i64), (.int .i64), (.sl 3 yf), (.sl 99 yj)]
abbrev ylG : Type := Int × Int × Int × List yb × List y0
abbrev ylH : List Ty := [(.int .i64), (.int .i64), (.int .i64), (.sl 3 yf), (.sl 99 yj)]
abbrev ylI : Type := Int × Int × List y7 × Int × Int × Int × Int × Int × Int × Int
abbrev ylJ : List Ty := [(.int .i64), (.int .i64), (.sl 63 yg), (.int .i64), (.int .i64), (.int .i64), (.int .i64), (.int .i64), (.int .i64), (.int .i64)]
abbrev yrB : Type := List yb × List y0 × Int × Int × List yb × List y0
abbrev yrC : List Ty := [(.sl 3 yf), (.sl 99 yj), (.int .i64), (.int .i64), (.sl 3 yf), (.sl 99 yj)]
abbrev ylK : Type := List yb × List yb × Int
abbrev ylL : List Ty := [(.sl 3 yf), (.sl 3 yf), (.int .i64)]
abbrev yrD : Type := List yb × List yb
abbrev yrE : List Ty := [(.sl 3 yf), (.sl 3 yf)]
abbrev ylM : Type := List y7 × List y7 × Int
abbrev ylN : List Ty := [(.sl 63 yg), (.sl 63 yg), (.int .i64)]
abbrev yrF : Type := List y9 × List y9
abbrev yrG : List Ty := [(.sl 58 yn), (.sl 58 yn)]
abbrev yrH : Type := List yb × List y0 × List yb × List y0
abbrev yrI : List Ty := [(.sl 3 yf), (.sl 99 yj), (.sl 3 yf), (.sl 99 yj)]
abbrev ylO : Type := List ya × List ya × Int
abbrev ylP : List Ty := [(.sl 67 yp), (.sl 67 yp), (.int .i64)]
abbrev yrJ : Type := List ya × List ya
abbrev yrK : List Ty := [(.sl 67 yp), (.sl 67 yp)]
abbrev ylQ : Type := List y8 × List y8 × Int
abbrev ylR : List Ty := [(.sl 53 ye), (.sl 53 ye), (.int .i64)]
abbrev yrL : Type := List y8 × List y8
abbrev yrM : List Ty := [(.sl 53 ye), (.sl 53 ye)]
abbrev ylS : Type := Int × List yb × List y0 × List ya × List y8 × List yh × Int × List yb × List y0 × List ya × List y8 × List yh × Int
abbrev ylT : List Ty := [(.int .i64), (.sl 3 yf), (.sl 99 yj), (.sl 67 yp), (.sl 53 ye), (.sl 41 yO), (.int .i64), (.sl 3 yf), (.sl 99 yj), (.sl 67 yp), (.sl 53 ye), (.sl 41 yO), (.int .i64)]
abbrev yrN : Type := List yb × List y0 × List ya × List y8 × List yh × Int × List yb × List y0 × List ya × List y8 × List yh × Int
abbrev yrO : List Ty := [(.sl 3 yf), (.sl 99 yj), (.sl 67 yp), (.sl 53 ye), (.sl 41 yO), (.int .i64), (.sl 3 yf), (.sl 99 yj), (.sl 67 yp), (.sl 53 ye), (.sl 41 yO), (.int .i64)]
abbrev ylU : Type := List y29 × Int × Int × Int × Int × List yb × List y0 × List ya × List y8 × List yh × Int × ByteArray × Int × Int × Bool × List yb × List y0 × List ya × List y8 × List yh × Int
abbrev ylV : List Ty := [(.sl 5 wV), (.int .i64), (.int .i64), (.int .i64), (.int .i64), (.sl 3 yf), (.sl 99 yj), (.sl 67 yp), (.sl 53 ye), (.sl 41 yO), (.int .i64), .str, (.int .i64), (.int .i64), .bool, (.sl 3 yf), (.sl 99 yj), (.sl 67 yp), (.sl 53 ye), (.sl 41 yO), (.int .i64)]
abbrev yrP : Type := List y29 × Bool × Int × Int × Int × List yb × List y0 × List ya × List y8 × List yh × Int × ByteArray × Int × Int × Bool × List yb × List y0 × List ya × List y8 × List yh × Int
abbrev yhW : Type := List y29 × Int × Int × Int × List yb × List y0 × List ya × List y8 × List yh × Int × ByteArray × Int × Int × Bool × List yb × List y0 × List ya × List y8 × List yh × Int
abbrev ylW : List Ty := [(.sl 5 wV), (.int .i64), (.int .i64), (.int .i64), (.sl 3 yf), (.sl 99 yj), (.sl 67 yp), (.sl 53 ye), (.sl 41 yO), (.int .i64), .str, (.int .i64), (.int .i64), .bool, (.sl 3 yf), (.sl 99 yj), (.sl 67 yp), (.sl 53 ye), (.sl 41 yO), (.int .i64)]
abbrev yrQ : Type := Bool × Int × ByteArray × Int × Int × Bool × List yb × List y0 × List ya × List y8 × List yh × Int
abbrev yrR : Type := Int × ByteArray × Int × Int × Bool × List yb × List y0 × List ya × List y8 × List yh × Int
def ylX : List (Nat × TI) := [
 (3, .c (.int .i64) 8),
 (4, .c (.bool) 1),
 (5, .c (.int .u8) 1),
 (9, .c (.str) 16),
 (22, .c (.sl 5 wV) 24),
 (24, .c (.sl 3 yf) 24),
 (25, .c (.sl 99 yj) 24),
 (27, .s [(0, 24), (1, 25)] [(.sl 3 yf), (.sl 99 yj)] 48),
 (28, .c (.sl 67 yp) 24),
 (29, .c (.sl 53 ye) 24),
 (30, .c (.sl 41 yO) 24),
 (32, .s [(0, 27), (2, 28), (3, 29), (4, 30), (5, 3)] [(.sl 3 yf), (.sl 99 yj), (.sl 67 yp), (.sl 53 ye), (.sl 41 yO), (.int .i64)] 128),
 (34, .s [(0, 3), (1, 9), (2, 9), (3, 3), (4, 3)] [(.int .i64), .str, .str, (.int .i64), (.int .i64)] 56),
 (41, .s [(0, 9), (1, 3), (2, 3), (3, 4)] [.str, (.int .i64), (.int .i64), .bool] 40),
 (53, .s [(0, 3), (1, 4), (2, 3)] [(.int .i64), .bool, (.int .i64)] 24),
 (58, .c (.sl 63 yg) 24),
 (63, .s [(0, 3), (1, 3), (2, 3), (3, 3), (4, 3)] [(.int .i64), (.int .i64), (.int .i64), (.int .i64), (.int .i64)] 40),
 (67, .s [(0, 3), (1, 3)] [(.int .i64), (.int .i64)] 16),
 (97, .c (.sl 58 yn) 24),
 (99, .s [(0, 97)] [(.sl 58 yn)] 24),
 (106, .s [(0, 22), (1, 3), (2, 3)] [(.sl 5 wV), (.int .i64), (.int .i64)] 40),
 (112, .c (.sl 9 qF) 24),
 (139, .c (.sl 4 y3j) 24)]
def sg7 : Sig := ⟨[.v false [(.sl 5 wV)] [false]], [⟨false, [.bool], [false]⟩], false, false⟩
def ywM : Sig := ⟨[.v false [(.sl 5 wV)] [false]], [⟨true, qz0, (nf 3)⟩], true, false⟩
def ylY : Sig := ⟨[.p none qz0 (nf 3)], [⟨false, [(.int .i64)], [false]⟩], false, false⟩
def ywN : Sig := ⟨[.p none qz0 (nf 3), .v false [(.int .i64)] [false]], [⟨false, [(.int .i64)], [false]⟩], false, false⟩
def ywO : Sig := ⟨[.p none qz0 (nf 3), .v false [(.sl 3 yf)] [false]], [⟨false, [(.int .i64)], [false]⟩], false, false⟩
def ywP : Sig := ⟨[.p none qz0 (nf 3), .v false [(.sl 9 qF)] [false]], [⟨false, [.str], [false]⟩], false, false⟩
def ywQ : Sig := ⟨[.p none qz0 (nf 3)], [⟨false, [.str], [false]⟩], false, false⟩
def ywR : Sig := ⟨[.p none qz0 (nf 3)], [⟨false, [(.int .i64)], [false]⟩], false, false⟩
def ywS : Sig := ⟨[.p none qz0 (nf 3)], [⟨true, ygr, (nf 5)⟩], false, false⟩
def ylZ : Sig := ⟨[], [⟨true, qz8, [true, true]⟩], false, false⟩
def ym0 : Sig := ⟨[], [⟨false, [(.sl 53 ye)], [true]⟩], false, false⟩
def ywT : Sig := ⟨[], [⟨true, qz9, [true, true, true, true, true, false]⟩], false, false⟩
def ym1 : Sig := ⟨[.v false [(.int .i64)] [false], .v false [(.int .i64)] [false], .v false [(.int .i64)] [false]], [⟨false, [.bool], [false]⟩], false, false⟩
def ym2 : Sig := ⟨[.v false [.str] [false]], [⟨false, [.bool], [false]⟩], false, false⟩
def ym3 : Sig := ⟨[.v false [(.int .i64)] [false]], [⟨false, [.bool], [false]⟩], false, false⟩
def ym4 : Sig := ⟨[.v true ygr (nf 5)], [⟨false, [.bool], [false]⟩], false, false⟩
def ym5 : Sig := ⟨[.v true ygr (nf 5)], [⟨false, [.bool], [false]⟩], false, false⟩
def ym6 : Sig := ⟨[.v true vN (nf 5)], [⟨false, [.bool], [false]⟩], false, false⟩
def ym7 : Sig := ⟨[.v true vN (nf 5), .v true vN (nf 5)], [⟨false, [.bool], [false]⟩], false, false⟩
def ym8 : Sig := ⟨[.v false [(.sl 63 yg)] [false]], [⟨false, [.bool], [false]⟩], false, false⟩
def ym9 : Sig := ⟨[.v false [(.sl 63 yg)] [false]], [⟨false, [.bool], [false]⟩], false, false⟩
def yma : Sig := ⟨[.v true [(.sl 58 yn)] [false]], [⟨false, [(.int .i64)], [false]⟩], false, false⟩
def ymb : Sig := ⟨[.v true [(.sl 58 yn)] [false]], [⟨false, [.bool], [false]⟩], false, false⟩
def ymc : Sig := ⟨[.v false [(.sl 63 yg)] [false]], [⟨false, [(.sl 63 yg)], [true]⟩], false, false⟩
def ymd : Sig := ⟨[.v true vN (nf 5), .v true vN (nf 5)], [⟨false, [.bool], [false]⟩], false, false⟩
def yme : Sig := ⟨[.v false [(.sl 63 yg)] [false], .v true vN (nf 5)], [⟨false, [(.sl 63 yg)], [true]⟩], false, false⟩
def ymf : Sig := ⟨[.v false [(.sl 63 yg)] [false], .v false [(.sl 63 yg)] [false]], [⟨false, [(.sl 63 yg)], [true]⟩], false, false⟩
def ymg : Sig := ⟨[.v true [(.sl 58 yn)] [false]], [⟨false, [(.sl 63 yg)], [true]⟩], false, false⟩
def ymh : Sig := ⟨[.v false [(.int .i64)] [false], .v false [(.int .i64)] [false]], [⟨false, [(.int .i64)], [false]⟩], false, false⟩
def ymi : Sig := ⟨[.v true vN (nf 5)], [⟨false, [(.int .i64)], [false]⟩], false, false⟩
def ymj : Sig := ⟨[.v true qz8 [false, false], .v false [(.int .i64)] [false]], [⟨false, [.bool], [false]⟩], false, false⟩
def ymk : Sig := ⟨[.v true qz8 [false, false]], [⟨false, [(.sl 63 yg)], [true]⟩], false, false⟩
def yml : Sig := ⟨[.v true qz8 [false, false]], [⟨false, [.bool], [false]⟩], false, false⟩
def ymm : Sig := ⟨[.v false [(.sl 67 yp)] [false], .v false [(.int .i64)] [false]], [⟨false, [(.int .i64)], [false]⟩], false, false⟩
def ymn : Sig := ⟨[.v false [(.sl 67 yp)] [false]], [⟨false, [.bool], [false]⟩], false, false⟩
def ymo : Sig := ⟨[.v false [(.sl 53 ye)] [false]], [⟨false, [.bool], [false]⟩], false, false⟩
def ymp : Sig := ⟨[.v false [(.sl 67 yp)] [false], .v false [(.int .i64)] [false]], [⟨false, [(.sl 3 yf)], [true]⟩], false, false⟩
def ymq : Sig := ⟨[.v true qz9 (nf 6)], [⟨false, [.bool], [false]⟩], false, false⟩
def ymr : Sig := ⟨[.v false [(.sl 53 ye)] [false], .v false [(.int .i64)] [false], .v false [(.int .i64)] [false]], [⟨false, [(.int .i64)], [false]⟩, ⟨false, [.bool], [false]⟩], false, false⟩
def yms : Sig := ⟨[.v false [(.sl 53 ye)] [false]], [⟨false, [(.int .i64)], [false]⟩], false, false⟩
def ymt : Sig := ⟨[.v true qz9 (nf 6)], [⟨false, [.bool], [false]⟩], false, false⟩
def ymu : Sig := ⟨[.v true qz9 (nf 6)], [⟨false, [.bool], [false]⟩], false, false⟩
def ymv : Sig := ⟨[.v true [(.sl 58 yn)] [false]], [⟨true, [(.sl 58 yn)], [true]⟩], false, false⟩
def ymw : Sig := ⟨[.v true qz8 [false, false]], [⟨true, qz8, [true, true]⟩], false, false⟩
def ymx : Sig := ⟨[.v false [(.sl 53 ye)] [false]], [⟨false, [(.sl 53 ye)], [true]⟩], false, false⟩
def ymy : Sig := ⟨[.v true qz9 (nf 6)], [⟨true, qz9, [true, true, true, true, true, false]⟩], false, false⟩
def ymz : Sig := ⟨[.v true qz9 (nf 6), .v false [.str] [false]], [⟨false, [(.int .i64)], [false]⟩], false, false⟩
def ymA : Sig := ⟨[.v true qz9 (nf 6), .v false [.str] [false]], [⟨false, [(.int .i64)], [false]⟩], false, false⟩
def ymB : Sig := ⟨[.v false [(.sl 67 yp)] [false], .v false [(.int .i64)] [false], .v false [(.int .i64)] [false]], [⟨false, [(.sl 67 yp)], [true]⟩, ⟨false, [.bool], [false]⟩], false, false⟩
def ymC : Sig := ⟨[.v false [(.sl 41 yO)] [false], .v true ybQ (nf 4)], [⟨false, [(.sl 41 yO)], [true]⟩], false, false⟩
def ymD : Sig := ⟨[.v true qz9 (nf 6), .v true qz9 [false, false, false, true, true, false], .v false [.bool] [false]], [⟨true, qz9, [false, false, false, true, true, false]⟩, ⟨false, [(.int .i64)], [false]⟩], false, false⟩
def ymE : Sig := ⟨[.v true qz9 (nf 6), .v false [.str] [false], .v false [(.int .i64)] [false]], [⟨true, qz9, [false, false, false, true, true, false]⟩, ⟨false, [(.int .i64)], [false]⟩], false, false⟩
def ymF : Sig := ⟨[.v true qz9 (nf 6), .v false [.str] [false], .v false [.str] [false], .v false [.bool] [false]], [⟨true, qz9, [false, false, false, true, true, false]⟩, ⟨false, [(.int .i64)], [false]⟩], false, false⟩
def ymG : Sig := ⟨[.v true qz9 (nf 6), .v false [.str] [false]], [⟨false, [(.int .i64)], [false]⟩], false, false⟩
def ymH : Sig := ⟨[.v true qz9 (nf 6), .v false [.str] [false]], [⟨true, qz9, [false, false, false, true, true, false]⟩, ⟨false, [(.int .i64)], [false]⟩], false, false⟩
def ymI : Sig := ⟨[.v true qz9 (nf 6), .v false [.str] [false], .v false [(.int .i64)] [false]], [⟨false, [(.int .i64)], [false]⟩], false, false⟩
def ymJ : Sig := ⟨[.v false [(.sl 53 ye)] [false], .v false [(.int .i64)] [false]], [⟨false, [(.sl 53 ye)], [true]⟩, ⟨false, [(.int .i64)], [false]⟩, ⟨false, [.bool], [false]⟩], false, false⟩
def ymK : Sig := ⟨[.v true qz8 [false, false], .v false [(.int .i64)] [false], .v false [(.int .i64)] [false]], [⟨false, [(.int .i64)], [false]⟩], false, false⟩
def ymL : Sig := ⟨[.v false [(.sl 63 yg)] [false], .v false [(.int .i64)] [false], .v false [(.int .i64)] [false]], [⟨true, vN, (nf 5)⟩, ⟨false, [.bool], [false]⟩], false, false⟩
def ymM : Sig := ⟨[.v true [(.sl 58 yn)] [false], .v false [(.int .i64)] [false], .v false [(.int .i64)] [false]], [⟨true, vN, (nf 5)⟩, ⟨false, [.bool], [false]⟩], false, false⟩
def ymN : Sig := ⟨[.v true qz8 [false, false], .v false [(.int .i64)] [false], .v false [(.int .i64)] [false]], [⟨true, vN, (nf 5)⟩, ⟨false, [.bool], [false]⟩], false, false⟩
def ymO : Sig := ⟨[.v false [(.sl 63 yg)] [false]], [⟨true, [(.sl 58 yn)], [true]⟩], false, false⟩
def ymP : Sig := ⟨[.v true [(.sl 58 yn)] [false], .v true vN (nf 5)], [⟨true, [(.sl 58 yn)], [true]⟩, ⟨false, [.bool], [false]⟩], false, false⟩
def ymQ : Sig := ⟨[.v true qz8 [true, true], .v false [(.int .i64)] [false], .v false [(.sl 3 yf)] [false], .v false [(.sl 99 yj)] [false]], [⟨true, qz8, [true, true]⟩], false, true⟩
def ymR : Sig := ⟨[.v true qz8 [false, false]], [⟨false, [(.int .i64)], [false]⟩], false, false⟩
def ymS : Sig := ⟨[.v true qz8 [true, true]], [⟨true, qz8, [true, true]⟩], false, false⟩
def ymT : Sig := ⟨[.v true qz8 [false, false], .v true vN (nf 5)], [⟨true, qz8, [true, true]⟩, ⟨false, [.bool], [false]⟩], false, false⟩
def ymU : Sig := ⟨[.v false [(.sl 53 ye)] [false], .v false [(.int .i64)] [false]], [⟨false, [(.sl 53 ye)], [true]⟩], false, false⟩
def ymV : Sig := ⟨[.p none qz9 [false, false, false, true, true, false], .v true vN (nf 5), .v false [.bool] [false]], [], false, false⟩
def ymW : Sig := ⟨[.p none qz9 [false, false, false, true, true, false], .v true vN (nf 5)], [⟨false, [.bool], [false]⟩], false, false⟩
def ymX : Sig := ⟨[.v true qz9 (nf 6), .v false [.str] [false], .v false [(.int .i64)] [false], .v false [(.int .i64)] [false]], [⟨true, qz9, [false, false, false, true, true, false]⟩, ⟨false, [(.int .i64)], [false]⟩], false, false⟩
def ymY : Sig := ⟨[.v false [(.sl 67 yp)] [false], .v false [(.int .i64)] [false]], [⟨false, [(.sl 3 yf)], [true]⟩], false, false⟩
def ymZ : Sig := ⟨[.v true qz8 [false, false], .v false [(.int .i64)] [false]], [⟨false, [(.sl 63 yg)], [true]⟩], false, false⟩
def yn0 : Sig := ⟨[.v false [(.sl 3 yf)] [false], .v false [(.int .i64)] [false]], [⟨false, [.bool], [false]⟩], false, false⟩
def yn1 : Sig := ⟨[.v true qz8 [false, false], .v false [(.int .i64)] [false], .v false [(.sl 3 yf)] [false]], [⟨true, vN, (nf 5)⟩, ⟨false, [.bool], [false]⟩], false, false⟩
def yn2 : Sig := ⟨[.v true qz8 [false, false], .v false [(.sl 67 yp)] [false], .v false [(.int .i64)] [false], .v false [(.int .i64)] [false]], [⟨true, vN, (nf 5)⟩, ⟨false, [.bool], [false]⟩], false, false⟩
def yn3 : Sig := ⟨[.p none qz9 [false, false, false, true, true, false], .v false [(.int .i64)] [false], .v false [(.int .i64)] [false]], [⟨false, [.bool], [false]⟩], false, false⟩
def yn4 : Sig := ⟨[.v true qz9 (nf 6), .v false [.str] [false], .v false [(.int .i64)] [false]], [⟨true, qz9, [false, false, false, true, true, false]⟩, ⟨false, [(.int .i64)], [false]⟩], false, false⟩
def yn5 : Sig := ⟨[.v true qz9 (nf 6), .v false [.str] [false], .v false [(.int .i64)] [false]], [⟨true, qz9, [false, false, false, true, true, false]⟩, ⟨false, [(.int .i64)], [false]⟩], false, false⟩
def yn6 : Sig := ⟨[.v true qz8 [false, false], .v false [(.sl 67 yp)] [false], .v false [(.int .i64)] [false], .v false [(.int .i64)] [false]], [⟨true, vN, (nf 5)⟩, ⟨false, [.bool], [false]⟩], false, false⟩
def yn7 : Sig := ⟨[.v true qz8 [false, false], .v false [(.sl 67 yp)] [false], .v true vN (nf 5), .v false [(.int .i64)] [false]], [⟨false, [.bool], [false]⟩], false, false⟩
def yn8 : Sig := ⟨[.v true qz9 (nf 6), .v true vN (nf 5)], [⟨false, [.bool], [false]⟩], false, false⟩
def yn9 : Sig := ⟨[.v true qz9 (nf 6), .v false [(.int .i64)] [false]], [⟨false, [.bool], [false]⟩], false, false⟩
def yna : Sig := ⟨[.v true qz9 (nf 6), .v false [(.int .i64)] [false]], [⟨false, [(.int .i64)], [false]⟩], false, false⟩
def ynb : Sig := ⟨[.v true qz9 (nf 6), .v true vN (nf 5)], [⟨false, [.bool], [false]⟩], false, false⟩
def ync : Sig := ⟨[.v true qz9 (nf 6), .v false [(.int .i64)] [false], .v true vN (nf 5)], [⟨false, [.bool], [false]⟩], false, false⟩
def ynd : Sig := ⟨[.v true qz9 (nf 6), .v false [(.int .i64)] [false]], [⟨false, [.bool], [false]⟩], false, false⟩
def yne : Sig := ⟨[.v true qz9 (nf 6)], [⟨false, [(.int .i64)], [false]⟩, ⟨false, [(.int .i64)], [false]⟩], false, false⟩
def ynf : Sig := ⟨[.p none qz9 [false, false, false, true, true, false], .v true vN (nf 5)], [⟨false, [.bool], [false]⟩], false, false⟩
def yng : Sig := ⟨[.v false [(.sl 67 yp)] [false], .v false [(.int .i64)] [false]], [⟨false, [(.sl 67 yp)], [true]⟩, ⟨false, [.bool], [false]⟩], false, false⟩
def ynh : Sig := ⟨[.v true qz9 (nf 6)], [⟨true, qz9, [false, false, false, true, true, false]⟩, ⟨false, [.bool], [false]⟩], false, false⟩
def yni : Sig := ⟨[.v true [(.sl 58 yn)] [false]], [⟨true, [(.sl 58 yn)], [true]⟩], false, false⟩
def ynj : Sig := ⟨[.v true qz8 [false, false], .v false [(.int .i64)] [false]], [⟨true, qz8, [true, true]⟩], false, false⟩
def ynk : Sig := ⟨[.v true qz9 (nf 6), .v false [(.int .i64)] [false]], [⟨true, qz9, [true, true, true, true, true, false]⟩, ⟨false, [.bool], [false]⟩], false, false⟩
def ynl : Sig := ⟨[.v true qz9 (nf 6), .v false [(.int .i64)] [false]], [⟨true, vN, (nf 5)⟩], false, false⟩
def ynm : Sig := ⟨[.v true qz9 (nf 6), .v false [(.int .i64)] [false]], [⟨true, qz9, [true, true, true, true, true, false]⟩, ⟨false, [.bool], [false]⟩], false, false⟩
def ynn : Sig := ⟨[.v true qz9 (nf 6), .v true ygr (nf 5)], [⟨true, qz9, [false, false, false, true, true, false]⟩, ⟨false, [.bool], [false]⟩], false, false⟩
def ywU : Sig := ⟨[.v true qz9 (nf 6), .v true ygr (nf 5)], [⟨true, qz9, [false, false, false, true, true, false]⟩, ⟨false, [(.int .i64)], [false]⟩], false, false⟩
def ywV : Sig := ⟨[.p none qz0 (nf 3), .v false [(.int .i64)] [false]], [⟨true, qz9, [false, false, false, true, true, false]⟩], false, false⟩
def ywW : Sig := ⟨[.v false [(.sl 5 wV)] [false], .v false [(.int .i64)] [false]], [⟨false, [(.int .i64)], [false]⟩], false, false⟩
def sg8 : Sig := ⟨[.v false [(.sl 5 wV)] [false]], [⟨true, qz9, [false, false, false, true, true, false]⟩, ⟨true, ygr, (nf 5)⟩], false, false⟩
def ywX : Sig := ⟨[.v false [(.int .i64)] [false], .v false [(.int .i64)] [false], .v false [(.int .i64)] [false]], [⟨false, [.bool], [false]⟩], false, false⟩
def yno : Sig := ⟨[.v true vN (nf 5), .v true vN (nf 5)], [⟨false, [.bool], [false]⟩], false, false⟩
def ynp : Sig := ⟨[.v true vN (nf 5), .v true vN (nf 5)], [⟨false, [.bool], [false]⟩], false, false⟩
def ynq : Sig := ⟨[.v false [(.sl 63 yg)] [false], .v true vN (nf 5)], [⟨false, [(.sl 63 yg)], [true]⟩], false, false⟩
def ynr : Sig := ⟨[.v false [(.sl 63 yg)] [false]], [⟨false, [(.sl 63 yg)], [true]⟩], false, false⟩
def yns : Sig := ⟨[.v false [(.sl 63 yg)] [false], .v false [(.sl 63 yg)] [false]], [⟨false, [(.sl 63 yg)], [true]⟩], false, false⟩
def ynt : Sig := ⟨[.v false [(.sl 63 yg)] [false]], [⟨false, [(.sl 63 yg)], [true]⟩], false, false⟩
def ywY : Sig := ⟨[.v true [(.sl 58 yn)] [false]], [⟨false, [(.sl 63 yg)], [true]⟩], false, false⟩
def ywZ : Sig := ⟨[.v true vN (nf 5)], [⟨false, [.bool], [false]⟩], false, false⟩
def ynu : Sig := ⟨[.v false [(.sl 63 yg)] [false]], [⟨false, [.bool], [false]⟩], false, false⟩
def yx0 : Sig := ⟨[.v true [(.sl 58 yn)] [false]], [⟨false, [.bool], [false]⟩], false, false⟩
def yx1 : Sig := ⟨[.v false [(.int .i64)] [false], .v false [(.int .i64)] [false]], [⟨false, [(.int .i64)], [false]⟩], false, false⟩
def yx2 : Sig := ⟨[.v true qz8 [false, false], .v false [(.int .i64)] [false]], [⟨false, [.bool], [false]⟩], false, false⟩
def yx3 : Sig := ⟨[.v true qz8 [false, false]], [⟨false, [.bool], [false]⟩], false, false⟩
def ynv : Sig := ⟨[.v true yhN [false, false], .p none [(.int .i64)] [false]], [⟨false, [.bool], [false]⟩], false, false⟩
def yaz : Sig := ⟨[.v false [(.sl 67 yp)] [false], .p (some 129) [(.int .i64)] [false]], [⟨false, [(.int .i64)], [false]⟩], false, false⟩
def yx4 : Sig := ⟨[.v false [(.sl 67 yp)] [false], .v false [(.int .i64)] [false]], [⟨false, [(.int .i64)], [false]⟩], false, false⟩
def yx5 : Sig := ⟨[.v false [(.sl 67 yp)] [false]], [⟨false, [.bool], [false]⟩], false, false⟩
def yx6 : Sig := ⟨[.v false [(.int .i64)] [false]], [⟨false, [.bool], [false]⟩], false, false⟩
def yx7 : Sig := ⟨[.v false [(.sl 53 ye)] [false]], [⟨false, [.bool], [false]⟩], false, false⟩
def yx8 : Sig := ⟨[.v false [(.sl 67 yp)] [false], .v false [(.int .i64)] [false]], [⟨false, [(.sl 3 yf)], [true]⟩], false, false⟩
def yx9 : Sig := ⟨[.v false [.str] [false]], [⟨false, [.bool], [false]⟩], false, false⟩
def yxa : Sig := ⟨[.v true ybQ (nf 4), .p none ybQ (nf 4)], [⟨false, [.bool], [false]⟩], false, false⟩
def yaA : Sig := ⟨[.v false [(.sl 41 yO)] [false], .p (some 98) ybQ (nf 4)], [⟨false, [(.int .i64)], [false]⟩], false, false⟩
def yaB : Sig := ⟨[.v false [(.sl 41 yO)] [false], .p (some 98) ybQ (nf 4)], [⟨false, [.bool], [false]⟩], false, false⟩
def yxb : Sig := ⟨[.v true qz9 (nf 6)], [⟨false, [.bool], [false]⟩], false, false⟩
def yxc : Sig := ⟨[.v false [(.sl 53 ye)] [false]], [⟨false, [(.int .i64)], [false]⟩], false, false⟩
def yxd : Sig := ⟨[.v true qz8 [false, false]], [⟨false, [(.sl 63 yg)], [true]⟩], false, false⟩
def yxe : Sig := ⟨[.v false [(.sl 53 ye)] [false], .v false [(.int .i64)] [false], .v false [(.int .i64)] [false]], [⟨false, [(.int .i64)], [false]⟩, ⟨false, [.bool], [false]⟩], false, false⟩
def yxf : Sig := ⟨[.v true qz9 (nf 6)], [⟨false, [.bool], [false]⟩], false, false⟩
def yxg : Sig := ⟨[.v true qz9 (nf 6)], [⟨false, [.bool], [false]⟩], false, false⟩
def ynw : Sig := ⟨[.v true ybQ (nf 4), .p none [.str] [false]], [⟨false, [.bool], [false]⟩], false, false⟩
def yaC : Sig := ⟨[.v false [(.sl 41 yO)] [false], .p (some 117) [.str] [false]], [⟨false, [(.int .i64)], [false]⟩], false, false⟩
def yxh : Sig := ⟨[.v true qz9 (nf 6), .v false [.str] [false]], [⟨false, [(.int .i64)], [false]⟩], false, false⟩
def yxi : Sig := ⟨[.v true qz9 (nf 6), .v false [.str] [false], .v false [(.int .i64)] [false], .v false [.bool] [false]], [⟨false, [(.int .i64)], [false]⟩, ⟨false, [(.int .i64)], [false]⟩], false, false⟩
def ynx : Sig := ⟨[.v true qz8 [false, false], .v false [(.int .i64)] [false]], [⟨false, [(.sl 63 yg)], [true]⟩], false, false⟩
def yny : Sig := ⟨[.v false [(.sl 3 yf)] [false], .v false [(.int .i64)] [false]], [⟨false, [(.int .i64)], [false]⟩], false, false⟩
def ynz : Sig := ⟨[.v false [(.sl 3 yf)] [false], .v false [(.int .i64)] [false]], [⟨false, [.bool], [false]⟩], false, false⟩
def ynA : Sig := ⟨[.v true qz8 [false, false], .v false [(.int .i64)] [false], .v false [(.sl 3 yf)] [false]], [⟨true, vN, (nf 5)⟩, ⟨false, [.bool], [false]⟩], false, false⟩
def ynB : Sig := ⟨[.v false [(.sl 67 yp)] [false], .v false [(.int .i64)] [false]], [⟨false, [(.sl 3 yf)], [true]⟩], false, false⟩
def yxj : Sig := ⟨[.v true qz8 [false, false], .v false [(.sl 67 yp)] [false], .v false [(.int .i64)] [false], .v false [(.int .i64)] [false]], [⟨true, vN, (nf 5)⟩, ⟨false, [.bool], [false]⟩], false, false⟩
def yxk : Sig := ⟨[.v true qz9 (nf 6), .v false [(.int .i64)] [false], .v false [(.int .i64)] [false]], [⟨false, [(.int .i64)], [false]⟩], false, false⟩
def sg9 : Sig := ⟨[.v true qz9 (nf 6), .v false [.str] [false], .v false [(.int .i64)] [false]], [⟨false, [(.int .i64)], [false]⟩, ⟨false, [(.int .i64)], [false]⟩], false, false⟩
def yxl : Sig := ⟨[.v false [(.sl 5 wV)] [false], .v false [(.int .i64)] [false]], [⟨false, [(.int .i64)], [false]⟩], false, false⟩
def ynC : Sig := ⟨[.v false [(.sl 3 yf)] [false]], [⟨false, [(.sl 3 yf)], [true]⟩], false, false⟩
def ynD : Sig := ⟨[.v true [(.sl 58 yn)] [false]], [⟨true, [(.sl 58 yn)], [true]⟩], false, false⟩
def yxm : Sig := ⟨[.v true qz8 [false, false]], [⟨true, qz8, [true, true]⟩], false, false⟩
def yxn : Sig := ⟨[.v false [(.sl 67 yp)] [false]], [⟨false, [(.sl 67 yp)], [true]⟩], false, false⟩
def yxo : Sig := ⟨[.v false [(.sl 53 ye)] [false]], [⟨false, [(.sl 53 ye)], [true]⟩], false, false⟩
def yxp : Sig := ⟨[.v true qz9 (nf 6)], [⟨true, qz9, [true, true, true, true, true, false]⟩], false, false⟩
def yxq : Sig := ⟨[.v false [(.sl 53 ye)] [false]], [⟨false, [(.int .i64)], [false]⟩], false, false⟩
def yxr : Sig := ⟨[.v false [(.sl 53 ye)] [false], .v false [(.int .i64)] [false]], [⟨false, [(.sl 53 ye)], [true]⟩, ⟨false, [(.int .i64)], [false]⟩, ⟨false, [.bool], [false]⟩], false, false⟩
def yxs : Sig := ⟨[.v true qz8 [false, false], .v false [(.int .i64)] [false], .v false [(.int .i64)] [false]], [⟨false, [(.int .i64)], [false]⟩], false, false⟩
def yxt : Sig := ⟨[.v true [(.sl 58 yn)] [false], .v true vN (nf 5)], [⟨false, [(.sl 63 yg)], [true]⟩], false, false⟩
def yxu : Sig := ⟨[.v false [(.sl 63 yg)] [false]], [⟨true, [(.sl 58 yn)], [true]⟩], false, false⟩
def ynE : Sig := ⟨[.v false [(.sl 63 yg)] [false], .v false [(.int .i64)] [false], .v false [(.int .i64)] [false]], [⟨true, vN, (nf 5)⟩, ⟨false, [.bool], [false]⟩], false, false⟩
def yxv : Sig := ⟨[.v true [(.sl 58 yn)] [false], .v true vN (nf 5)], [⟨true, [(.sl 58 yn)], [true]⟩, ⟨false, [.bool], [false]⟩], false, false⟩
def yxw : Sig := ⟨[.v true qz8 [false, false], .v false [(.int .i64)] [false], .v false [(.int .i64)] [false], .v false [(.sl 3 yf)] [false], .v false [(.sl 99 yj)] [false]], [⟨true, qz8, [true, true]⟩], false, false⟩
def yxx : Sig := ⟨[.v true qz8 [false, false]], [⟨true, qz8, [false, false]⟩], false, false⟩
def yxy : Sig := ⟨[.v true qz8 [false, false], .v true vN (nf 5)], [⟨true, qz8, [false, false]⟩, ⟨false, [.bool], [false]⟩], false, false⟩
def yxz : Sig := ⟨[.v false [(.sl 53 ye)] [false], .v false [(.int .i64)] [false]], [⟨false, [(.sl 53 ye)], [true]⟩], false, false⟩
def ynF : Sig := ⟨[.v true [(.sl 58 yn)] [false], .v false [(.int .i64)] [false], .v false [(.int .i64)] [false]], [⟨true, vN, (nf 5)⟩, ⟨false, [.bool], [false]⟩], false, false⟩
def yxA : Sig := ⟨[.v true qz8 [false, false], .v false [(.int .i64)] [false], .v false [(.int .i64)] [false]], [⟨true, vN, (nf 5)⟩, ⟨false, [.bool], [false]⟩], false, false⟩
def yxB : Sig := ⟨[.p none qz9 [false, false, false, false, true, false], .v true vN (nf 5)], [⟨false, [.bool], [false]⟩], false, false⟩
def yxC : Sig := ⟨[.v true qz9 (nf 6), .v true qz9 (nf 6), .v false [.bool] [false]], [⟨true, qz9, (nf 6)⟩, ⟨false, [(.int .i64)], [false]⟩], false, false⟩
def yxD : Sig := ⟨[.v true qz9 (nf 6), .v false [.str] [false], .v false [(.int .i64)] [false], .v false [(.int .i64)] [false]], [⟨true, qz9, (nf 6)⟩, ⟨false, [(.int .i64)], [false]⟩], false, false⟩
def yxE : Sig := ⟨[.v false [(.sl 3 yf)] [false], .v false [(.sl 3 yf)] [false]], [⟨false, [.bool], [false]⟩], false, false⟩
def ynG : Sig := ⟨[.v false [(.sl 63 yg)] [false], .v false [(.sl 63 yg)] [false]], [⟨false, [.bool], [false]⟩], false, false⟩
def yxF : Sig := ⟨[.v true [(.sl 58 yn)] [false], .v true [(.sl 58 yn)] [false]], [⟨false, [.bool], [false]⟩], false, false⟩
def yxG : Sig := ⟨[.v true qz8 [false, false], .v true qz8 [false, false]], [⟨false, [.bool], [false]⟩], false, false⟩
def yxH : Sig := ⟨[.v false [(.sl 67 yp)] [false], .v false [(.sl 67 yp)] [false]], [⟨false, [.bool], [false]⟩], false, false⟩
def yxI : Sig := ⟨[.v false [(.sl 53 ye)] [false], .v false [(.sl 53 ye)] [false]], [⟨false, [.bool], [false]⟩], false, false⟩
def yxJ : Sig := ⟨[.v true qz9 (nf 6), .v true qz9 (nf 6)], [⟨false, [.bool], [false]⟩], false, false⟩
def yxK : Sig := ⟨[.v true qz8 [false, false], .v false [(.sl 67 yp)] [false], .v false [(.int .i64)] [false], .v false [(.int .i64)] [false]], [⟨true, vN, (nf 5)⟩, ⟨false, [.bool], [false]⟩], false, false⟩
def yxL : Sig := ⟨[.p none qz9 [false, false, false, false, true, false], .v false [(.int .i64)] [false], .v false [(.int .i64)] [false]], [⟨false, [.bool], [false]⟩], false, false⟩
def yxM : Sig := ⟨[.v true qz9 (nf 6), .v false [.str] [false], .v false [(.int .i64)] [false]], [⟨true, qz9, (nf 6)⟩, ⟨false, [(.int .i64)], [false]⟩], false, false⟩
def sg3 : Sig := ⟨[.v false [(.sl 5 wV)] [false]], [⟨false, [.bool], [false]⟩], false, false⟩
def yyB : List (Nat × Sig) := [(7, sg7), (32, ywM), (106, ylY), (69, ywN), (71, ywO), (72, ywP), (73, ywQ), (74, ywR), (35, ywS), (104, ylZ), (105, ym0), (68, ywT), (132, ym1), (131, ym2), (133, ym3), (134, ym4), (107, ym5), (183, ym6), (201, ym7), (208, ym8), (196, ym9), (197, yma), (178, ymb), (186, ymc), (202, ymd), (187, yme), (198, ymf), (179, ymg), (199, ymh), (180, ymi), (159, ymj), (160, ymk), (135, yml), (161, ymm), (136, ymn), (137, ymo), (162, ymp), (138, ymq), (163, ymr), (164, yms), (139, ymt), (108, ymu), (165, ymv), (140, ymw), (141, ymx), (109, ymy), (142, ymz), (143, ymA), (144, ymB), (145, ymC), (146, ymD), (110, ymE), (111, ymF), (147, ymG), (112, ymH), (148, ymI), (149, ymJ), (181, ymK), (200, ymL), (182, ymM), (166, ymN), (188, ymO), (184, ymP), (185, ymQ), (203, ymR), (189, ymS), (167, ymT), (176, ymU), (168, ymV), (150, ymW), (113, ymX), (190, ymY), (204, ymZ), (205, yn0), (191, yn1), (169, yn2), (151, yn3), (114, yn4), (115, yn5), (210, yn6), (209, yn7), (206, yn8), (194, yn9), (172, yna), (207, ynb), (192, ync), (193, ynd), (170, yne), (171, ynf), (173, yng), (152, ynh), (195, yni), (174, ynj), (153, ynk), (175, ynl), (154, ynm), (116, ynn), (70, ywU), (33, ywV), (34, ywW), (8, sg8), (47, ywX), (157, yno), (158, ynp), (125, ynq), (126, ynr), (101, yns), (102, ynt), (63, ywY), (87, ywZ), (127, ynu), (95, yx0), (92, yx1), (96, yx2), (53, yx3), (129, ynv), (100000, yaz), (97, yx4), (54, yx5), (38, yx6), (55, yx7), (28, yx8), (76, yx9), (98, yxa), (100002, yaA), (100001, yaB), (56, yxb), (18, yxc), (23, yxd), (78, yxe), (57, yxf), (19, yxg), (117, ynw), (100003, yaC), (75, yxh), (36, yxi), (155, ynx), (177, yny), (156, ynz), (118, ynA), (119, ynB), (77, yxj), (37, yxk), (9, sg9), (10, yxl), (120, ynC), (121, ynD), (79, yxm), (80, yxn), (81, yxo), (39, yxp), (49, yxq), (40, yxr), (88, yxs), (90, yxt), (93, yxu), (124, ynE), (89, yxv), (91, yxw), (94, yxx), (50, yxy), (51, yxz), (122, ynF), (82, yxA), (41, yxB), (42, yxC), (11, yxD), (83, yxE), (123, ynG), (84, yxF), (43, yxG), (44, yxH), (45, yxI), (12, yxJ), (85, yxK), (46, yxL), (13, yxM), (3, sg3)]
def yrS : List (Nat × (List Nat × List Nat)) := [
 (3200003, [0, 3, 4, 13, 14], [0, 3]),
 (13100002, [0, 3, 17, 18, 19, 20, 21, 22], [0, 2]),
 (20800002, [0, 3], [2]),
 (19600002, [0, 3, 19, 20, 21], [0, 2, 19, 20, 21]),
 (19700003, [1, 3, 4], [3]),
 (17800002, [1, 3, 19, 20, 21, 22, 23, 24, 25, 32, 33, 34], [1, 2, 32, 33, 34]),
 (18600003, [0, 3, 4], [3]),
 (18700004, [0, 3, 5, 6, 7, 18, 19, 20, 21, 22, 23, 24], [3, 5, 6]),
 (19800003, [1, 5, 6], [5]),
 (17900003, [1, 3, 4], [3]),
 (15900005, [1, 2, 5, 6, 61, 62, 63, 64, 65, 66, 67, 68, 69, 70, 71, 72, 73, 74, 75, 76], [4]),
 (15900008, [1, 2, 5, 6, 7, 61, 62, 63, 64, 65, 66, 67, 68, 69, 70, 71, 72, 73, 74, 75, 76], [1, 2, 4, 5, 6, 61, 62, 63, 64, 65, 66, 67, 68, 69, 70, 71, 72, 73, 74, 75, 76]),
 (16000003, [1, 3, 4], [3]),
 (13500004, [1, 3, 35, 36, 37, 38, 39, 40, 41, 42, 43, 44, 45, 46, 49, 50, 51, 52], [1, 2]),
 (16100002, [0, 1, 5], [4]),
 (13600002, [0, 3, 18, 19, 20, 21, 22, 23, 24, 25, 26, 27, 28, 29, 30, 31, 32, 33, 42, 43, 44, 45, 46, 47, 48, 49, 50, 51], [0, 2]),
 (13700002, [0, 3, 18, 19, 20, 21, 22, 23, 24, 27, 28, 29, 30, 31, 32, 33, 34, 35, 36, 37, 38, 39, 40], [0, 2]),
 (16200003, [0, 1, 5, 6, 22, 23], [5]),
 (13800002, [1, 3, 23, 24, 25, 26, 29, 30, 31, 32, 33, 34, 37, 38, 39, 40, 41, 42, 43, 46, 47, 48, 49, 50, 51, 52, 53, 54, 55, 56, 57, 58, 59], [1, 2]),
 (13800008, [1, 3, 4, 5, 23, 24, 25, 26, 29, 30, 31, 32, 33, 34, 37, 38, 39, 40, 41, 42, 43, 46, 47, 48, 49, 50, 51, 52, 53, 54, 55, 56, 57, 58, 59], [1, 2, 3, 23, 24, 25, 26, 29, 30, 31, 32, 33, 34, 37, 38, 39, 40, 41, 42, 43, 46, 47, 48, 49, 50, 51, 52, 53, 54, 55, 56, 57, 58, 59]),
 (16400003, [0, 3, 4], [3]),
 (13900004, [1, 3, 4, 5, 65, 66, 67, 68, 69, 70, 71, 72, 73, 74, 75], [1, 2, 4]),
 (13900014, [1, 3, 4, 5, 8, 65, 66, 67, 68, 69, 70, 71, 72, 73, 74, 75], [1, 2, 3, 4, 5, 65, 66, 67, 68, 69, 70, 71, 72, 73, 74, 75]),
 (10800002, [1, 3, 24, 25, 26, 29, 30, 31, 34, 35, 36, 39, 40, 43, 44], [1, 2, 24, 25, 26, 29, 30, 31, 34, 35, 36, 39, 40, 43, 44]),
 (16500003, [1, 2, 3, 4], [2, 3]),
 (14000003, [1, 2, 3, 4], [2, 3]),
 (14300002, [1, 2, 5], [4]),
 (14400004, [0, 1, 2, 8, 9, 10, 25, 26, 27, 28, 29, 30, 31, 59, 60, 61], [0, 1, 2, 8, 9, 59, 60, 61]),
 (14500003, [3, 5, 6, 19, 20, 21, 22, 23, 24, 25, 26, 27], [3, 5, 6]),
 (14900003, [0, 1, 7, 8, 16, 17, 20, 21], [4, 5, 6, 7]),
 (18100003, [1, 2, 3, 7, 8], [7]),
 (20000002, [0, 1, 2, 6, 8, 23, 24, 25, 26, 27, 28, 29], [6, 7]),
 (18200002, [1, 2, 3, 6, 8, 32, 33, 34], [6, 7]),
 (20300002, [1, 3], [2]),
 (18900002, [1, 2, 3], [1, 2]),
 (19000003, [0, 5, 6, 14, 15, 16, 17, 18], [5]),
 (20400004, [1, 5, 6, 7], [5]),
 (20500002, [0, 1, 5], [4]),
 (19100005, [2, 6, 8, 9, 10, 11, 30, 31, 32, 33, 34, 35, 36, 37, 38, 39, 40, 41], [6, 8, 9]),
 (11500010, [2, 3, 6, 8, 10, 11, 12, 43], [2, 3, 6, 8, 10, 11]),
 (20600002, [2, 3, 5, 23, 24, 25, 26, 27, 28, 29, 30, 31, 32, 33, 34], [4]),
 (19400002, [1, 2, 5], [4]),
 (19300003, [1, 2, 5, 6, 27, 28, 29, 30, 31, 32], [1, 2, 4, 27, 28, 29, 30, 31, 32]),
 (17000005, [1, 4, 5], [1, 2, 3]),
 (17000008, [1, 4, 5, 6], [1, 2, 3, 4, 5]),
 (17000013, [1, 7], [2, 3]),
 (17300006, [0, 1, 6, 7, 8], [7]),
 (17500003, [1, 4, 5, 6, 23, 24, 25, 26, 27, 28, 29], [4]),
 (3300003, [0, 4, 5, 6], [0, 4, 5]),
 (12500004, [3, 5, 6, 10, 11, 12, 19, 20, 21, 22], [3, 5, 6]),
 (10100003, [5, 10, 11, 12], [5]),
 (10200003, [3, 7, 8, 9], [3]),
 (6300003, [3, 8, 9, 10], [3]),
 (12700002, [0, 5, 6, 7, 16, 17, 18, 19, 20, 21, 22, 23, 24, 25, 26, 27], [0, 2]),
 (9500003, [1, 3, 7, 8, 9, 17, 18, 19, 31, 32], [1, 2, 3, 31, 32]),
 (9600002, [1, 2, 15, 16, 17, 40, 41, 42, 43, 44, 45, 46, 47, 48, 49, 50, 51, 52, 53, 54, 55], [4]),
 (9600005, [1, 2, 15, 16, 17, 21, 22, 23, 40, 41, 42, 43, 44, 45, 46, 47, 48, 49, 50, 51, 52, 53, 54, 55], [1, 2, 4, 15, 16, 17, 40, 41, 42, 43, 44, 45, 46, 47, 48, 49, 50, 51, 52, 53, 54, 55]),
 (5300005, [1, 3, 29, 30, 31, 39, 40, 41, 42, 43, 44, 45, 46, 47, 48, 49, 50, 53, 54, 55, 58, 59, 60, 61, 69, 70], [2, 3]),
 (10000000002, [0, 1, 7, 8], [1, 4]),
 (5400002, [0, 5, 6, 7, 17, 18, 19, 20, 21, 22, 23, 24, 25, 26, 27, 28, 29, 32, 33, 34, 35, 36, 37, 38, 39, 40, 41, 42, 43], [0, 2]),
 (5500002, [0, 5, 6, 7, 16, 17, 18, 19, 22, 23, 24, 25, 26, 27, 28, 29], [0, 2]),
 (2800005, [1, 5, 12, 13, 14], [5]),
 (7600002, [0, 3, 17, 18, 19, 20, 21, 22], [0, 2]),
 (10000200002, [0, 1, 7, 8], [1, 4]),
 (5600002, [1, 6, 7, 8, 18, 19, 20, 21, 22, 23, 24, 25, 26, 27, 28, 29, 30, 31, 34, 35, 36, 37, 46, 47, 48, 49, 50, 51, 52], [1, 2]),
 (1800003, [3, 6, 7, 8], [3]),
 (2300003, [3, 8, 9, 10], [3]),
 (5700004, [1, 3, 4, 12, 13, 14, 40, 41, 42, 43, 44], [1, 2, 4]),
 (1900004, [1, 28, 29, 30, 43, 44], [1, 2, 43, 44]),
 (10000300002, [0, 1, 7, 8], [1, 4]),
 (15500003, [1, 5, 10, 11, 12], [5]),
 (17700002, [0, 1, 7, 8], [4]),
 (11800003, [2, 6, 8, 9, 15, 16, 17, 26, 27, 28, 29, 30, 31, 32, 33, 34], [6, 8, 9]),
 (11900003, [0, 1, 5, 10, 11], [5]),
 (12100003, [2, 3, 8, 9, 10], [2, 3]),
 (7900003, [2, 3, 11, 12, 13], [2, 3]),
 (4900002, [5, 6, 7], [2]),
 (8800002, [1, 2, 3, 7], [6]),
 (12400002, [1, 2, 6, 10, 11, 12, 21, 22, 23, 24], [6, 7]),
 (9400002, [1, 2, 3], [1, 2]),
 (12200002, [1, 2, 3, 6, 8], [6, 7]),
 (8300004, [0, 1, 5], [4]),
 (12300004, [0, 1, 5], [4]),
 (8400004, [2, 3, 5], [4]),
 (4300004, [2, 3, 5], [4]),
 (4400004, [0, 1, 5], [4]),
 (4500004, [0, 1, 5], [4]),
 (1200004, [2, 3, 5], [4]),
 (300014, [0, 3, 7, 8, 9, 10, 12, 134, 135, 138, 139, 140, 141, 142, 143, 144, 145, 146, 147, 148, 149, 150, 151, 154, 155, 156, 157, 158, 159, 160, 161, 162, 163, 164, 165, 166, 188, 189, 190, 191, 192, 193, 194, 195, 196, 197, 200, 201], [2, 8, 9, 10, 188, 189, 190, 191, 192, 193, 194, 195, 196, 197, 200, 201]),
 (300017, [0, 3, 7, 8, 9, 10, 12, 13, 134, 135, 138, 139, 140, 141, 142, 143, 144, 145, 146, 147, 148, 149, 150, 151, 154, 155, 156, 157, 158, 159, 160, 161, 162, 163, 164, 165, 166, 188, 189, 190, 191, 192, 193, 194, 195, 196, 197, 200, 201], [0, 2, 3, 7, 8, 9, 10, 12, 134, 135, 138, 139, 140, 141, 142, 143, 144, 145, 146, 147, 148, 149, 150, 151, 154, 155, 156, 157, 158, 159, 160, 161, 162, 163, 164, 165, 166, 188, 189, 190, 191, 192, 193, 194, 195, 196, 197, 200, 201])]
def yxN : List (Nat × List Nat × Nat) := [(128, [129], 100000), (66, [98], 100001), (103, [98], 100002), (103, [117], 100003)]
def yrT : List (Nat × List Nat) := [(165, [22]), (140, [25]), (189, [2000000000006000001, 2000000000007000001, 1000033000000027, 1000046000000041, 1000048000000025, 49, 1000049000049000, 1000050000000046]), (167, [2000000000010000011, 49, 1000037000999999, 1000049000038000, 1000050000000047, 1000050000000049, 1000082000999999, 1000086000999999, 87, 1000087000083000, 1000087000087000]), (113, [60]), (169, [21]), (33, [1000019000000900]), (8, [1000015000008500]), (121, [18]), (79, [21]), (94, [40, 1000039000000026, 1000040000040000]), (50, [2000000000011000010, 1000038000999999, 1000080000999999, 1000084000999999, 85, 1000085000081000, 1000085000085000]), (11, [66]), (85, [20])]
def C : Ctx := { info := y8y ylX, sig := y8y yyB, live := fun f i => y8y yrS (100000 * f + i), key := Jo yxN, fid := ykk yxN, hint := ygf yrT }
theorem tok : TOk C Tryz.prog := ykz (l := ylX) rfl (by kernel_rfl)
theorem yrU : Tryz.prog.follows .mixedOrders = true := by kernel_rfl
abbrev QF := Qf C Tryz.prog
abbrev EV (l : List QF) (lp : Lp) (n : Nat) (fn : Func) (sg : Sig) (ins outs : List Ty) (F : z6 ins → Option (z6 outs)) : Prop := ∀ x, yen C (yhL l) lp n fn (Ve fn) sg ins outs x = F x
abbrev LF (l : List QF) (lp : Lp) (n i : Nat) (fn : Func) (k : Nat) {T V : Type} (e : T → St) (g : Gk T) (inj : V → T) : Prop := LC C (yhL l) lp n i (cL fn k) e g inj
abbrev LK (l : List QF) (lp : Lp) (n : Nat) (fn : Func) (k : Nat) : Prop := y20 C (yhL l) lp n (cL fn k)
theorem okN {l : List QF} {lp : Lp} {f g : Nat} {fn : Func} {sg : Sig} {n : Nat} (hfn : Tryz.prog.funcs[g]? = some fn) (hl : yky (y20 C (yhL l) lp f) (ZM (Ve fn)) n 0) {F : z6 (C.ins f) → Option (z6 (C.outs f))} (hF : ∀ x, yen C (yhL l) lp f fn (Ve fn) sg (C.ins f) (C.outs f) x = F x) (hsig : C.sig f = some sg := by kernel_rfl) (hB : fnB C f g fn sg n = true := by kernel_rfl) : Jq C Tryz.prog f F := yqU tok yrU hfn hsig hB hl hF
theorem lkN {call : C.Sem} {lp : Lp} {f i : Nat} {c : Code} {T : Type} {e : T → St} {u : St → Option T} {g : Gk T} (hu : ∀ s t, u s = some t → e t = s) (hc : LC C call lp f i c e @g (fun t => t)) (hl : laB C f i c = true := by kernel_rfl) (hb : LB lp i u @g := by intro R κ s; kernel_rfl) : y20 C call lp f c := yeU hl hu hb hc
end Go.Proofs.YtjllpipmaejeoaaGreat.XR
