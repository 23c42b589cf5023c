/- The context of the evaluator for V: types, signatures, slots that live at loops; by a program (dec.py). No condition. -/
import Derived.Test.YtjllpipmaejeoaaGreatProg
import Derived.Test.YtjllpipmaejeoaaGreatRRow
import Derived.KernelRfl
set_option linter.all false
namespace Go.Proofs.YtjllpipmaejeoaaGreat.XV
open Go.Proofs.YtjllpipmaejeoaaGreat.R
set_option maxRecDepth 100000
abbrev kL : List Ty := [(.int .u8)]
abbrev y5P : Type := Int
abbrev ynN (xs : List y5P) (i : Int) : y5P := rdE kL xs i
def ynq (x : List y5P) : A := .val (.sl 5 kL) x
abbrev yd : List Ty := [(.int .i64)]
abbrev yb : Type := Int
abbrev y2V : yb := VM yd
abbrev zt (xs : List yb) (i : Int) : yb := rdE yd xs i
def zi (x : List yb) : A := .val (.sl 3 yd) x
abbrev yg : List Ty := [(.int .i64), (.int .i64), (.int .i64), (.int .i64), (.int .i64)]
abbrev y7 : Type := Int × Int × Int × Int × Int
abbrev yH : y7 := VM yg
abbrev y6 (xs : List y7) (i : Int) : y7 := rdE yg xs i
def qp (x : List y7) : A := .val (.sl 63 yg) x
abbrev yp : List Ty := [(.sl 63 yg)]
abbrev ya : Type := List y7
abbrev yY : ya := VM yp
abbrev yn (xs : List ya) (i : Int) : ya := rdE yp xs i
def Yv (x : List ya) : A := .val (.sl 58 yp) x
abbrev yl : List Ty := [(.sl 58 yp)]
abbrev y0 : Type := List ya
abbrev yf : y0 := VM yl
abbrev ye (xs : List y0) (i : Int) : y0 := rdE yl xs i
def yE (x : List y0) : A := .val (.sl 99 yl) x
abbrev yo : List Ty := [(.int .i64), (.int .i64)]
abbrev y9 : Type := Int × Int
abbrev yx : y9 := VM yo
abbrev yG (xs : List y9) (i : Int) : y9 := rdE yo xs i
def zu (x : List y9) : A := .val (.sl 67 yo) x
abbrev yj : List Ty := [(.int .i64), .bool, (.int .i64)]
abbrev y8 : Type := Int × Bool × Int
abbrev yQ : y8 := VM yj
abbrev yA (xs : List y8) (i : Int) : y8 := rdE yj xs i
def z0 (x : List y8) : A := .val (.sl 53 yj) x
abbrev yO : List Ty := [.str, (.int .i64), (.int .i64), .bool]
abbrev yh : Type := ByteArray × Int × Int × Bool
abbrev Y2 : yh := VM yO
abbrev yi (xs : List yh) (i : Int) : yh := rdE yO xs i
def zW (x : List yh) : A := .val (.sl 41 yO) x
abbrev Jg : List Ty := [.str, .bool, (.sl 3 yd)]
abbrev vC : Type := ByteArray × Bool × List yb
abbrev yuN : vC := VM Jg
abbrev y4X (xs : List vC) (i : Int) : vC := rdE Jg xs i
def ynO (x : List vC) : A := .val (.sl 89 Jg) x
abbrev QN : List Ty := [.str]
abbrev y0R : Type := ByteArray
abbrev yhU : y0R := VM QN
abbrev yfA (xs : List y0R) (i : Int) : y0R := rdE QN xs i
abbrev y4Y : List Ty := [.bool]
abbrev yd2 : Type := Bool
abbrev yfB : yd2 := VM y4Y
abbrev yfC (xs : List yd2) (i : Int) : yd2 := rdE y4Y xs i
abbrev Qz0 : Type := List y5P × Int × Int
abbrev qz0 : List Ty := [(.sl 5 kL), (.int .i64), (.int .i64)]
abbrev Qz1 : Type := List y5P × Int
abbrev qz1 : List Ty := [(.sl 5 kL), (.int .i64)]
abbrev Qz2 : Type := Int × List y5P × Int × Int
abbrev qz2 : List Ty := [(.int .i64), (.sl 5 kL), (.int .i64), (.int .i64)]
abbrev Qz3 : Type := List y5P × Int × Int × Int
abbrev qz3 : List Ty := [(.sl 5 kL), (.int .i64), (.int .i64), (.int .i64)]
abbrev Qz4 : Type := List y5P × Int × Int × List yb
abbrev qz4 : List Ty := [(.sl 5 kL), (.int .i64), (.int .i64), (.sl 3 yd)]
abbrev Qz5 : Type := List y5P × Int × Int × List y0R
abbrev qz5 : List Ty := [(.sl 5 kL), (.int .i64), (.int .i64), (.sl 9 QN)]
abbrev Qz6 : Type := ByteArray × List y5P × Int × Int
abbrev qz6 : List Ty := [.str, (.sl 5 kL), (.int .i64), (.int .i64)]
abbrev Qz7 : Type := Int × ByteArray × ByteArray × Int × Int × List y5P × Int × Int
abbrev qz7 : List Ty := [(.int .i64), .str, .str, (.int .i64), (.int .i64), (.sl 5 kL), (.int .i64), (.int .i64)]
abbrev Qz8 : Type := List yb × List y0
abbrev qz8 : List Ty := [(.sl 3 yd), (.sl 99 yl)]
abbrev Qz9 : Type := List yb × List y0 × List y9 × List y8 × List yh × Int
abbrev qz9 : List Ty := [(.sl 3 yd), (.sl 99 yl), (.sl 67 yo), (.sl 53 yj), (.sl 41 yO), (.int .i64)]
abbrev yuO : Type := Int × Int × Int
abbrev yuP : List Ty := [(.int .i64), (.int .i64), (.int .i64)]
abbrev yuc : Type := ByteArray × Int
abbrev yud : List Ty := [.str, (.int .i64)]
abbrev yzD : Type := ByteArray × Bool
abbrev yzE : Type := Int × ByteArray × ByteArray × Int × Int
abbrev yji : List Ty := [(.int .i64), .str, .str, (.int .i64), (.int .i64)]
abbrev yh9 : Type := Int × Int × Int × Int × Int
abbrev Vs : List Ty := [(.int .i64), (.int .i64), (.int .i64), (.int .i64), (.int .i64)]
abbrev yue : Type := Int × Int × Int × Int × Int × Int × Int × Int × Int × Int
abbrev yuf : List Ty := [(.int .i64), (.int .i64), (.int .i64), (.int .i64), (.int .i64), (.int .i64), (.int .i64), (.int .i64), (.int .i64), (.int .i64)]
abbrev ynP : Type := List y7 × Int
abbrev ynQ : List Ty := [(.sl 63 yg), (.int .i64)]
abbrev yzF : Type := List y7 × Bool
abbrev yzG : Type := Int × Int × List ya
abbrev yzH : List Ty := [(.int .i64), (.int .i64), (.sl 58 yp)]
abbrev yjj : Type := Int × List ya
abbrev yug : List Ty := [(.int .i64), (.sl 58 yp)]
abbrev yCg : Type := Bool × List ya
abbrev yuh : Type := List y7 × Int × List y7
abbrev yui : List Ty := [(.sl 63 yg), (.int .i64), (.sl 63 yg)]
abbrev yzI : Type := List y7 × Bool × Int × Int × Int × Int × Int × Int × List y7
abbrev yzJ : List Ty := [(.sl 63 yg), .bool, (.int .i64), (.int .i64), (.int .i64), (.int .i64), (.int .i64), (.int .i64), (.sl 63 yg)]
abbrev yzK : Type := Bool × Int × Int × Int × Int × Int × List y7
abbrev yzL : Type := List y7 × Int × Int × Int × Int × Int
abbrev yzM : List Ty := [(.sl 63 yg), (.int .i64), (.int .i64), (.int .i64), (.int .i64), (.int .i64)]
abbrev yuQ : Type := List y7 × List y7
abbrev yuR : List Ty := [(.sl 63 yg), (.sl 63 yg)]
abbrev yzN : Type := Int × List ya × List y7
abbrev yzO : List Ty := [(.int .i64), (.sl 58 yp), (.sl 63 yg)]
abbrev yha : Type := Int × Int
abbrev ykF : List Ty := [(.int .i64), (.int .i64)]
abbrev yzP : Type := Int × Int × Int × List yb × List y0 × List ya
abbrev yzQ : List Ty := [(.int .i64), (.int .i64), (.int .i64), (.sl 3 yd), (.sl 99 yl), (.sl 58 yp)]
abbrev yCh : Type := Int × Bool × Int × List yb × List y0 × List ya
abbrev yuS : Type := Int × Int × List yb × List y0 × List ya
abbrev yzR : List Ty := [(.int .i64), (.int .i64), (.sl 3 yd), (.sl 99 yl), (.sl 58 yp)]
abbrev ynR : Type := List yb × List y0 × Int
abbrev ynS : List Ty := [(.sl 3 yd), (.sl 99 yl), (.int .i64)]
abbrev yzS : Type := Int × List yb × List y0 × List y7
abbrev yzT : List Ty := [(.int .i64), (.sl 3 yd), (.sl 99 yl), (.sl 63 yg)]
abbrev yaY : Type := Int × List yb × List y0
abbrev yhb : List Ty := [(.int .i64), (.sl 3 yd), (.sl 99 yl)]
abbrev yCi : Type := Bool × List yb × List y0
abbrev yuT : Type := List y9 × Int × Int
abbrev yuU : List Ty := [(.sl 67 yo), (.int .i64), (.int .i64)]
abbrev yfD : Type := List y9 × Int
abbrev yfE : List Ty := [(.sl 67 yo), (.int .i64)]
abbrev ynT : Type := List y9 × Bool
abbrev yuV : List Ty := [(.sl 67 yo), .bool]
abbrev ynU : Type := List y8 × Int
abbrev ynV : List Ty := [(.sl 53 yj), (.int .i64)]
abbrev yzU : Type := List y8 × Bool
abbrev yzV : Type := List y9 × Int × Int × List yb
abbrev yzW : List Ty := [(.sl 67 yo), (.int .i64), (.int .i64), (.sl 3 yd)]
abbrev yzX : Type := Int × Int × List yb × List y0 × List y9 × List y8 × List yh × Int × ByteArray × Int × Int × Bool
abbrev yzY : List Ty := [(.int .i64), (.int .i64), (.sl 3 yd), (.sl 99 yl), (.sl 67 yo), (.sl 53 yj), (.sl 41 yO), (.int .i64), .str, (.int .i64), (.int .i64), .bool]
abbrev yuW : Type := Bool × Int × List yb × List y0 × List y9 × List y8 × List yh × Int
abbrev yhc : Type := Int × List yb × List y0 × List y9 × List y8 × List yh × Int
abbrev ynr : List Ty := [(.int .i64), (.sl 3 yd), (.sl 99 yl), (.sl 67 yo), (.sl 53 yj), (.sl 41 yO), (.int .i64)]
abbrev yhV : Type := Bool × List yb × List y0 × List y9 × List y8 × List yh × Int
abbrev ynW : List Ty := [.bool, (.sl 3 yd), (.sl 99 yl), (.sl 67 yo), (.sl 53 yj), (.sl 41 yO), (.int .i64)]
abbrev yuj : Type := List y8 × Int × Int
abbrev yuk : List Ty := [(.sl 53 yj), (.int .i64), (.int .i64)]
abbrev yzZ : Type := Int × Bool
abbrev yA0 : List Ty := [(.int .i64), .bool]
abbrev yuX : Type := Int × Int × Int × List yb × List y0 × List y9 × List y8 × List yh × Int × List y7
abbrev yA1 : List Ty := [(.int .i64), (.int .i64), (.int .i64), (.sl 3 yd), (.sl 99 yl), (.sl 67 yo), (.sl 53 yj), (.sl 41 yO), (.int .i64), (.sl 63 yg)]
abbrev yCj : Type := Bool × Int × Int × List yb × List y0 × List y9 × List y8 × List yh × Int × List y7
abbrev yjk : Type := Int × Int × List yb × List y0 × List y9 × List y8 × List yh × Int × List y7
abbrev yns : List Ty := [(.int .i64), (.int .i64), (.sl 3 yd), (.sl 99 yl), (.sl 67 yo), (.sl 53 yj), (.sl 41 yO), (.int .i64), (.sl 63 yg)]
abbrev ykG : Type := Int × List ya × List ya
abbrev yul : List Ty := [(.int .i64), (.sl 58 yp), (.sl 58 yp)]
abbrev ynX : Type := Int × List yb × List y0 × List yb
abbrev yA2 : List Ty := [(.int .i64), (.sl 3 yd), (.sl 99 yl), (.sl 3 yd)]
abbrev ykH : Type := Int × List yb × List y0 × List yb × List y0
abbrev yum : List Ty := [(.int .i64), (.sl 3 yd), (.sl 99 yl), (.sl 3 yd), (.sl 99 yl)]
abbrev yun : Type := List yb × List y0 × List y9 × List y8 × List yh × Int × ByteArray
abbrev yuo : List Ty := [(.sl 3 yd), (.sl 99 yl), (.sl 67 yo), (.sl 53 yj), (.sl 41 yO), (.int .i64), .str]
abbrev yA3 : Type := ByteArray × Int × List yb × List y0 × List y9 × List y8 × List yh × Int
abbrev yA4 : List Ty := [.str, (.int .i64), (.sl 3 yd), (.sl 99 yl), (.sl 67 yo), (.sl 53 yj), (.sl 41 yO), (.int .i64)]
abbrev yA5 : Type := List y9 × Int × Int × Bool × Int × List y9
abbrev yA6 : List Ty := [(.sl 67 yo), (.int .i64), (.int .i64), .bool, (.int .i64), (.sl 67 yo)]
abbrev yCk : Type := List y9 × Int × Int × Bool × List y9
abbrev yuY : Type := Int × ByteArray × Int × Int × Bool × List yh
abbrev yA7 : List Ty := [(.int .i64), .str, (.int .i64), (.int .i64), .bool, (.sl 41 yO)]
abbrev yuZ : Type := List yh × ByteArray × Int × Int × Bool
abbrev yv0 : List Ty := [(.sl 41 yO), .str, (.int .i64), (.int .i64), .bool]
abbrev yCl : Type := List yb × List y0 × List y9 × List y8 × List yh × Int × List yb × List y0 × List y9 × List y8 × List yh × Int × Bool
abbrev yCm : List Ty := [(.sl 3 yd), (.sl 99 yl), (.sl 67 yo), (.sl 53 yj), (.sl 41 yO), (.int .i64), (.sl 3 yd), (.sl 99 yl), (.sl 67 yo), (.sl 53 yj), (.sl 41 yO), (.int .i64), .bool]
abbrev yby : Type := List yb × List y0 × List y9 × List y8 × List yh × Int × Int
abbrev ybz : List Ty := [(.sl 3 yd), (.sl 99 yl), (.sl 67 yo), (.sl 53 yj), (.sl 41 yO), (.int .i64), (.int .i64)]
abbrev yup : Type := List yb × List y0 × List y9 × List y8 × List yh × Int × ByteArray × Int
abbrev yuq : List Ty := [(.sl 3 yd), (.sl 99 yl), (.sl 67 yo), (.sl 53 yj), (.sl 41 yO), (.int .i64), .str, (.int .i64)]
abbrev yCn : Type := List yb × List y0 × List y9 × List y8 × List yh × Int × ByteArray × ByteArray × Bool
abbrev yCo : List Ty := [(.sl 3 yd), (.sl 99 yl), (.sl 67 yo), (.sl 53 yj), (.sl 41 yO), (.int .i64), .str, .str, .bool]
abbrev yA8 : Type := List y8 × Int × Int × List y8
abbrev yA9 : List Ty := [(.sl 53 yj), (.int .i64), (.int .i64), (.sl 53 yj)]
abbrev yCp : Type := Int × Bool × List y8
abbrev yCq : Type := List y8 × Int × Bool
abbrev yCr : List Ty := [(.sl 53 yj), (.int .i64), .bool]
abbrev yAa : Type := Int × Int × Int × Int × List yb × List y0
abbrev yAb : List Ty := [(.int .i64), (.int .i64), (.int .i64), (.int .i64), (.sl 3 yd), (.sl 99 yl)]
abbrev yur : Type := List yb × List y0 × Int × Int
abbrev yus : List Ty := [(.sl 3 yd), (.sl 99 yl), (.int .i64), (.int .i64)]
abbrev yAc : Type := List y7 × Int × Int × Int × Int × Int × Int × Int × Int
abbrev yAd : List Ty := [(.sl 63 yg), (.int .i64), (.int .i64), (.int .i64), (.int .i64), (.int .i64), (.int .i64), (.int .i64), (.int .i64)]
abbrev yut : Type := Bool × Int × Int × Int × Int × Int
abbrev yAe : Type := List y7 × Int × Int
abbrev yAf : List Ty := [(.sl 63 yg), (.int .i64), (.int .i64)]
abbrev yeO : Type := Int × Int × Int × Int × Int × Bool
abbrev yeP : List Ty := [(.int .i64), (.int .i64), (.int .i64), (.int .i64), (.int .i64), .bool]
abbrev yuu : Type := Int × Int × Int × List ya × Int × Int × Int × Int × Int
abbrev yuv : List Ty := [(.int .i64), (.int .i64), (.int .i64), (.sl 58 yp), (.int .i64), (.int .i64), (.int .i64), (.int .i64), (.int .i64)]
abbrev ykI : Type := List ya × Int × Int
abbrev yuw : List Ty := [(.sl 58 yp), (.int .i64), (.int .i64)]
abbrev yv1 : Type := List ya × Int × Int × Int × Int × Int
abbrev yv2 : List Ty := [(.sl 58 yp), (.int .i64), (.int .i64), (.int .i64), (.int .i64), (.int .i64)]
abbrev yAg : Type := List ya × Bool
abbrev yAh : List Ty := [(.sl 58 yp), .bool]
abbrev yCs : Type := List yb × List y0 × Int × List yb × List y0
abbrev yCt : List Ty := [(.sl 3 yd), (.sl 99 yl), (.int .i64), (.sl 3 yd), (.sl 99 yl)]
abbrev yAi : Type := List yb × List y0 × Int × Int × Int × Int × Int
abbrev yAj : List Ty := [(.sl 3 yd), (.sl 99 yl), (.int .i64), (.int .i64), (.int .i64), (.int .i64), (.int .i64)]
abbrev yAk : Type := List yb × List y0 × Bool
abbrev yAl : List Ty := [(.sl 3 yd), (.sl 99 yl), .bool]
abbrev yCu : Type := List yb × List y0 × List y9 × List y8 × List yh × Int × Int × Int × Int × Int × Int × Bool
abbrev yCv : List Ty := [(.sl 3 yd), (.sl 99 yl), (.sl 67 yo), (.sl 53 yj), (.sl 41 yO), (.int .i64), (.int .i64), (.int .i64), (.int .i64), (.int .i64), (.int .i64), .bool]
abbrev ynt : Type := List yb × List y0 × List y9 × List y8 × List yh × Int × Int × Int × Int × Int × Int
abbrev ynu : List Ty := [(.sl 3 yd), (.sl 99 yl), (.sl 67 yo), (.sl 53 yj), (.sl 41 yO), (.int .i64), (.int .i64), (.int .i64), (.int .i64), (.int .i64), (.int .i64)]
abbrev yCw : Type := List yb × List y0 × List y9 × List y8 × List yh × Int × ByteArray × Int × Int
abbrev yCx : List Ty := [(.sl 3 yd), (.sl 99 yl), (.sl 67 yo), (.sl 53 yj), (.sl 41 yO), (.int .i64), .str, (.int .i64), (.int .i64)]
abbrev yAm : Type := List y9 × Int × List yb
abbrev yAn : List Ty := [(.sl 67 yo), (.int .i64), (.sl 3 yd)]
abbrev yAo : Type := Int × Int × List y7 × List y7
abbrev yAp : List Ty := [(.int .i64), (.int .i64), (.sl 63 yg), (.sl 63 yg)]
abbrev yAq : Type := List yb × Int × Int
abbrev yAr : List Ty := [(.sl 3 yd), (.int .i64), (.int .i64)]
abbrev yv3 : Type := List yb × Int
abbrev yv4 : List Ty := [(.sl 3 yd), (.int .i64)]
abbrev yAs : Type := List yb × Bool × Int × Int × Int × Int × Int × Int × Int × Int × Int × Int × Int × List y7
abbrev yAt : List Ty := [(.sl 3 yd), .bool, (.int .i64), (.int .i64), (.int .i64), (.int .i64), (.int .i64), (.int .i64), (.int .i64), (.int .i64), (.int .i64), (.int .i64), (.int .i64), (.sl 63 yg)]
abbrev yAu : Type := Bool × Int × Int × Int × Int × Int × Int × Int × Int × Int × Int
abbrev yAv : Type := List yb × List y0 × Int × List yb
abbrev yAw : List Ty := [(.sl 3 yd), (.sl 99 yl), (.int .i64), (.sl 3 yd)]
abbrev yux : Type := List yb × List y0 × List y9 × Int × Int
abbrev yuy : List Ty := [(.sl 3 yd), (.sl 99 yl), (.sl 67 yo), (.int .i64), (.int .i64)]
abbrev yv5 : Type := List yb × List y0 × List y9 × List y8 × List yh × Int × Int × Int
abbrev yv6 : List Ty := [(.sl 3 yd), (.sl 99 yl), (.sl 67 yo), (.sl 53 yj), (.sl 41 yO), (.int .i64), (.int .i64), (.int .i64)]
abbrev ynY : Type := Int × Int × Bool × Int × List yb × List y0 × List y9 × List y8 × List yh × Int × Int × Int × List yb × List y0 × List y9 × List y8 × List yh
abbrev yAx : List Ty := [(.int .i64), (.int .i64), .bool, (.int .i64), (.sl 3 yd), (.sl 99 yl), (.sl 67 yo), (.sl 53 yj), (.sl 41 yO), (.int .i64), (.int .i64), (.int .i64), (.sl 3 yd), (.sl 99 yl), (.sl 67 yo), (.sl 53 yj), (.sl 41 yO)]
abbrev ynZ : Type := Int × Int × Bool × Int × List yb × List y0 × List y9 × List y8 × List yh × Int × Int × List yb × List y0 × List y9 × Int × List y8 × List yh
abbrev yAy : List Ty := [(.int .i64), (.int .i64), .bool, (.int .i64), (.sl 3 yd), (.sl 99 yl), (.sl 67 yo), (.sl 53 yj), (.sl 41 yO), (.int .i64), (.int .i64), (.sl 3 yd), (.sl 99 yl), (.sl 67 yo), (.int .i64), (.sl 53 yj), (.sl 41 yO)]
abbrev yCy : Type := Int × Int × Bool × List yb × List y0 × List y9 × List y8 × List yh × Int × Int × Int × List yb × List y0 × List y9 × List y8 × List yh
abbrev yCz : Type := Int × Int × Bool × List yb × List y0 × List y9 × List y8 × List yh × Int × Int × List yb × List y0 × List y9 × Int × List y8 × List yh
abbrev yAz : Type := List yb × List y0 × List y9 × Int × Int × Int × Int × Int × Int
abbrev yAA : List Ty := [(.sl 3 yd), (.sl 99 yl), (.sl 67 yo), (.int .i64), (.int .i64), (.int .i64), (.int .i64), (.int .i64), (.int .i64)]
abbrev yAB : Type := Int × List yb × List y0 × List y9 × List y8 × List yh × Int × Int × Int × Int × Int × Int
abbrev yAC : List Ty := [(.int .i64), (.sl 3 yd), (.sl 99 yl), (.sl 67 yo), (.sl 53 yj), (.sl 41 yO), (.int .i64), (.int .i64), (.int .i64), (.int .i64), (.int .i64), (.int .i64)]
abbrev yv7 : Type := Int × Int × List yb × List y0 × List y9 × List y8 × List yh × Int
abbrev yAD : List Ty := [(.int .i64), (.int .i64), (.sl 3 yd), (.sl 99 yl), (.sl 67 yo), (.sl 53 yj), (.sl 41 yO), (.int .i64)]
abbrev yAE : Type := List yb × List y0 × List y9 × List y8 × List yh × Int × Int × Int × Int × Int × Int × Int
abbrev yAF : List Ty := [(.sl 3 yd), (.sl 99 yl), (.sl 67 yo), (.sl 53 yj), (.sl 41 yO), (.int .i64), (.int .i64), (.int .i64), (.int .i64), (.int .i64), (.int .i64), (.int .i64)]
abbrev yCA : Type := Int × Bool × List yb × List y0 × List y9 × List y8 × List yh × Int
abbrev ykJ : Type := Int × List yb × List y0 × List y9 × List y8 × List yh × Int × List y7
abbrev yo0 : List Ty := [(.int .i64), (.sl 3 yd), (.sl 99 yl), (.sl 67 yo), (.sl 53 yj), (.sl 41 yO), (.int .i64), (.sl 63 yg)]
abbrev yo1 : Type := List y9 × Int × Int × Int × List y9
abbrev yo2 : List Ty := [(.sl 67 yo), (.int .i64), (.int .i64), (.int .i64), (.sl 67 yo)]
abbrev yfF : Type := List yb × List y0 × List y9 × List y8 × List yh × Int × Bool
abbrev yfG : List Ty := [(.sl 3 yd), (.sl 99 yl), (.sl 67 yo), (.sl 53 yj), (.sl 41 yO), (.int .i64), .bool]
abbrev yo3 : Type := Int × Int × Int × Int × Int × Int × Int × List y7
abbrev yo4 : List Ty := [(.int .i64), (.int .i64), (.int .i64), (.int .i64), (.int .i64), (.int .i64), (.int .i64), (.sl 63 yg)]
abbrev ykK : Type := List yb × List y0 × List y9 × List y8 × List yh × Int × Int × ByteArray × ByteArray × Int × Int
abbrev ykL : List Ty := [(.sl 3 yd), (.sl 99 yl), (.sl 67 yo), (.sl 53 yj), (.sl 41 yO), (.int .i64), (.int .i64), .str, .str, (.int .i64), (.int .i64)]
abbrev yfH : Type := Int × List y5P × Int × Int × Int × Int × List yb × List y0 × List y9 × List y8 × List yh
abbrev yo5 : List Ty := [(.int .i64), (.sl 5 kL), (.int .i64), (.int .i64), (.int .i64), (.int .i64), (.sl 3 yd), (.sl 99 yl), (.sl 67 yo), (.sl 53 yj), (.sl 41 yO)]
abbrev yfI : Type := Int × List y5P × Int × Int × Int × List yb × List y0 × List y9 × Int × List y8 × List yh
abbrev yo6 : List Ty := [(.int .i64), (.sl 5 kL), (.int .i64), (.int .i64), (.int .i64), (.sl 3 yd), (.sl 99 yl), (.sl 67 yo), (.int .i64), (.sl 53 yj), (.sl 41 yO)]
abbrev yv8 : Type := List y5P × Int × Int × Int × Int × List yb × List y0 × List y9 × List y8 × List yh
abbrev yv9 : Type := List y5P × Int × Int × Int × List yb × List y0 × List y9 × Int × List y8 × List yh
abbrev yva : Type := List yb × List y0 × List y9 × List y8 × List yh × Int × List y5P × Int × Int
abbrev yvb : List Ty := [(.sl 3 yd), (.sl 99 yl), (.sl 67 yo), (.sl 53 yj), (.sl 41 yO), (.int .i64), (.sl 5 kL), (.int .i64), (.int .i64)]
abbrev yo7 : Type := List yb × List yb × Int
abbrev yo8 : List Ty := [(.sl 3 yd), (.sl 3 yd), (.int .i64)]
abbrev yo9 : Type := List yb × List yb
abbrev yoa : List Ty := [(.sl 3 yd), (.sl 3 yd)]
abbrev yob : Type := List y7 × List y7 × Int
abbrev yoc : List Ty := [(.sl 63 yg), (.sl 63 yg), (.int .i64)]
abbrev yvc : Type := List ya × List ya
abbrev yvd : List Ty := [(.sl 58 yp), (.sl 58 yp)]
abbrev yve : Type := List yb × List y0 × List yb × List y0
abbrev yvf : List Ty := [(.sl 3 yd), (.sl 99 yl), (.sl 3 yd), (.sl 99 yl)]
abbrev yod : Type := List y9 × List y9 × Int
abbrev yoe : List Ty := [(.sl 67 yo), (.sl 67 yo), (.int .i64)]
abbrev yvg : Type := List y9 × List y9
abbrev yvh : List Ty := [(.sl 67 yo), (.sl 67 yo)]
abbrev yof : Type := List y8 × List y8 × Int
abbrev yog : List Ty := [(.sl 53 yj), (.sl 53 yj), (.int .i64)]
abbrev yvi : Type := List y8 × List y8
abbrev yvj : List Ty := [(.sl 53 yj), (.sl 53 yj)]
abbrev yoh : Type := Int × List yb × List y0 × List y9 × List y8 × List yh × Int × List yb × List y0 × List y9 × List y8 × List yh × Int
abbrev yoi : List Ty := [(.int .i64), (.sl 3 yd), (.sl 99 yl), (.sl 67 yo), (.sl 53 yj), (.sl 41 yO), (.int .i64), (.sl 3 yd), (.sl 99 yl), (.sl 67 yo), (.sl 53 yj), (.sl 41 yO), (.int .i64)]
abbrev yvk : Type := List yb × List y0 × List y9 × List y8 × List yh × Int × List yb × List y0 × List y9 × List y8 × List yh × Int
abbrev yvl : List Ty := [(.sl 3 yd), (.sl 99 yl), (.sl 67 yo), (.sl 53 yj), (.sl 41 yO), (.int .i64), (.sl 3 yd), (.sl 99 yl), (.sl 67 yo), (.sl 53 yj), (.sl 41 yO), (.int .i64)]
abbrev yoj : Type := Bool × List y7 × Int × Int × Int × Int × Int × Int × Int × List y7
abbrev yok : List Ty := [.bool, (.sl 63 yg), (.int .i64), (.int .i64), (.int .i64), (.int .i64), (.int .i64), (.int .i64), (.int .i64), (.sl 63 yg)]
abbrev yhW : Type := List y7 × Int × Int × List y7
abbrev yhX : List Ty := [(.sl 63 yg), (.int .i64), (.int .i64), (.sl 63 yg)]
abbrev yol : Type := List ya × Int × Int × List y7
abbrev yom : List Ty := [(.sl 58 yp), (.int .i64), (.int .i64), (.sl 63 yg)]
abbrev yon : Type := List y0 × Int × Int × List y7
abbrev yoo : List Ty := [(.sl 99 yl), (.int .i64), (.int .i64), (.sl 63 yg)]
abbrev yop : Type := Int × Int × Int × List y7 × List y7
abbrev yoq : List Ty := [(.int .i64), (.int .i64), (.int .i64), (.sl 63 yg), (.sl 63 yg)]
abbrev yor : Type := List yb × Int × Int × Int
abbrev yos : List Ty := [(.sl 3 yd), (.int .i64), (.int .i64), (.int .i64)]
abbrev yot : Type := List yb × Bool × Int × Int × Int × Int × Int × Int × Int × Int × Int × Int × Int × Int × List y7
abbrev yov : List Ty := [(.sl 3 yd), .bool, (.int .i64), (.int .i64), (.int .i64), (.int .i64), (.int .i64), (.int .i64), (.int .i64), (.int .i64), (.int .i64), (.int .i64), (.int .i64), (.int .i64), (.sl 63 yg)]
abbrev yhY : Type := Bool × Int
abbrev ykM : List Ty := [.bool, (.int .i64)]
abbrev yow : Type := List y9 × Int × Int × Int
abbrev yox : List Ty := [(.sl 67 yo), (.int .i64), (.int .i64), (.int .i64)]
abbrev yoy : Type := List y9 × Int × Int × Int × List yb
abbrev yoz : List Ty := [(.sl 67 yo), (.int .i64), (.int .i64), (.int .i64), (.sl 3 yd)]
abbrev yfJ : Type := Int × Int × List yh × Int × Int × List yb × List y0 × List y9 × List y8 × List yh × Int × ByteArray × Int × Int × Bool × ByteArray × Bool × List vC
abbrev yoA : List Ty := [(.int .i64), (.int .i64), (.sl 41 yO), (.int .i64), (.int .i64), (.sl 3 yd), (.sl 99 yl), (.sl 67 yo), (.sl 53 yj), (.sl 41 yO), (.int .i64), .str, (.int .i64), (.int .i64), .bool, .str, .bool, (.sl 89 Jg)]
abbrev yfK : Type := Int × Int × List yh × Int × Int × List yb × List y0 × List y9 × List y8 × List yh × Int × ByteArray × Int × Int × Bool × ByteArray × Bool × List vC × List yb
abbrev yoB : List Ty := [(.int .i64), (.int .i64), (.sl 41 yO), (.int .i64), (.int .i64), (.sl 3 yd), (.sl 99 yl), (.sl 67 yo), (.sl 53 yj), (.sl 41 yO), (.int .i64), .str, (.int .i64), (.int .i64), .bool, .str, .bool, (.sl 89 Jg), (.sl 3 yd)]
abbrev yvm : Type := List yh × Int × Int × List yb × List y0 × List y9 × List y8 × List yh × Int × ByteArray × Bool × List vC
abbrev yvn : Type := List yh × Int × Int × List yb × List y0 × List y9 × List y8 × List yh × Int × ByteArray × Bool × List vC × List yb
abbrev yoC : Type := List yh × Int × Int × List yb × List y0 × List y9 × List y8 × List yh × Int × List vC
abbrev yoD : List Ty := [(.sl 41 yO), (.int .i64), (.int .i64), (.sl 3 yd), (.sl 99 yl), (.sl 67 yo), (.sl 53 yj), (.sl 41 yO), (.int .i64), (.sl 89 Jg)]
abbrev yoE : Type := Int × List y8 × Int × Int
abbrev yoF : List Ty := [(.int .i64), (.sl 53 yj), (.int .i64), (.int .i64)]
abbrev yoG : Type := List y7 × List y7 × Int × Int
abbrev yoH : List Ty := [(.sl 63 yg), (.sl 63 yg), (.int .i64), (.int .i64)]
abbrev yoI : Type := Int × List ya × Int × Int × List ya
abbrev yoJ : List Ty := [(.int .i64), (.sl 58 yp), (.int .i64), (.int .i64), (.sl 58 yp)]
abbrev yvo : Type := Bool × Int × List ya
abbrev yoK : Type := Int × List ya × Int × Int × List y7 × Int × Int × List yb × List y0
abbrev yoL : List Ty := [(.int .i64), (.sl 58 yp), (.int .i64), (.int .i64), (.sl 63 yg), (.int .i64), (.int .i64), (.sl 3 yd), (.sl 99 yl)]
abbrev yvp : Type := Int × Bool × List ya × Int × Int × List yb × List y0
abbrev ykN : Type := Int × List ya × Int × Int × List yb × List y0
abbrev yoM : List Ty := [(.int .i64), (.sl 58 yp), (.int .i64), (.int .i64), (.sl 3 yd), (.sl 99 yl)]
abbrev yoN : Type := Int × List y0 × Int × Int × List yb × List y0
abbrev yoO : List Ty := [(.int .i64), (.sl 99 yl), (.int .i64), (.int .i64), (.sl 3 yd), (.sl 99 yl)]
abbrev yoP : Type := List y9 × List y9 × Int × Int
abbrev yoQ : List Ty := [(.sl 67 yo), (.sl 67 yo), (.int .i64), (.int .i64)]
abbrev yoR : Type := List y8 × List y8 × Int × Int
abbrev yoS : List Ty := [(.sl 53 yj), (.sl 53 yj), (.int .i64), (.int .i64)]
abbrev yoT : Type := Int × List y9 × Int × Int × List yb
abbrev yoU : List Ty := [(.int .i64), (.sl 67 yo), (.int .i64), (.int .i64), (.sl 3 yd)]
abbrev yvq : Type := ByteArray × Int × Int × Bool × ByteArray × Int × Int × Bool
abbrev yvr : List Ty := [.str, (.int .i64), (.int .i64), .bool, .str, (.int .i64), (.int .i64), .bool]
abbrev yoV : Type := Bool × ByteArray × Int × Int × Bool
abbrev yoW : List Ty := [.bool, .str, (.int .i64), (.int .i64), .bool]
abbrev yoX : Type := List yh × Int × Int × ByteArray × Int × Int × Bool
abbrev yoY : List Ty := [(.sl 41 yO), (.int .i64), (.int .i64), .str, (.int .i64), (.int .i64), .bool]
abbrev yoZ : Type := Int × ByteArray × Int × Int × Bool
abbrev yvs : List Ty := [(.int .i64), .str, (.int .i64), (.int .i64), .bool]
abbrev yvt : Type := ByteArray × Int × Int × Bool
abbrev yem : List Ty := [.str, (.int .i64), (.int .i64), .bool]
abbrev yp0 : Type := List yh × Int × Int × List yb × List y0 × List y9 × List y8 × List yh × Int
abbrev yp1 : List Ty := [(.sl 41 yO), (.int .i64), (.int .i64), (.sl 3 yd), (.sl 99 yl), (.sl 67 yo), (.sl 53 yj), (.sl 41 yO), (.int .i64)]
abbrev yp2 : Type := Int × Int × Int × List yb × List y0 × List y9 × List y8 × List yh × Int × List yd2 × List y7
abbrev yp3 : List Ty := [(.int .i64), (.int .i64), (.int .i64), (.sl 3 yd), (.sl 99 yl), (.sl 67 yo), (.sl 53 yj), (.sl 41 yO), (.int .i64), (.sl 4 y4Y), (.sl 63 yg)]
abbrev yp4 : Type := List y9 × Int × Int × List yb × List y0 × List y9 × List y8 × List yh × Int
abbrev yp5 : List Ty := [(.sl 67 yo), (.int .i64), (.int .i64), (.sl 3 yd), (.sl 99 yl), (.sl 67 yo), (.sl 53 yj), (.sl 41 yO), (.int .i64)]
abbrev yp6 : Type := List yb × List yb × Int × Int
abbrev yp7 : List Ty := [(.sl 3 yd), (.sl 3 yd), (.int .i64), (.int .i64)]
abbrev yvu : Type := ByteArray × Bool × List yb × ByteArray × Bool × List yb
abbrev yvv : List Ty := [.str, .bool, (.sl 3 yd), .str, .bool, (.sl 3 yd)]
abbrev yp8 : Type := List vC × List vC × Int × Int
abbrev yp9 : List Ty := [(.sl 89 Jg), (.sl 89 Jg), (.int .i64), (.int .i64)]
abbrev ypa : Type := List vC × List vC
abbrev ypb : List Ty := [(.sl 89 Jg), (.sl 89 Jg)]
abbrev yvw : Type := ByteArray × Int × Int × Bool × Int
abbrev yvx : List Ty := [.str, (.int .i64), (.int .i64), .bool, (.int .i64)]
abbrev ypc : Type := List yh × Int × Int × Int
abbrev ypd : List Ty := [(.sl 41 yO), (.int .i64), (.int .i64), (.int .i64)]
abbrev ype : Type := List yh × Int
abbrev ypf : List Ty := [(.sl 41 yO), (.int .i64)]
abbrev ypg : Type := List yh × Int × Int × List yb × List y0 × List y9 × List y8 × List yh × Int × Int × Int × Int × Int × Int
abbrev yph : List Ty := [(.sl 41 yO), (.int .i64), (.int .i64), (.sl 3 yd), (.sl 99 yl), (.sl 67 yo), (.sl 53 yj), (.sl 41 yO), (.int .i64), (.int .i64), (.int .i64), (.int .i64), (.int .i64), (.int .i64)]
abbrev ypi : Type := Int × Int × Int × List yb × List y0
abbrev ypj : List Ty := [(.int .i64), (.int .i64), (.int .i64), (.sl 3 yd), (.sl 99 yl)]
abbrev ypk : Type := Int × Int × List y7 × Int × Int × Int × Int × Int × Int × Int
abbrev ypl : List Ty := [(.int .i64), (.int .i64), (.sl 63 yg), (.int .i64), (.int .i64), (.int .i64), (.int .i64), (.int .i64), (.int .i64), (.int .i64)]
abbrev ypm : Type := Int × List y7 × Int × Int
abbrev ypn : List Ty := [(.int .i64), (.sl 63 yg), (.int .i64), (.int .i64)]
abbrev ypo : Type := Int × Int × Int × Int × Int × List yb × List y0 × List y9 × List y8 × List yh × Int × List y7 × List yb
abbrev ypp : List Ty := [(.int .i64), (.int .i64), (.int .i64), (.int .i64), (.int .i64), (.sl 3 yd), (.sl 99 yl), (.sl 67 yo), (.sl 53 yj), (.sl 41 yO), (.int .i64), (.sl 63 yg), (.sl 3 yd)]
abbrev yvy : Type := Int × Int × Int × Int × List yb × List y0 × List y9 × List y8 × List yh × Int × List y7 × List yb
abbrev ykO : Type := Int × Int × List yb × List y0 × List y9 × List y8 × List yh × Int × List y7 × List yb
abbrev ypq : List Ty := [(.int .i64), (.int .i64), (.sl 3 yd), (.sl 99 yl), (.sl 67 yo), (.sl 53 yj), (.sl 41 yO), (.int .i64), (.sl 63 yg), (.sl 3 yd)]
abbrev yvz : Type := List yb × List y0 × List y9 × List y8 × List yh × Int × List y7
abbrev ypr : Type := List y9 × Int × Int × List yb × List y0 × List y9 × List y8 × List yh × Int × List y7
abbrev yps : List Ty := [(.sl 67 yo), (.int .i64), (.int .i64), (.sl 3 yd), (.sl 99 yl), (.sl 67 yo), (.sl 53 yj), (.sl 41 yO), (.int .i64), (.sl 63 yg)]
abbrev yfL : Type := List ya × Int × Int × List ya
abbrev ypt : List Ty := [(.sl 58 yp), (.int .i64), (.int .i64), (.sl 58 yp)]
abbrev yfM : Type := List y0 × Int × Int × List yb
abbrev ypu : List Ty := [(.sl 99 yl), (.int .i64), (.int .i64), (.sl 3 yd)]
abbrev yfN : Type := List y0 × Int × Int × List yb × List y0
abbrev ypv : List Ty := [(.sl 99 yl), (.int .i64), (.int .i64), (.sl 3 yd), (.sl 99 yl)]
abbrev yvA : Type := List yb × List y0 × Int × Int × List yb × List y0
abbrev yvB : List Ty := [(.sl 3 yd), (.sl 99 yl), (.int .i64), (.int .i64), (.sl 3 yd), (.sl 99 yl)]
abbrev ypw : Type := List y9 × Int × Int × Int × Int × List y9
abbrev ypx : List Ty := [(.sl 67 yo), (.int .i64), (.int .i64), (.int .i64), (.int .i64), (.sl 67 yo)]
abbrev yvC : Type := Int × List y9
abbrev ypy : List Ty := [.str, .bool, (.sl 3 yd)]
def ypz : List (Nat × TI) := [
 (3, .c (.int .i64) 8),
 (4, .c (.bool) 1),
 (5, .c (.int .u8) 1),
 (9, .c (.str) 16),
 (22, .c (.sl 5 kL) 24),
 (24, .c (.sl 3 yd) 24),
 (25, .c (.sl 99 yl) 24),
 (27, .s [(0, 24), (1, 25)] [(.sl 3 yd), (.sl 99 yl)] 48),
 (28, .c (.sl 67 yo) 24),
 (29, .c (.sl 53 yj) 24),
 (30, .c (.sl 41 yO) 24),
 (32, .s [(0, 27), (2, 28), (3, 29), (4, 30), (5, 3)] [(.sl 3 yd), (.sl 99 yl), (.sl 67 yo), (.sl 53 yj), (.sl 41 yO), (.int .i64)] 128),
 (34, .s [(0, 3), (1, 9), (2, 9), (3, 3), (4, 3)] [(.int .i64), .str, .str, (.int .i64), (.int .i64)] 56),
 (41, .s [(0, 9), (1, 3), (2, 3), (3, 4)] [.str, (.int .i64), (.int .i64), .bool] 40),
 (49, .c (.sl 89 Jg) 24),
 (53, .s [(0, 3), (1, 4), (2, 3)] [(.int .i64), .bool, (.int .i64)] 24),
 (58, .c (.sl 63 yg) 24),
 (63, .s [(0, 3), (1, 3), (2, 3), (3, 3), (4, 3)] [(.int .i64), (.int .i64), (.int .i64), (.int .i64), (.int .i64)] 40),
 (67, .s [(0, 3), (1, 3)] [(.int .i64), (.int .i64)] 16),
 (89, .s [(0, 9), (1, 4), (2, 24)] [.str, .bool, (.sl 3 yd)] 48),
 (97, .c (.sl 58 yp) 24),
 (99, .s [(0, 97)] [(.sl 58 yp)] 24),
 (106, .s [(0, 22), (1, 3), (2, 3)] [(.sl 5 kL), (.int .i64), (.int .i64)] 40),
 (112, .c (.sl 9 QN) 24),
 (139, .c (.sl 4 y4Y) 24)]
def sg7 : Sig := ⟨[.v false [(.sl 5 kL)] [false]], [⟨false, [.bool], [false]⟩], false, false⟩
def yAG : Sig := ⟨[.v false [(.sl 5 kL)] [false]], [⟨true, qz0, (nf 3)⟩], true, false⟩
def ypA : Sig := ⟨[.p none qz0 (nf 3)], [⟨false, [(.int .i64)], [false]⟩], false, false⟩
def yAH : Sig := ⟨[.p none qz0 (nf 3), .v false [(.int .i64)] [false]], [⟨false, [(.int .i64)], [false]⟩], false, false⟩
def yAI : Sig := ⟨[.p none qz0 (nf 3), .v false [(.sl 3 yd)] [false]], [⟨false, [(.int .i64)], [false]⟩], false, false⟩
def yAJ : Sig := ⟨[.p none qz0 (nf 3), .v false [(.sl 9 QN)] [false]], [⟨false, [.str], [false]⟩], false, false⟩
def yAK : Sig := ⟨[.p none qz0 (nf 3)], [⟨false, [.str], [false]⟩], false, false⟩
def yAL : Sig := ⟨[.p none qz0 (nf 3)], [⟨false, [(.int .i64)], [false]⟩], false, false⟩
def yAM : Sig := ⟨[.p none qz0 (nf 3)], [⟨true, yji, (nf 5)⟩], false, false⟩
def ypB : Sig := ⟨[], [⟨true, qz8, [true, true]⟩], false, false⟩
def ypC : Sig := ⟨[], [⟨false, [(.sl 53 yj)], [true]⟩], false, false⟩
def yAN : Sig := ⟨[], [⟨true, qz9, [true, true, true, true, true, false]⟩], false, false⟩
def ypD : Sig := ⟨[.v false [(.int .i64)] [false], .v false [(.int .i64)] [false], .v false [(.int .i64)] [false]], [⟨false, [.bool], [false]⟩], false, false⟩
def ypE : Sig := ⟨[.v false [.str] [false]], [⟨false, [.bool], [false]⟩], false, false⟩
def ypF : Sig := ⟨[.v false [(.int .i64)] [false]], [⟨false, [.bool], [false]⟩], false, false⟩
def ypG : Sig := ⟨[.v true yji (nf 5)], [⟨false, [.bool], [false]⟩], false, false⟩
def ypH : Sig := ⟨[.v true yji (nf 5)], [⟨false, [.bool], [false]⟩], false, false⟩
def ypI : Sig := ⟨[.v true Vs (nf 5)], [⟨false, [.bool], [false]⟩], false, false⟩
def ypJ : Sig := ⟨[.v true Vs (nf 5), .v true Vs (nf 5)], [⟨false, [.bool], [false]⟩], false, false⟩
def ypK : Sig := ⟨[.v false [(.sl 63 yg)] [false]], [⟨false, [.bool], [false]⟩], false, false⟩
def ypL : Sig := ⟨[.v false [(.sl 63 yg)] [false]], [⟨false, [.bool], [false]⟩], false, false⟩
def ypM : Sig := ⟨[.v true [(.sl 58 yp)] [false]], [⟨false, [(.int .i64)], [false]⟩], false, false⟩
def ypN : Sig := ⟨[.v true [(.sl 58 yp)] [false]], [⟨false, [.bool], [false]⟩], false, false⟩
def ypO : Sig := ⟨[.v false [(.sl 63 yg)] [false]], [⟨false, [(.sl 63 yg)], [true]⟩], false, false⟩
def ypP : Sig := ⟨[.v true Vs (nf 5), .v true Vs (nf 5)], [⟨false, [.bool], [false]⟩], false, false⟩
def ypQ : Sig := ⟨[.v false [(.sl 63 yg)] [false], .v true Vs (nf 5)], [⟨false, [(.sl 63 yg)], [true]⟩], false, false⟩
def ypR : Sig := ⟨[.v false [(.sl 63 yg)] [false], .v false [(.sl 63 yg)] [false]], [⟨false, [(.sl 63 yg)], [true]⟩], false, false⟩
def ypS : Sig := ⟨[.v true [(.sl 58 yp)] [false]], [⟨false, [(.sl 63 yg)], [true]⟩], false, false⟩
def ypT : Sig := ⟨[.v false [(.int .i64)] [false], .v false [(.int .i64)] [false]], [⟨false, [(.int .i64)], [false]⟩], false, false⟩
def ypU : Sig := ⟨[.v true Vs (nf 5)], [⟨false, [(.int .i64)], [false]⟩], false, false⟩
def ypV : Sig := ⟨[.v true qz8 [false, false], .v false [(.int .i64)] [false]], [⟨false, [.bool], [false]⟩], false, false⟩
def ypW : Sig := ⟨[.v true qz8 [false, false]], [⟨false, [(.sl 63 yg)], [true]⟩], false, false⟩
def ypX : Sig := ⟨[.v true qz8 [false, false]], [⟨false, [.bool], [false]⟩], false, false⟩
def ypY : Sig := ⟨[.v false [(.sl 67 yo)] [false], .v false [(.int .i64)] [false]], [⟨false, [(.int .i64)], [false]⟩], false, false⟩
def ypZ : Sig := ⟨[.v false [(.sl 67 yo)] [false]], [⟨false, [.bool], [false]⟩], false, false⟩
def yq0 : Sig := ⟨[.v false [(.sl 53 yj)] [false]], [⟨false, [.bool], [false]⟩], false, false⟩
def yq1 : Sig := ⟨[.v false [(.sl 67 yo)] [false], .v false [(.int .i64)] [false]], [⟨false, [(.sl 3 yd)], [true]⟩], false, false⟩
def yq2 : Sig := ⟨[.v true qz9 (nf 6)], [⟨false, [.bool], [false]⟩], false, false⟩
def yq3 : Sig := ⟨[.v false [(.sl 53 yj)] [false], .v false [(.int .i64)] [false], .v false [(.int .i64)] [false]], [⟨false, [(.int .i64)], [false]⟩, ⟨false, [.bool], [false]⟩], false, false⟩
def yq4 : Sig := ⟨[.v false [(.sl 53 yj)] [false]], [⟨false, [(.int .i64)], [false]⟩], false, false⟩
def yq5 : Sig := ⟨[.v true qz9 (nf 6)], [⟨false, [.bool], [false]⟩], false, false⟩
def yq6 : Sig := ⟨[.v true qz9 (nf 6)], [⟨false, [.bool], [false]⟩], false, false⟩
def yq7 : Sig := ⟨[.v true [(.sl 58 yp)] [false]], [⟨true, [(.sl 58 yp)], [true]⟩], false, false⟩
def yq8 : Sig := ⟨[.v true qz8 [false, false]], [⟨true, qz8, [true, true]⟩], false, false⟩
def yq9 : Sig := ⟨[.v false [(.sl 53 yj)] [false]], [⟨false, [(.sl 53 yj)], [true]⟩], false, false⟩
def yqa : Sig := ⟨[.v true qz9 (nf 6)], [⟨true, qz9, [true, true, true, true, true, false]⟩], false, false⟩
def yqb : Sig := ⟨[.v true qz9 (nf 6), .v false [.str] [false]], [⟨false, [(.int .i64)], [false]⟩], false, false⟩
def yqc : Sig := ⟨[.v true qz9 (nf 6), .v false [.str] [false]], [⟨false, [(.int .i64)], [false]⟩], false, false⟩
def yqd : Sig := ⟨[.v false [(.sl 67 yo)] [false], .v false [(.int .i64)] [false], .v false [(.int .i64)] [false]], [⟨false, [(.sl 67 yo)], [true]⟩, ⟨false, [.bool], [false]⟩], false, false⟩
def yqe : Sig := ⟨[.v false [(.sl 41 yO)] [false], .v true yem (nf 4)], [⟨false, [(.sl 41 yO)], [true]⟩], false, false⟩
def yqf : Sig := ⟨[.v true qz9 (nf 6), .v true qz9 [false, false, false, true, true, false], .v false [.bool] [false]], [⟨true, qz9, [false, false, false, true, true, false]⟩, ⟨false, [(.int .i64)], [false]⟩], false, false⟩
def yqg : Sig := ⟨[.v true qz9 (nf 6), .v false [.str] [false], .v false [(.int .i64)] [false]], [⟨true, qz9, [false, false, false, true, true, false]⟩, ⟨false, [(.int .i64)], [false]⟩], false, false⟩
def yqh : Sig := ⟨[.v true qz9 (nf 6), .v false [.str] [false], .v false [.str] [false], .v false [.bool] [false]], [⟨true, qz9, [false, false, false, true, true, false]⟩, ⟨false, [(.int .i64)], [false]⟩], false, false⟩
def yqi : Sig := ⟨[.v true qz9 (nf 6), .v false [.str] [false]], [⟨false, [(.int .i64)], [false]⟩], false, false⟩
def yqj : Sig := ⟨[.v true qz9 (nf 6), .v false [.str] [false]], [⟨true, qz9, [false, false, false, true, true, false]⟩, ⟨false, [(.int .i64)], [false]⟩], false, false⟩
def yqk : Sig := ⟨[.v true qz9 (nf 6), .v false [.str] [false], .v false [(.int .i64)] [false]], [⟨false, [(.int .i64)], [false]⟩], false, false⟩
def yql : Sig := ⟨[.v false [(.sl 53 yj)] [false], .v false [(.int .i64)] [false]], [⟨false, [(.sl 53 yj)], [true]⟩, ⟨false, [(.int .i64)], [false]⟩, ⟨false, [.bool], [false]⟩], false, false⟩
def yqm : Sig := ⟨[.v true qz8 [false, false], .v false [(.int .i64)] [false], .v false [(.int .i64)] [false]], [⟨false, [(.int .i64)], [false]⟩], false, false⟩
def yqn : Sig := ⟨[.v false [(.sl 63 yg)] [false], .v false [(.int .i64)] [false], .v false [(.int .i64)] [false]], [⟨true, Vs, (nf 5)⟩, ⟨false, [.bool], [false]⟩], false, false⟩
def yqo : Sig := ⟨[.v true [(.sl 58 yp)] [false], .v false [(.int .i64)] [false], .v false [(.int .i64)] [false]], [⟨true, Vs, (nf 5)⟩, ⟨false, [.bool], [false]⟩], false, false⟩
def yqp : Sig := ⟨[.v true qz8 [false, false], .v false [(.int .i64)] [false], .v false [(.int .i64)] [false]], [⟨true, Vs, (nf 5)⟩, ⟨false, [.bool], [false]⟩], false, false⟩
def yqq : Sig := ⟨[.v false [(.sl 63 yg)] [false]], [⟨true, [(.sl 58 yp)], [true]⟩], false, false⟩
def yqr : Sig := ⟨[.v true [(.sl 58 yp)] [false], .v true Vs (nf 5)], [⟨true, [(.sl 58 yp)], [true]⟩, ⟨false, [.bool], [false]⟩], false, false⟩
def yqs : Sig := ⟨[.v true qz8 [true, true], .v false [(.int .i64)] [false], .v false [(.sl 3 yd)] [false], .v false [(.sl 99 yl)] [false]], [⟨true, qz8, [true, true]⟩], false, true⟩
def yqt : Sig := ⟨[.v true qz8 [false, false]], [⟨false, [(.int .i64)], [false]⟩], false, false⟩
def yqu : Sig := ⟨[.v true qz8 [true, true]], [⟨true, qz8, [true, true]⟩], false, false⟩
def yqv : Sig := ⟨[.v true qz8 [false, false], .v true Vs (nf 5)], [⟨true, qz8, [true, true]⟩, ⟨false, [.bool], [false]⟩], false, false⟩
def yqw : Sig := ⟨[.v false [(.sl 53 yj)] [false], .v false [(.int .i64)] [false]], [⟨false, [(.sl 53 yj)], [true]⟩], false, false⟩
def yqx : Sig := ⟨[.p none qz9 [false, false, false, true, true, false], .v true Vs (nf 5), .v false [.bool] [false]], [], false, false⟩
def yqy : Sig := ⟨[.p none qz9 [false, false, false, true, true, false], .v true Vs (nf 5)], [⟨false, [.bool], [false]⟩], false, false⟩
def yqz : Sig := ⟨[.v true qz9 (nf 6), .v false [.str] [false], .v false [(.int .i64)] [false], .v false [(.int .i64)] [false]], [⟨true, qz9, [false, false, false, true, true, false]⟩, ⟨false, [(.int .i64)], [false]⟩], false, false⟩
def yqA : Sig := ⟨[.v false [(.sl 67 yo)] [false], .v false [(.int .i64)] [false]], [⟨false, [(.sl 3 yd)], [true]⟩], false, false⟩
def yqB : Sig := ⟨[.v true qz8 [false, false], .v false [(.int .i64)] [false]], [⟨false, [(.sl 63 yg)], [true]⟩], false, false⟩
def yqC : Sig := ⟨[.v false [(.sl 3 yd)] [false], .v false [(.int .i64)] [false]], [⟨false, [.bool], [false]⟩], false, false⟩
def yqD : Sig := ⟨[.v true qz8 [false, false], .v false [(.int .i64)] [false], .v false [(.sl 3 yd)] [false]], [⟨true, Vs, (nf 5)⟩, ⟨false, [.bool], [false]⟩], false, false⟩
def yqE : Sig := ⟨[.v true qz8 [false, false], .v false [(.sl 67 yo)] [false], .v false [(.int .i64)] [false], .v false [(.int .i64)] [false]], [⟨true, Vs, (nf 5)⟩, ⟨false, [.bool], [false]⟩], false, false⟩
def yqF : Sig := ⟨[.p none qz9 [false, false, false, true, true, false], .v false [(.int .i64)] [false], .v false [(.int .i64)] [false]], [⟨false, [.bool], [false]⟩], false, false⟩
def yqG : Sig := ⟨[.v true qz9 (nf 6), .v false [.str] [false], .v false [(.int .i64)] [false]], [⟨true, qz9, [false, false, false, true, true, false]⟩, ⟨false, [(.int .i64)], [false]⟩], false, false⟩
def yqH : Sig := ⟨[.v true qz9 (nf 6), .v false [.str] [false], .v false [(.int .i64)] [false]], [⟨true, qz9, [false, false, false, true, true, false]⟩, ⟨false, [(.int .i64)], [false]⟩], false, false⟩
def yqI : Sig := ⟨[.v true qz8 [false, false], .v false [(.sl 67 yo)] [false], .v false [(.int .i64)] [false], .v false [(.int .i64)] [false]], [⟨true, Vs, (nf 5)⟩, ⟨false, [.bool], [false]⟩], false, false⟩
def yqJ : Sig := ⟨[.v true qz8 [false, false], .v false [(.sl 67 yo)] [false], .v true Vs (nf 5), .v false [(.int .i64)] [false]], [⟨false, [.bool], [false]⟩], false, false⟩
def yqK : Sig := ⟨[.v true qz9 (nf 6), .v true Vs (nf 5)], [⟨false, [.bool], [false]⟩], false, false⟩
def yqL : Sig := ⟨[.v true qz9 (nf 6), .v false [(.int .i64)] [false]], [⟨false, [.bool], [false]⟩], false, false⟩
def yqM : Sig := ⟨[.v true qz9 (nf 6), .v false [(.int .i64)] [false]], [⟨false, [(.int .i64)], [false]⟩], false, false⟩
def yqN : Sig := ⟨[.v true qz9 (nf 6), .v true Vs (nf 5)], [⟨false, [.bool], [false]⟩], false, false⟩
def yqO : Sig := ⟨[.v true qz9 (nf 6), .v false [(.int .i64)] [false], .v true Vs (nf 5)], [⟨false, [.bool], [false]⟩], false, false⟩
def yqP : Sig := ⟨[.v true qz9 (nf 6), .v false [(.int .i64)] [false]], [⟨false, [.bool], [false]⟩], false, false⟩
def yqQ : Sig := ⟨[.v true qz9 (nf 6)], [⟨false, [(.int .i64)], [false]⟩, ⟨false, [(.int .i64)], [false]⟩], false, false⟩
def yqR : Sig := ⟨[.p none qz9 [false, false, false, true, true, false], .v true Vs (nf 5)], [⟨false, [.bool], [false]⟩], false, false⟩
def yqS : Sig := ⟨[.v false [(.sl 67 yo)] [false], .v false [(.int .i64)] [false]], [⟨false, [(.sl 67 yo)], [true]⟩, ⟨false, [.bool], [false]⟩], false, false⟩
def yqT : Sig := ⟨[.v true qz9 (nf 6)], [⟨true, qz9, [false, false, false, true, true, false]⟩, ⟨false, [.bool], [false]⟩], false, false⟩
def yqU : Sig := ⟨[.v true [(.sl 58 yp)] [false]], [⟨true, [(.sl 58 yp)], [true]⟩], false, false⟩
def yqV : Sig := ⟨[.v true qz8 [false, false], .v false [(.int .i64)] [false]], [⟨true, qz8, [true, true]⟩], false, false⟩
def yqW : Sig := ⟨[.v true qz9 (nf 6), .v false [(.int .i64)] [false]], [⟨true, qz9, [true, true, true, true, true, false]⟩, ⟨false, [.bool], [false]⟩], false, false⟩
def yqX : Sig := ⟨[.v true qz9 (nf 6), .v false [(.int .i64)] [false]], [⟨true, Vs, (nf 5)⟩], false, false⟩
def yqY : Sig := ⟨[.v true qz9 (nf 6), .v false [(.int .i64)] [false]], [⟨true, qz9, [true, true, true, true, true, false]⟩, ⟨false, [.bool], [false]⟩], false, false⟩
def yqZ : Sig := ⟨[.v true qz9 (nf 6), .v true yji (nf 5)], [⟨true, qz9, [false, false, false, true, true, false]⟩, ⟨false, [.bool], [false]⟩], false, false⟩
def yAO : Sig := ⟨[.v true qz9 (nf 6), .v true yji (nf 5)], [⟨true, qz9, [false, false, false, true, true, false]⟩, ⟨false, [(.int .i64)], [false]⟩], false, false⟩
def yAP : Sig := ⟨[.p none qz0 (nf 3), .v false [(.int .i64)] [false]], [⟨true, qz9, [false, false, false, true, true, false]⟩], false, false⟩
def yAQ : Sig := ⟨[.v false [(.sl 5 kL)] [false], .v false [(.int .i64)] [false]], [⟨false, [(.int .i64)], [false]⟩], false, false⟩
def sg8 : Sig := ⟨[.v false [(.sl 5 kL)] [false]], [⟨true, qz9, [false, false, false, true, true, false]⟩, ⟨true, yji, (nf 5)⟩], false, false⟩
def yAR : Sig := ⟨[.v false [(.sl 3 yd)] [false], .v false [(.sl 3 yd)] [false]], [⟨false, [.bool], [false]⟩], false, false⟩
def yr0 : Sig := ⟨[.v false [(.sl 63 yg)] [false], .v false [(.sl 63 yg)] [false]], [⟨false, [.bool], [false]⟩], false, false⟩
def yAS : Sig := ⟨[.v true [(.sl 58 yp)] [false], .v true [(.sl 58 yp)] [false]], [⟨false, [.bool], [false]⟩], false, false⟩
def yAT : Sig := ⟨[.v true qz8 [false, false], .v true qz8 [false, false]], [⟨false, [.bool], [false]⟩], false, false⟩
def yAU : Sig := ⟨[.v false [(.sl 67 yo)] [false], .v false [(.sl 67 yo)] [false]], [⟨false, [.bool], [false]⟩], false, false⟩
def yAV : Sig := ⟨[.v false [(.sl 53 yj)] [false], .v false [(.sl 53 yj)] [false]], [⟨false, [.bool], [false]⟩], false, false⟩
def yAW : Sig := ⟨[.v true qz9 (nf 6), .v true qz9 (nf 6)], [⟨false, [.bool], [false]⟩], false, false⟩
def yAX : Sig := ⟨[.v false [(.int .i64)] [false], .v false [(.int .i64)] [false], .v false [(.int .i64)] [false]], [⟨false, [.bool], [false]⟩], false, false⟩
def yr1 : Sig := ⟨[.v true Vs (nf 5), .v true Vs (nf 5)], [⟨false, [.bool], [false]⟩], false, false⟩
def yr2 : Sig := ⟨[.v true Vs (nf 5), .v true Vs (nf 5)], [⟨false, [.bool], [false]⟩], false, false⟩
def yr3 : Sig := ⟨[.v false [(.sl 63 yg)] [false], .v true Vs (nf 5)], [⟨false, [(.sl 63 yg)], [true]⟩], false, false⟩
def yr4 : Sig := ⟨[.v false [(.sl 63 yg)] [false]], [⟨false, [(.sl 63 yg)], [true]⟩], false, false⟩
def yr5 : Sig := ⟨[.v false [(.sl 63 yg)] [false], .v false [(.sl 63 yg)] [false]], [⟨false, [(.sl 63 yg)], [true]⟩], false, false⟩
def yr6 : Sig := ⟨[.v false [(.sl 63 yg)] [false]], [⟨false, [(.sl 63 yg)], [true]⟩], false, false⟩
def yAY : Sig := ⟨[.v true [(.sl 58 yp)] [false]], [⟨false, [(.sl 63 yg)], [true]⟩], false, false⟩
def yAZ : Sig := ⟨[.v true qz8 [false, false]], [⟨false, [(.sl 63 yg)], [true]⟩], false, false⟩
def yr7 : Sig := ⟨[.v true qz8 [false, false], .v false [(.int .i64)] [false]], [⟨false, [(.sl 63 yg)], [true]⟩], false, false⟩
def yr8 : Sig := ⟨[.v false [(.sl 3 yd)] [false], .v false [(.int .i64)] [false]], [⟨false, [(.int .i64)], [false]⟩], false, false⟩
def yr9 : Sig := ⟨[.v false [(.sl 3 yd)] [false], .v false [(.int .i64)] [false]], [⟨false, [.bool], [false]⟩], false, false⟩
def yra : Sig := ⟨[.v true qz8 [false, false], .v false [(.int .i64)] [false], .v false [(.sl 3 yd)] [false]], [⟨true, Vs, (nf 5)⟩, ⟨false, [.bool], [false]⟩], false, false⟩
def yrb : Sig := ⟨[.v true ykF [false, false], .p none [(.int .i64)] [false]], [⟨false, [.bool], [false]⟩], false, false⟩
def yd3 : Sig := ⟨[.v false [(.sl 67 yo)] [false], .p (some 129) [(.int .i64)] [false]], [⟨false, [(.int .i64)], [false]⟩], false, false⟩
def yB0 : Sig := ⟨[.v false [(.sl 67 yo)] [false], .v false [(.int .i64)] [false]], [⟨false, [(.int .i64)], [false]⟩], false, false⟩
def yrc : Sig := ⟨[.v false [(.sl 67 yo)] [false], .v false [(.int .i64)] [false]], [⟨false, [(.sl 3 yd)], [true]⟩], false, false⟩
def yB1 : Sig := ⟨[.v true qz8 [false, false], .v false [(.sl 67 yo)] [false], .v false [(.int .i64)] [false], .v false [(.int .i64)] [false]], [⟨true, Vs, (nf 5)⟩, ⟨false, [.bool], [false]⟩], false, false⟩
def yB2 : Sig := ⟨[.v false [(.sl 53 yj)] [false], .v false [(.int .i64)] [false], .v false [(.int .i64)] [false]], [⟨false, [(.int .i64)], [false]⟩, ⟨false, [.bool], [false]⟩], false, false⟩
def yB3 : Sig := ⟨[.v true qz9 (nf 6), .v false [(.int .i64)] [false], .v false [(.int .i64)] [false]], [⟨false, [(.int .i64)], [false]⟩], false, false⟩
def yB4 : Sig := ⟨[.v true qz9 (nf 6)], [⟨false, [(.sl 89 Jg)], [true]⟩], false, false⟩
def yB5 : Sig := ⟨[.v false [(.sl 53 yj)] [false]], [⟨false, [(.int .i64)], [false]⟩], false, false⟩
def yB6 : Sig := ⟨[.v true Vs (nf 5)], [⟨false, [.bool], [false]⟩], false, false⟩
def yrd : Sig := ⟨[.v false [(.sl 63 yg)] [false]], [⟨false, [.bool], [false]⟩], false, false⟩
def yB7 : Sig := ⟨[.v true [(.sl 58 yp)] [false]], [⟨false, [.bool], [false]⟩], false, false⟩
def yB8 : Sig := ⟨[.v false [(.int .i64)] [false], .v false [(.int .i64)] [false]], [⟨false, [(.int .i64)], [false]⟩], false, false⟩
def yB9 : Sig := ⟨[.v true qz8 [false, false], .v false [(.int .i64)] [false]], [⟨false, [.bool], [false]⟩], false, false⟩
def yBa : Sig := ⟨[.v true qz8 [false, false]], [⟨false, [.bool], [false]⟩], false, false⟩
def yBb : Sig := ⟨[.v false [(.sl 67 yo)] [false]], [⟨false, [.bool], [false]⟩], false, false⟩
def yBc : Sig := ⟨[.v false [(.int .i64)] [false]], [⟨false, [.bool], [false]⟩], false, false⟩
def yBd : Sig := ⟨[.v false [(.sl 53 yj)] [false]], [⟨false, [.bool], [false]⟩], false, false⟩
def yBe : Sig := ⟨[.v false [(.sl 67 yo)] [false], .v false [(.int .i64)] [false]], [⟨false, [(.sl 3 yd)], [true]⟩], false, false⟩
def yBf : Sig := ⟨[.v false [.str] [false]], [⟨false, [.bool], [false]⟩], false, false⟩
def yBg : Sig := ⟨[.v true yem (nf 4), .p none yem (nf 4)], [⟨false, [.bool], [false]⟩], false, false⟩
def yd4 : Sig := ⟨[.v false [(.sl 41 yO)] [false], .p (some 98) yem (nf 4)], [⟨false, [(.int .i64)], [false]⟩], false, false⟩
def yd5 : Sig := ⟨[.v false [(.sl 41 yO)] [false], .p (some 98) yem (nf 4)], [⟨false, [.bool], [false]⟩], false, false⟩
def yBh : Sig := ⟨[.v true qz9 (nf 6)], [⟨false, [.bool], [false]⟩], false, false⟩
def yBi : Sig := ⟨[.v true qz9 (nf 6)], [⟨false, [.bool], [false]⟩], false, false⟩
def yBj : Sig := ⟨[.v true qz9 (nf 6)], [⟨false, [.bool], [false]⟩], false, false⟩
def yBk : Sig := ⟨[.v false [(.sl 3 yd)] [false], .v false [(.sl 3 yd)] [false]], [⟨false, [.bool], [false]⟩], false, false⟩
def yBl : Sig := ⟨[.v true ypy (nf 3), .v true ypy (nf 3)], [⟨false, [.bool], [false]⟩], false, false⟩
def yd6 : Sig := ⟨[.v false [(.sl 89 Jg)] [false], .v false [(.sl 89 Jg)] [false], .k 59], [⟨false, [.bool], [false]⟩], false, false⟩
def yBm : Sig := ⟨[.v false [(.sl 89 Jg)] [false], .v false [(.sl 89 Jg)] [false]], [⟨false, [.bool], [false]⟩], false, false⟩
def yBn : Sig := ⟨[.v true yem (nf 4), .p none [(.int .i64)] [false]], [⟨false, [.bool], [false]⟩], false, false⟩
def yd7 : Sig := ⟨[.v false [(.sl 41 yO)] [false], .p (some 67) [(.int .i64)] [false]], [⟨false, [(.int .i64)], [false]⟩], false, false⟩
def yd8 : Sig := ⟨[.v false [(.sl 41 yO)] [false], .p (some 67) [(.int .i64)] [false]], [⟨false, [.bool], [false]⟩], false, false⟩
def yBo : Sig := ⟨[.v true qz9 (nf 6), .v false [(.int .i64)] [false]], [⟨false, [.bool], [false]⟩], false, false⟩
def yBp : Sig := ⟨[.v true qz8 [false, false], .v false [(.sl 67 yo)] [false], .v true Vs (nf 5), .v false [(.int .i64)] [false]], [⟨false, [.bool], [false]⟩], false, false⟩
def yBq : Sig := ⟨[.v true qz9 (nf 6), .v true Vs (nf 5)], [⟨false, [.bool], [false]⟩], false, false⟩
def yBr : Sig := ⟨[.v true qz8 [false, false], .v false [(.int .i64)] [false], .v false [(.int .i64)] [false]], [⟨false, [(.int .i64)], [false]⟩], false, false⟩
def yre : Sig := ⟨[.v false [(.sl 63 yg)] [false], .v false [(.int .i64)] [false], .v false [(.int .i64)] [false]], [⟨true, Vs, (nf 5)⟩, ⟨false, [.bool], [false]⟩], false, false⟩
def yrf : Sig := ⟨[.v true [(.sl 58 yp)] [false], .v false [(.int .i64)] [false], .v false [(.int .i64)] [false]], [⟨true, Vs, (nf 5)⟩, ⟨false, [.bool], [false]⟩], false, false⟩
def yBs : Sig := ⟨[.v true qz8 [false, false], .v false [(.int .i64)] [false], .v false [(.int .i64)] [false]], [⟨true, Vs, (nf 5)⟩, ⟨false, [.bool], [false]⟩], false, false⟩
def yBt : Sig := ⟨[.v true qz8 [false, false], .v false [(.sl 67 yo)] [false], .v false [(.int .i64)] [false], .v false [(.int .i64)] [false]], [⟨true, Vs, (nf 5)⟩, ⟨false, [.bool], [false]⟩], false, false⟩
def yBu : Sig := ⟨[.v true qz9 (nf 6), .v false [(.int .i64)] [false], .v true Vs (nf 5)], [⟨false, [.bool], [false]⟩], false, false⟩
def yBv : Sig := ⟨[.v false [(.sl 63 yg)] [false], .v false [(.int .i64)] [false]], [⟨false, [.bool], [false]⟩], false, false⟩
def yBw : Sig := ⟨[.v true qz9 (nf 6)], [⟨false, [(.int .i64)], [false]⟩, ⟨false, [(.int .i64)], [false]⟩], false, false⟩
def yrg : Sig := ⟨[.v false [(.sl 3 yd)] [false]], [⟨false, [(.sl 3 yd)], [true]⟩], false, false⟩
def yrh : Sig := ⟨[.v true [(.sl 58 yp)] [false]], [⟨true, [(.sl 58 yp)], [true]⟩], false, false⟩
def yBx : Sig := ⟨[.v true qz8 [false, false]], [⟨true, qz8, [true, true]⟩], false, false⟩
def yBy : Sig := ⟨[.v false [(.sl 67 yo)] [false]], [⟨false, [(.sl 67 yo)], [true]⟩], false, false⟩
def yBz : Sig := ⟨[.v false [(.sl 53 yj)] [false]], [⟨false, [(.sl 53 yj)], [true]⟩], false, false⟩
def yBA : Sig := ⟨[.v true qz9 (nf 6)], [⟨true, qz9, [true, true, true, true, true, false]⟩], false, false⟩
def yBB : Sig := ⟨[.v true [(.sl 58 yp)] [false], .v true Vs (nf 5)], [⟨false, [(.sl 63 yg)], [true]⟩], false, false⟩
def yBC : Sig := ⟨[.v false [(.sl 63 yg)] [false]], [⟨true, [(.sl 58 yp)], [true]⟩], false, false⟩
def yBD : Sig := ⟨[.v true [(.sl 58 yp)] [false], .v true Vs (nf 5)], [⟨true, [(.sl 58 yp)], [true]⟩, ⟨false, [.bool], [false]⟩], false, false⟩
def yBE : Sig := ⟨[.v true qz8 [false, false], .v false [(.int .i64)] [false], .v false [(.int .i64)] [false], .v false [(.sl 3 yd)] [false], .v false [(.sl 99 yl)] [false]], [⟨true, qz8, [true, true]⟩], false, false⟩
def yBF : Sig := ⟨[.v true qz8 [false, false]], [⟨true, qz8, [false, false]⟩], false, false⟩
def yBG : Sig := ⟨[.v true qz8 [false, false], .v true Vs (nf 5)], [⟨true, qz8, [false, false]⟩, ⟨false, [.bool], [false]⟩], false, false⟩
def yBH : Sig := ⟨[.v false [(.sl 53 yj)] [false], .v false [(.int .i64)] [false]], [⟨false, [(.sl 53 yj)], [true]⟩], false, false⟩
def yBI : Sig := ⟨[.p none qz9 [false, false, false, false, true, false], .v true Vs (nf 5)], [⟨false, [.bool], [false]⟩], false, false⟩
def yfO : Sig := ⟨[.v false [(.sl 67 yo)] [true], .v false [(.int .i64)] [false], .v false [(.int .i64)] [false]], [⟨false, [(.sl 67 yo)], [true]⟩], false, false⟩
def yri : Sig := ⟨[.v false [(.sl 67 yo)] [false], .v false [(.int .i64)] [false]], [⟨false, [(.sl 67 yo)], [true]⟩, ⟨false, [.bool], [false]⟩], false, false⟩
def yBJ : Sig := ⟨[.p none qz9 [false, false, false, false, true, false], .v false [(.int .i64)] [false], .v false [(.int .i64)] [false]], [⟨false, [.bool], [false]⟩], false, false⟩
def yBK : Sig := ⟨[.v true qz9 (nf 6)], [⟨true, qz9, [false, false, false, false, true, false]⟩, ⟨false, [.bool], [false]⟩], false, false⟩
def sg5 : Sig := ⟨[.v false [(.sl 5 kL)] [false]], [⟨false, [.bool], [false]⟩], false, false⟩
def yCB : List (Nat × Sig) := [(7, sg7), (32, yAG), (106, ypA), (69, yAH), (71, yAI), (72, yAJ), (73, yAK), (74, yAL), (35, yAM), (104, ypB), (105, ypC), (68, yAN), (132, ypD), (131, ypE), (133, ypF), (134, ypG), (107, ypH), (183, ypI), (201, ypJ), (208, ypK), (196, ypL), (197, ypM), (178, ypN), (186, ypO), (202, ypP), (187, ypQ), (198, ypR), (179, ypS), (199, ypT), (180, ypU), (159, ypV), (160, ypW), (135, ypX), (161, ypY), (136, ypZ), (137, yq0), (162, yq1), (138, yq2), (163, yq3), (164, yq4), (139, yq5), (108, yq6), (165, yq7), (140, yq8), (141, yq9), (109, yqa), (142, yqb), (143, yqc), (144, yqd), (145, yqe), (146, yqf), (110, yqg), (111, yqh), (147, yqi), (112, yqj), (148, yqk), (149, yql), (181, yqm), (200, yqn), (182, yqo), (166, yqp), (188, yqq), (184, yqr), (185, yqs), (203, yqt), (189, yqu), (167, yqv), (176, yqw), (168, yqx), (150, yqy), (113, yqz), (190, yqA), (204, yqB), (205, yqC), (191, yqD), (169, yqE), (151, yqF), (114, yqG), (115, yqH), (210, yqI), (209, yqJ), (206, yqK), (194, yqL), (172, yqM), (207, yqN), (192, yqO), (193, yqP), (170, yqQ), (171, yqR), (173, yqS), (152, yqT), (195, yqU), (174, yqV), (153, yqW), (175, yqX), (154, yqY), (116, yqZ), (70, yAO), (33, yAP), (34, yAQ), (8, sg8), (83, yAR), (123, yr0), (84, yAS), (43, yAT), (44, yAU), (45, yAV), (12, yAW), (47, yAX), (157, yr1), (158, yr2), (125, yr3), (126, yr4), (101, yr5), (102, yr6), (63, yAY), (23, yAZ), (155, yr7), (177, yr8), (156, yr9), (118, yra), (129, yrb), (100000, yd3), (97, yB0), (119, yrc), (77, yB1), (78, yB2), (37, yB3), (17, yB4), (18, yB5), (87, yB6), (127, yrd), (95, yB7), (92, yB8), (96, yB9), (53, yBa), (54, yBb), (38, yBc), (55, yBd), (28, yBe), (76, yBf), (98, yBg), (100002, yd4), (100001, yd5), (56, yBh), (57, yBi), (19, yBj), (99, yBk), (59, yBl), (100003, yd6), (20, yBm), (67, yBn), (100005, yd7), (100004, yd8), (27, yBo), (65, yBp), (26, yBq), (88, yBr), (124, yre), (122, yrf), (82, yBs), (85, yBt), (61, yBu), (62, yBv), (22, yBw), (120, yrg), (121, yrh), (79, yBx), (80, yBy), (81, yBz), (39, yBA), (90, yBB), (93, yBC), (89, yBD), (91, yBE), (94, yBF), (50, yBG), (51, yBH), (41, yBI), (130, yfO), (100, yri), (60, yBJ), (21, yBK), (5, sg5)]
def yvD : List (Nat × (List Nat × List Nat)) := [
 (3200003, [0, 3, 4, 13, 14], [0, 3]),
 (13100002, [0, 3, 17, 18, 19, 20, 21, 22], [0, 2]),
 (20800002, [0, 3], [2]),
 (19600002, [0, 3, 19, 20, 21], [0, 2, 19, 20, 21]),
 (19700003, [1, 3, 4], [3]),
 (17800002, [1, 3, 19, 20, 21, 22, 23, 24, 25, 32, 33, 34], [1, 2, 32, 33, 34]),
 (18600003, [0, 3, 4], [3]),
 (18700004, [0, 3, 5, 6, 7, 18, 19, 20, 21, 22, 23, 24], [3, 5, 6]),
 (19800003, [1, 5, 6], [5]),
 (17900003, [1, 3, 4], [3]),
 (15900005, [1, 2, 5, 6, 61, 62, 63, 64, 65, 66, 67, 68, 69, 70, 71, 72, 73, 74, 75, 76], [4]),
 (15900008, [1, 2, 5, 6, 7, 61, 62, 63, 64, 65, 66, 67, 68, 69, 70, 71, 72, 73, 74, 75, 76], [1, 2, 4, 5, 6, 61, 62, 63, 64, 65, 66, 67, 68, 69, 70, 71, 72, 73, 74, 75, 76]),
 (16000003, [1, 3, 4], [3]),
 (13500004, [1, 3, 35, 36, 37, 38, 39, 40, 41, 42, 43, 44, 45, 46, 49, 50, 51, 52], [1, 2]),
 (16100002, [0, 1, 5], [4]),
 (13600002, [0, 3, 18, 19, 20, 21, 22, 23, 24, 25, 26, 27, 28, 29, 30, 31, 32, 33, 42, 43, 44, 45, 46, 47, 48, 49, 50, 51], [0, 2]),
 (13700002, [0, 3, 18, 19, 20, 21, 22, 23, 24, 27, 28, 29, 30, 31, 32, 33, 34, 35, 36, 37, 38, 39, 40], [0, 2]),
 (16200003, [0, 1, 5, 6, 22, 23], [5]),
 (13800002, [1, 3, 23, 24, 25, 26, 29, 30, 31, 32, 33, 34, 37, 38, 39, 40, 41, 42, 43, 46, 47, 48, 49, 50, 51, 52, 53, 54, 55, 56, 57, 58, 59], [1, 2]),
 (13800008, [1, 3, 4, 5, 23, 24, 25, 26, 29, 30, 31, 32, 33, 34, 37, 38, 39, 40, 41, 42, 43, 46, 47, 48, 49, 50, 51, 52, 53, 54, 55, 56, 57, 58, 59], [1, 2, 3, 23, 24, 25, 26, 29, 30, 31, 32, 33, 34, 37, 38, 39, 40, 41, 42, 43, 46, 47, 48, 49, 50, 51, 52, 53, 54, 55, 56, 57, 58, 59]),
 (16400003, [0, 3, 4], [3]),
 (13900004, [1, 3, 4, 5, 65, 66, 67, 68, 69, 70, 71, 72, 73, 74, 75], [1, 2, 4]),
 (13900014, [1, 3, 4, 5, 8, 65, 66, 67, 68, 69, 70, 71, 72, 73, 74, 75], [1, 2, 3, 4, 5, 65, 66, 67, 68, 69, 70, 71, 72, 73, 74, 75]),
 (10800002, [1, 3, 24, 25, 26, 29, 30, 31, 34, 35, 36, 39, 40, 43, 44], [1, 2, 24, 25, 26, 29, 30, 31, 34, 35, 36, 39, 40, 43, 44]),
 (16500003, [1, 2, 3, 4], [2, 3]),
 (14000003, [1, 2, 3, 4], [2, 3]),
 (14300002, [1, 2, 5], [4]),
 (14400004, [0, 1, 2, 8, 9, 10, 25, 26, 27, 28, 29, 30, 31, 59, 60, 61], [0, 1, 2, 8, 9, 59, 60, 61]),
 (14500003, [3, 5, 6, 19, 20, 21, 22, 23, 24, 25, 26, 27], [3, 5, 6]),
 (14900003, [0, 1, 7, 8, 16, 17, 20, 21], [4, 5, 6, 7]),
 (18100003, [1, 2, 3, 7, 8], [7]),
 (20000002, [0, 1, 2, 6, 8, 23, 24, 25, 26, 27, 28, 29], [6, 7]),
 (18200002, [1, 2, 3, 6, 8, 32, 33, 34], [6, 7]),
 (20300002, [1, 3], [2]),
 (18900002, [1, 2, 3], [1, 2]),
 (19000003, [0, 5, 6, 14, 15, 16, 17, 18], [5]),
 (20400004, [1, 5, 6, 7], [5]),
 (20500002, [0, 1, 5], [4]),
 (19100005, [2, 6, 8, 9, 10, 11, 30, 31, 32, 33, 34, 35, 36, 37, 38, 39, 40, 41], [6, 8, 9]),
 (11500010, [2, 3, 6, 8, 10, 11, 12, 43], [2, 3, 6, 8, 10, 11]),
 (20600002, [2, 3, 5, 23, 24, 25, 26, 27, 28, 29, 30, 31, 32, 33, 34], [4]),
 (19400002, [1, 2, 5], [4]),
 (19300003, [1, 2, 5, 6, 27, 28, 29, 30, 31, 32], [1, 2, 4, 27, 28, 29, 30, 31, 32]),
 (17000005, [1, 4, 5], [1, 2, 3]),
 (17000008, [1, 4, 5, 6], [1, 2, 3, 4, 5]),
 (17000013, [1, 7], [2, 3]),
 (17300006, [0, 1, 6, 7, 8], [7]),
 (17500003, [1, 4, 5, 6, 23, 24, 25, 26, 27, 28, 29], [4]),
 (3300003, [0, 4, 5, 6], [0, 4, 5]),
 (8300004, [0, 1, 5], [4]),
 (12300004, [0, 1, 5], [4]),
 (8400004, [2, 3, 5], [4]),
 (4300004, [2, 3, 5], [4]),
 (4400004, [0, 1, 5], [4]),
 (4500004, [0, 1, 5], [4]),
 (1200004, [2, 3, 5], [4]),
 (12500004, [3, 5, 6, 10, 11, 12, 19, 20, 21, 22], [3, 5, 6]),
 (10100003, [5, 10, 11, 12], [5]),
 (10200003, [3, 7, 8, 9], [3]),
 (6300003, [3, 8, 9, 10], [3]),
 (2300003, [3, 8, 9, 10], [3]),
 (15500003, [1, 5, 10, 11, 12], [5]),
 (17700002, [0, 1, 7, 8], [4]),
 (11800003, [2, 6, 8, 9, 15, 16, 17, 26, 27, 28, 29, 30, 31, 32, 33, 34], [6, 8, 9]),
 (10000000002, [0, 1, 7, 8], [1, 4]),
 (11900003, [0, 1, 5, 10, 11], [5]),
 (1700003, [1, 3, 10, 11, 12, 27, 28], [3]),
 (1700007, [1, 3, 4, 5, 6, 7, 10, 11, 12, 27, 28], [1, 3, 6, 10, 11, 12, 27, 28]),
 (1800003, [3, 6, 7, 8], [3]),
 (12700002, [0, 5, 6, 7, 16, 17, 18, 19, 20, 21, 22, 23, 24, 25, 26, 27], [0, 2]),
 (9500003, [1, 3, 7, 8, 9, 17, 18, 19, 31, 32], [1, 2, 3, 31, 32]),
 (9600002, [1, 2, 15, 16, 17, 40, 41, 42, 43, 44, 45, 46, 47, 48, 49, 50, 51, 52, 53, 54, 55], [4]),
 (9600005, [1, 2, 15, 16, 17, 21, 22, 23, 40, 41, 42, 43, 44, 45, 46, 47, 48, 49, 50, 51, 52, 53, 54, 55], [1, 2, 4, 15, 16, 17, 40, 41, 42, 43, 44, 45, 46, 47, 48, 49, 50, 51, 52, 53, 54, 55]),
 (5300005, [1, 3, 29, 30, 31, 39, 40, 41, 42, 43, 44, 45, 46, 47, 48, 49, 50, 53, 54, 55, 58, 59, 60, 61, 69, 70], [2, 3]),
 (5400002, [0, 5, 6, 7, 17, 18, 19, 20, 21, 22, 23, 24, 25, 26, 27, 28, 29, 32, 33, 34, 35, 36, 37, 38, 39, 40, 41, 42, 43], [0, 2]),
 (5500002, [0, 5, 6, 7, 16, 17, 18, 19, 22, 23, 24, 25, 26, 27, 28, 29], [0, 2]),
 (2800005, [1, 5, 12, 13, 14], [5]),
 (7600002, [0, 3, 17, 18, 19, 20, 21, 22], [0, 2]),
 (10000200002, [0, 1, 7, 8], [1, 4]),
 (5600002, [1, 6, 7, 8, 18, 19, 20, 21, 22, 23, 24, 25, 26, 27, 28, 29, 30, 31, 34, 35, 36, 37, 46, 47, 48, 49, 50, 51, 52], [1, 2]),
 (5700004, [1, 3, 4, 12, 13, 14, 40, 41, 42, 43, 44], [1, 2, 4]),
 (1900004, [1, 28, 29, 30, 43, 44], [1, 2, 43, 44]),
 (9900004, [0, 1, 12, 13], [4]),
 (10000300004, [1, 2, 15, 16, 17], [6]),
 (10000500002, [0, 1, 7, 8], [1, 4]),
 (2600002, [2, 3, 8, 9, 10, 20, 21, 22, 23, 24, 25, 26, 27], [4]),
 (8800002, [1, 2, 3, 7], [6]),
 (12400002, [1, 2, 6, 10, 11, 12, 21, 22, 23, 24], [6, 7]),
 (12200002, [1, 2, 3, 6, 8], [6, 7]),
 (6200002, [1, 7, 8, 9], [4]),
 (2200005, [1, 4, 17, 18, 19, 51, 52, 53, 54, 55, 56, 57, 60, 61, 62, 63, 64], [1, 2, 3, 4, 51, 52, 53, 54, 55, 56, 57, 60, 61, 62, 63, 64]),
 (2200008, [1, 4, 6, 17, 18, 19, 23, 24, 25, 51, 52, 53, 54, 55, 56, 57, 60, 61, 62, 63, 64], [1, 2, 3, 4, 17, 18, 19, 51, 52, 53, 54, 55, 56, 57, 60, 61, 62, 63, 64]),
 (2200015, [1, 4, 39, 40, 41, 51, 52, 53, 54, 55, 56, 57, 60, 61, 62, 63, 64], [2, 3]),
 (12100003, [2, 3, 8, 9, 10], [2, 3]),
 (7900003, [2, 3, 11, 12, 13], [2, 3]),
 (9400002, [1, 2, 3], [1, 2]),
 (10000006, [0, 1, 6, 7, 23, 24], [6, 7])]
def yBL : List (Nat × List Nat × Nat) := [(128, [129], 100000), (66, [98], 100001), (103, [98], 100002), (58, [59], 100003), (66, [67], 100004), (103, [67], 100005)]
def yvE : List (Nat × List Nat) := [(165, [22]), (140, [25]), (189, [2000000000006000001, 2000000000007000001, 1000033000000027, 1000046000000041, 1000048000000025, 49, 1000049000049000, 1000050000000046]), (167, [2000000000010000011, 49, 1000037000999999, 1000049000038000, 1000050000000047, 1000050000000049, 1000082000999999, 1000086000999999, 87, 1000087000083000, 1000087000087000]), (113, [60]), (169, [21]), (33, [1000019000000900]), (8, [1000015000008500]), (85, [20]), (121, [18]), (79, [21]), (94, [40, 1000039000000026, 1000040000040000]), (50, [2000000000011000010, 1000038000999999, 1000080000999999, 1000084000999999, 85, 1000085000081000, 1000085000085000])]
def C : Ctx := { info := yb0 ypz, sig := yb0 yCB, live := fun f i => yb0 yvD (100000 * f + i), key := Yk yBL, fid := ynx yBL, hint := yj6 yvE }
theorem tok : TOk C Tryz.prog := ynM (l := ypz) rfl (by kernel_rfl)
theorem yvF : Tryz.prog.follows .mixedOrders = true := by kernel_rfl
abbrev QF := Qf C Tryz.prog
abbrev EV (l : List QF) (lp : Lp) (n : Nat) (fn : Func) (sg : Sig) (ins outs : List Ty) (F : zh ins → Option (zh outs)) : Prop := ∀ x, yhj C (ykD l) lp n fn (qo fn) sg ins outs x = F x
abbrev LF (l : List QF) (lp : Lp) (n i : Nat) (fn : Func) (k : Nat) {T V : Type} (e : T → St) (g : Gk T) (inj : V → T) : Prop := LC C (ykD l) lp n i (cL fn k) e g inj
abbrev LK (l : List QF) (lp : Lp) (n : Nat) (fn : Func) (k : Nat) : Prop := y3v C (ykD l) lp n (cL fn k)
theorem okN {l : List QF} {lp : Lp} {f g : Nat} {fn : Func} {sg : Sig} {n : Nat} (hfn : Tryz.prog.funcs[g]? = some fn) (hl : ynL (y3v C (ykD l) lp f) (jo (qo fn)) n 0) {F : zh (C.ins f) → Option (zh (C.outs f))} (hF : ∀ x, yhj C (ykD l) lp f fn (qo fn) sg (C.ins f) (C.outs f) x = F x) (hsig : C.sig f = some sg := by kernel_rfl) (hB : fnB C f g fn sg n = true := by kernel_rfl) : jY C Tryz.prog f F := yuJ tok yvF hfn hsig hB hl hF
theorem lkN {call : C.Sem} {lp : Lp} {f i : Nat} {c : Code} {T : Type} {e : T → St} {u : St → Option T} {g : Gk T} (hu : ∀ s t, u s = some t → e t = s) (hc : LC C call lp f i c e @g (fun t => t)) (hl : laB C f i c = true := by kernel_rfl) (hb : LB lp i u @g := by intro R κ s; kernel_rfl) : y3v C call lp f c := yhQ hl hu hb hc
end Go.Proofs.YtjllpipmaejeoaaGreat.XV
