/- The context of the evaluator for W: types, signatures, slots that live at loops; by a program (dec.py). No condition. -/
import Derived.Test.YtjllpipmaejeoaaGreatProg
import Derived.Test.YtjllpipmaejeoaaGreatRRow
import Derived.KernelRfl
set_option linter.all false
namespace Go.Proofs.YtjllpipmaejeoaaGreat.XW
open Go.Proofs.YtjllpipmaejeoaaGreat.R
set_option maxRecDepth 100000
abbrev kK : List Ty := [(.int .u8)]
abbrev y5E : Type := Int
abbrev ynR (xs : List y5E) (i : Int) : y5E := rdE kK xs i
def ynu (x : List y5E) : A := .val (.sl 5 kK) x
abbrev yd : List Ty := [(.int .i64)]
abbrev yc : Type := Int
abbrev ybx : yc := VH yd
abbrev zu (xs : List yc) (i : Int) : yc := rdE yd xs i
def z3 (x : List yc) : A := .val (.sl 3 yd) x
abbrev yh : List Ty := [(.int .i64), (.int .i64), (.int .i64), (.int .i64), (.int .i64)]
abbrev y7 : Type := Int × Int × Int × Int × Int
abbrev yF : y7 := VH yh
abbrev y6 (xs : List y7) (i : Int) : y7 := rdE yh xs i
def Qt (x : List y7) : A := .val (.sl 63 yh) x
abbrev yt : List Ty := [(.sl 63 yh)]
abbrev ya : Type := List y7
abbrev z7 : ya := VH yt
abbrev yp (xs : List ya) (i : Int) : ya := rdE yt xs i
def YQ (x : List ya) : A := .val (.sl 58 yt) x
abbrev yk : List Ty := [(.sl 58 yt)]
abbrev y0 : Type := List ya
abbrev yg : y0 := VH yk
abbrev yf (xs : List y0) (i : Int) : y0 := rdE yk xs i
def yw (x : List y0) : A := .val (.sl 99 yk) x
abbrev yn : List Ty := [(.int .i64), (.int .i64)]
abbrev y9 : Type := Int × Int
abbrev yy : y9 := VH yn
abbrev yA (xs : List y9) (i : Int) : y9 := rdE yn xs i
def zd (x : List y9) : A := .val (.sl 67 yn) x
abbrev yj : List Ty := [(.int .i64), .bool, (.int .i64)]
abbrev y8 : Type := Int × Bool × Int
abbrev z0 : y8 := VH yj
abbrev yG (xs : List y8) (i : Int) : y8 := rdE yj xs i
def yK (x : List y8) : A := .val (.sl 53 yj) x
abbrev yI : List Ty := [.str, (.int .i64), (.int .i64), .bool]
abbrev ye : Type := ByteArray × Int × Int × Bool
abbrev Yi : ye := VH yI
abbrev yi (xs : List ye) (i : Int) : ye := rdE yI xs i
def zC (x : List ye) : A := .val (.sl 41 yI) x
abbrev Jb : List Ty := [.str, .bool, (.sl 3 yd)]
abbrev vw : Type := ByteArray × Bool × List yc
abbrev yuK : vw := VH Jb
abbrev y4M (xs : List vw) (i : Int) : vw := rdE Jb xs i
def ynS (x : List vw) : A := .val (.sl 89 Jb) x
abbrev QI : List Ty := [.str]
abbrev y0J : Type := ByteArray
abbrev yi3 : y0J := VH QI
abbrev yfC (xs : List y0J) (i : Int) : y0J := rdE QI xs i
abbrev y4N : List Ty := [.bool]
abbrev yd0 : Type := Bool
abbrev yfD : yd0 := VH y4N
abbrev yfE (xs : List yd0) (i : Int) : yd0 := rdE y4N xs i
abbrev Qz0 : Type := List y5E × Int × Int
abbrev qz0 : List Ty := [(.sl 5 kK), (.int .i64), (.int .i64)]
abbrev Qz1 : Type := List y5E × Int
abbrev qz1 : List Ty := [(.sl 5 kK), (.int .i64)]
abbrev Qz2 : Type := Int × List y5E × Int × Int
abbrev qz2 : List Ty := [(.int .i64), (.sl 5 kK), (.int .i64), (.int .i64)]
abbrev Qz3 : Type := List y5E × Int × Int × Int
abbrev qz3 : List Ty := [(.sl 5 kK), (.int .i64), (.int .i64), (.int .i64)]
abbrev Qz4 : Type := List y5E × Int × Int × List yc
abbrev qz4 : List Ty := [(.sl 5 kK), (.int .i64), (.int .i64), (.sl 3 yd)]
abbrev Qz5 : Type := List y5E × Int × Int × List y0J
abbrev qz5 : List Ty := [(.sl 5 kK), (.int .i64), (.int .i64), (.sl 9 QI)]
abbrev Qz6 : Type := ByteArray × List y5E × Int × Int
abbrev qz6 : List Ty := [.str, (.sl 5 kK), (.int .i64), (.int .i64)]
abbrev Qz7 : Type := Int × ByteArray × ByteArray × Int × Int × List y5E × Int × Int
abbrev qz7 : List Ty := [(.int .i64), .str, .str, (.int .i64), (.int .i64), (.sl 5 kK), (.int .i64), (.int .i64)]
abbrev Qz8 : Type := List yc × List y0
abbrev qz8 : List Ty := [(.sl 3 yd), (.sl 99 yk)]
abbrev Qz9 : Type := List yc × List y0 × List y9 × List y8 × List ye × Int
abbrev qz9 : List Ty := [(.sl 3 yd), (.sl 99 yk), (.sl 67 yn), (.sl 53 yj), (.sl 41 yI), (.int .i64)]
abbrev yuL : Type := Int × Int × Int
abbrev yuM : List Ty := [(.int .i64), (.int .i64), (.int .i64)]
abbrev yua : Type := ByteArray × Int
abbrev yub : List Ty := [.str, (.int .i64)]
abbrev yza : Type := ByteArray × Bool
abbrev yzb : Type := Int × ByteArray × ByteArray × Int × Int
abbrev yjh : List Ty := [(.int .i64), .str, .str, (.int .i64), (.int .i64)]
abbrev yhi : Type := Int × Int × Int × Int × Int
abbrev Vo : List Ty := [(.int .i64), (.int .i64), (.int .i64), (.int .i64), (.int .i64)]
abbrev yuc : Type := Int × Int × Int × Int × Int × Int × Int × Int × Int × Int
abbrev yud : List Ty := [(.int .i64), (.int .i64), (.int .i64), (.int .i64), (.int .i64), (.int .i64), (.int .i64), (.int .i64), (.int .i64), (.int .i64)]
abbrev ynT : Type := List y7 × Int
abbrev ynU : List Ty := [(.sl 63 yh), (.int .i64)]
abbrev yzc : Type := List y7 × Bool
abbrev yzd : Type := Int × Int × List ya
abbrev yze : List Ty := [(.int .i64), (.int .i64), (.sl 58 yt)]
abbrev yji : Type := Int × List ya
abbrev yue : List Ty := [(.int .i64), (.sl 58 yt)]
abbrev yBR : Type := Bool × List ya
abbrev yuf : Type := List y7 × Int × List y7
abbrev yug : List Ty := [(.sl 63 yh), (.int .i64), (.sl 63 yh)]
abbrev yzf : Type := List y7 × Bool × Int × Int × Int × Int × Int × Int × List y7
abbrev yzg : List Ty := [(.sl 63 yh), .bool, (.int .i64), (.int .i64), (.int .i64), (.int .i64), (.int .i64), (.int .i64), (.sl 63 yh)]
abbrev yzh : Type := Bool × Int × Int × Int × Int × Int × List y7
abbrev yzi : Type := List y7 × Int × Int × Int × Int × Int
abbrev yzj : List Ty := [(.sl 63 yh), (.int .i64), (.int .i64), (.int .i64), (.int .i64), (.int .i64)]
abbrev yzk : Type := List y7 × List y7
abbrev yzl : List Ty := [(.sl 63 yh), (.sl 63 yh)]
abbrev yzm : Type := Int × List ya × List y7
abbrev yzn : List Ty := [(.int .i64), (.sl 58 yt), (.sl 63 yh)]
abbrev yhj : Type := Int × Int
abbrev ykJ : List Ty := [(.int .i64), (.int .i64)]
abbrev yzo : Type := Int × Int × Int × List yc × List y0 × List ya
abbrev yzp : List Ty := [(.int .i64), (.int .i64), (.int .i64), (.sl 3 yd), (.sl 99 yk), (.sl 58 yt)]
abbrev yBS : Type := Int × Bool × Int × List yc × List y0 × List ya
abbrev yuN : Type := Int × Int × List yc × List y0 × List ya
abbrev yzq : List Ty := [(.int .i64), (.int .i64), (.sl 3 yd), (.sl 99 yk), (.sl 58 yt)]
abbrev ynV : Type := List yc × List y0 × Int
abbrev ynW : List Ty := [(.sl 3 yd), (.sl 99 yk), (.int .i64)]
abbrev yzr : Type := Int × List yc × List y0 × List y7
abbrev yzs : List Ty := [(.int .i64), (.sl 3 yd), (.sl 99 yk), (.sl 63 yh)]
abbrev yaU : Type := Int × List yc × List y0
abbrev yhk : List Ty := [(.int .i64), (.sl 3 yd), (.sl 99 yk)]
abbrev yBT : Type := Bool × List yc × List y0
abbrev yuO : Type := List y9 × Int × Int
abbrev yuP : List Ty := [(.sl 67 yn), (.int .i64), (.int .i64)]
abbrev yfF : Type := List y9 × Int
abbrev yfG : List Ty := [(.sl 67 yn), (.int .i64)]
abbrev ynX : Type := List y9 × Bool
abbrev yuQ : List Ty := [(.sl 67 yn), .bool]
abbrev ynY : Type := List y8 × Int
abbrev ynZ : List Ty := [(.sl 53 yj), (.int .i64)]
abbrev yzt : Type := List y8 × Bool
abbrev yzu : Type := List y9 × Int × Int × List yc
abbrev yzv : List Ty := [(.sl 67 yn), (.int .i64), (.int .i64), (.sl 3 yd)]
abbrev yzw : Type := Int × Int × List yc × List y0 × List y9 × List y8 × List ye × Int × ByteArray × Int × Int × Bool
abbrev yzx : List Ty := [(.int .i64), (.int .i64), (.sl 3 yd), (.sl 99 yk), (.sl 67 yn), (.sl 53 yj), (.sl 41 yI), (.int .i64), .str, (.int .i64), (.int .i64), .bool]
abbrev yuR : Type := Bool × Int × List yc × List y0 × List y9 × List y8 × List ye × Int
abbrev yhl : Type := Int × List yc × List y0 × List y9 × List y8 × List ye × Int
abbrev ynv : List Ty := [(.int .i64), (.sl 3 yd), (.sl 99 yk), (.sl 67 yn), (.sl 53 yj), (.sl 41 yI), (.int .i64)]
abbrev yi4 : Type := Bool × List yc × List y0 × List y9 × List y8 × List ye × Int
abbrev yo0 : List Ty := [.bool, (.sl 3 yd), (.sl 99 yk), (.sl 67 yn), (.sl 53 yj), (.sl 41 yI), (.int .i64)]
abbrev yuh : Type := List y8 × Int × Int
abbrev yui : List Ty := [(.sl 53 yj), (.int .i64), (.int .i64)]
abbrev yzy : Type := Int × Bool
abbrev yzz : List Ty := [(.int .i64), .bool]
abbrev yo1 : Type := Int × Int × Int × List yc × List y0 × List y9 × List y8 × List ye × Int × List y7
abbrev yuj : List Ty := [(.int .i64), (.int .i64), (.int .i64), (.sl 3 yd), (.sl 99 yk), (.sl 67 yn), (.sl 53 yj), (.sl 41 yI), (.int .i64), (.sl 63 yh)]
abbrev yBU : Type := Bool × Int × Int × List yc × List y0 × List y9 × List y8 × List ye × Int × List y7
abbrev yjj : Type := Int × Int × List yc × List y0 × List y9 × List y8 × List ye × Int × List y7
abbrev ynw : List Ty := [(.int .i64), (.int .i64), (.sl 3 yd), (.sl 99 yk), (.sl 67 yn), (.sl 53 yj), (.sl 41 yI), (.int .i64), (.sl 63 yh)]
abbrev yo2 : Type := Int × List ya × List ya
abbrev yzA : List Ty := [(.int .i64), (.sl 58 yt), (.sl 58 yt)]
abbrev yo3 : Type := Int × List yc × List y0 × List yc
abbrev yzB : List Ty := [(.int .i64), (.sl 3 yd), (.sl 99 yk), (.sl 3 yd)]
abbrev yo4 : Type := Int × List yc × List y0 × List yc × List y0
abbrev yzC : List Ty := [(.int .i64), (.sl 3 yd), (.sl 99 yk), (.sl 3 yd), (.sl 99 yk)]
abbrev yuk : Type := List yc × List y0 × List y9 × List y8 × List ye × Int × ByteArray
abbrev yul : List Ty := [(.sl 3 yd), (.sl 99 yk), (.sl 67 yn), (.sl 53 yj), (.sl 41 yI), (.int .i64), .str]
abbrev yzD : Type := ByteArray × Int × List yc × List y0 × List y9 × List y8 × List ye × Int
abbrev yzE : List Ty := [.str, (.int .i64), (.sl 3 yd), (.sl 99 yk), (.sl 67 yn), (.sl 53 yj), (.sl 41 yI), (.int .i64)]
abbrev yzF : Type := List y9 × Int × Int × Bool × Int × List y9
abbrev yzG : List Ty := [(.sl 67 yn), (.int .i64), (.int .i64), .bool, (.int .i64), (.sl 67 yn)]
abbrev yBV : Type := List y9 × Int × Int × Bool × List y9
abbrev yuS : Type := Int × ByteArray × Int × Int × Bool × List ye
abbrev yzH : List Ty := [(.int .i64), .str, (.int .i64), (.int .i64), .bool, (.sl 41 yI)]
abbrev yuT : Type := List ye × ByteArray × Int × Int × Bool
abbrev yuU : List Ty := [(.sl 41 yI), .str, (.int .i64), (.int .i64), .bool]
abbrev yBW : Type := List yc × List y0 × List y9 × List y8 × List ye × Int × List yc × List y0 × List y9 × List y8 × List ye × Int × Bool
abbrev yBX : List Ty := [(.sl 3 yd), (.sl 99 yk), (.sl 67 yn), (.sl 53 yj), (.sl 41 yI), (.int .i64), (.sl 3 yd), (.sl 99 yk), (.sl 67 yn), (.sl 53 yj), (.sl 41 yI), (.int .i64), .bool]
abbrev yaV : Type := List yc × List y0 × List y9 × List y8 × List ye × Int × Int
abbrev yaW : List Ty := [(.sl 3 yd), (.sl 99 yk), (.sl 67 yn), (.sl 53 yj), (.sl 41 yI), (.int .i64), (.int .i64)]
abbrev yum : Type := List yc × List y0 × List y9 × List y8 × List ye × Int × ByteArray × Int
abbrev yun : List Ty := [(.sl 3 yd), (.sl 99 yk), (.sl 67 yn), (.sl 53 yj), (.sl 41 yI), (.int .i64), .str, (.int .i64)]
abbrev yBY : Type := List yc × List y0 × List y9 × List y8 × List ye × Int × ByteArray × ByteArray × Bool
abbrev yBZ : List Ty := [(.sl 3 yd), (.sl 99 yk), (.sl 67 yn), (.sl 53 yj), (.sl 41 yI), (.int .i64), .str, .str, .bool]
abbrev yzI : Type := List y8 × Int × Int × List y8
abbrev yzJ : List Ty := [(.sl 53 yj), (.int .i64), (.int .i64), (.sl 53 yj)]
abbrev yC0 : Type := Int × Bool × List y8
abbrev yC1 : Type := List y8 × Int × Bool
abbrev yC2 : List Ty := [(.sl 53 yj), (.int .i64), .bool]
abbrev yzK : Type := Int × Int × Int × Int × List yc × List y0
abbrev yzL : List Ty := [(.int .i64), (.int .i64), (.int .i64), (.int .i64), (.sl 3 yd), (.sl 99 yk)]
abbrev yuo : Type := List yc × List y0 × Int × Int
abbrev yup : List Ty := [(.sl 3 yd), (.sl 99 yk), (.int .i64), (.int .i64)]
abbrev yzM : Type := List y7 × Int × Int × Int × Int × Int × Int × Int × Int
abbrev yzN : List Ty := [(.sl 63 yh), (.int .i64), (.int .i64), (.int .i64), (.int .i64), (.int .i64), (.int .i64), (.int .i64), (.int .i64)]
abbrev yuq : Type := Bool × Int × Int × Int × Int × Int
abbrev yzO : Type := List y7 × Int × Int
abbrev yzP : List Ty := [(.sl 63 yh), (.int .i64), (.int .i64)]
abbrev yeQ : Type := Int × Int × Int × Int × Int × Bool
abbrev yeR : List Ty := [(.int .i64), (.int .i64), (.int .i64), (.int .i64), (.int .i64), .bool]
abbrev yur : Type := Int × Int × Int × List ya × Int × Int × Int × Int × Int
abbrev yus : List Ty := [(.int .i64), (.int .i64), (.int .i64), (.sl 58 yt), (.int .i64), (.int .i64), (.int .i64), (.int .i64), (.int .i64)]
abbrev ykK : Type := List ya × Int × Int
abbrev yut : List Ty := [(.sl 58 yt), (.int .i64), (.int .i64)]
abbrev yuV : Type := List ya × Int × Int × Int × Int × Int
abbrev yuW : List Ty := [(.sl 58 yt), (.int .i64), (.int .i64), (.int .i64), (.int .i64), (.int .i64)]
abbrev yzQ : Type := List ya × Bool
abbrev yzR : List Ty := [(.sl 58 yt), .bool]
abbrev yC3 : Type := List yc × List y0 × Int × List yc × List y0
abbrev yC4 : List Ty := [(.sl 3 yd), (.sl 99 yk), (.int .i64), (.sl 3 yd), (.sl 99 yk)]
abbrev yzS : Type := List yc × List y0 × Int × Int × Int × Int × Int
abbrev yzT : List Ty := [(.sl 3 yd), (.sl 99 yk), (.int .i64), (.int .i64), (.int .i64), (.int .i64), (.int .i64)]
abbrev yzU : Type := List yc × List y0 × Bool
abbrev yzV : List Ty := [(.sl 3 yd), (.sl 99 yk), .bool]
abbrev yC5 : Type := List yc × List y0 × List y9 × List y8 × List ye × Int × Int × Int × Int × Int × Int × Bool
abbrev yC6 : List Ty := [(.sl 3 yd), (.sl 99 yk), (.sl 67 yn), (.sl 53 yj), (.sl 41 yI), (.int .i64), (.int .i64), (.int .i64), (.int .i64), (.int .i64), (.int .i64), .bool]
abbrev ynx : Type := List yc × List y0 × List y9 × List y8 × List ye × Int × Int × Int × Int × Int × Int
abbrev yny : List Ty := [(.sl 3 yd), (.sl 99 yk), (.sl 67 yn), (.sl 53 yj), (.sl 41 yI), (.int .i64), (.int .i64), (.int .i64), (.int .i64), (.int .i64), (.int .i64)]
abbrev yC7 : Type := List yc × List y0 × List y9 × List y8 × List ye × Int × ByteArray × Int × Int
abbrev yC8 : List Ty := [(.sl 3 yd), (.sl 99 yk), (.sl 67 yn), (.sl 53 yj), (.sl 41 yI), (.int .i64), .str, (.int .i64), (.int .i64)]
abbrev yzW : Type := List y9 × Int × List yc
abbrev yzX : List Ty := [(.sl 67 yn), (.int .i64), (.sl 3 yd)]
abbrev yzY : Type := Int × Int × List y7 × List y7
abbrev yzZ : List Ty := [(.int .i64), (.int .i64), (.sl 63 yh), (.sl 63 yh)]
abbrev yA0 : Type := List yc × Int × Int
abbrev yA1 : List Ty := [(.sl 3 yd), (.int .i64), (.int .i64)]
abbrev yuX : Type := List yc × Int
abbrev yuY : List Ty := [(.sl 3 yd), (.int .i64)]
abbrev yA2 : Type := List yc × Bool × Int × Int × Int × Int × Int × Int × Int × Int × Int × Int × Int × List y7
abbrev yA3 : List Ty := [(.sl 3 yd), .bool, (.int .i64), (.int .i64), (.int .i64), (.int .i64), (.int .i64), (.int .i64), (.int .i64), (.int .i64), (.int .i64), (.int .i64), (.int .i64), (.sl 63 yh)]
abbrev yA4 : Type := Bool × Int × Int × Int × Int × Int × Int × Int × Int × Int × Int
abbrev yA5 : Type := List yc × List y0 × Int × List yc
abbrev yA6 : List Ty := [(.sl 3 yd), (.sl 99 yk), (.int .i64), (.sl 3 yd)]
abbrev yuu : Type := List yc × List y0 × List y9 × Int × Int
abbrev yuv : List Ty := [(.sl 3 yd), (.sl 99 yk), (.sl 67 yn), (.int .i64), (.int .i64)]
abbrev yuZ : Type := List yc × List y0 × List y9 × List y8 × List ye × Int × Int × Int
abbrev yv0 : List Ty := [(.sl 3 yd), (.sl 99 yk), (.sl 67 yn), (.sl 53 yj), (.sl 41 yI), (.int .i64), (.int .i64), (.int .i64)]
abbrev yo5 : Type := Int × Int × Bool × Int × List yc × List y0 × List y9 × List y8 × List ye × Int × Int × Int × List yc × List y0 × List y9 × List y8 × List ye
abbrev yA7 : List Ty := [(.int .i64), (.int .i64), .bool, (.int .i64), (.sl 3 yd), (.sl 99 yk), (.sl 67 yn), (.sl 53 yj), (.sl 41 yI), (.int .i64), (.int .i64), (.int .i64), (.sl 3 yd), (.sl 99 yk), (.sl 67 yn), (.sl 53 yj), (.sl 41 yI)]
abbrev yo6 : Type := Int × Int × Bool × Int × List yc × List y0 × List y9 × List y8 × List ye × Int × Int × List yc × List y0 × List y9 × Int × List y8 × List ye
abbrev yA8 : List Ty := [(.int .i64), (.int .i64), .bool, (.int .i64), (.sl 3 yd), (.sl 99 yk), (.sl 67 yn), (.sl 53 yj), (.sl 41 yI), (.int .i64), (.int .i64), (.sl 3 yd), (.sl 99 yk), (.sl 67 yn), (.int .i64), (.sl 53 yj), (.sl 41 yI)]
abbrev yC9 : Type := Int × Int × Bool × List yc × List y0 × List y9 × List y8 × List ye × Int × Int × Int × List yc × List y0 × List y9 × List y8 × List ye
abbrev yCa : Type := Int × Int × Bool × List yc × List y0 × List y9 × List y8 × List ye × Int × Int × List yc × List y0 × List y9 × Int × List y8 × List ye
abbrev yA9 : Type := List yc × List y0 × List y9 × Int × Int × Int × Int × Int × Int
abbrev yAa : List Ty := [(.sl 3 yd), (.sl 99 yk), (.sl 67 yn), (.int .i64), (.int .i64), (.int .i64), (.int .i64), (.int .i64), (.int .i64)]
abbrev yAb : Type := Int × List yc × List y0 × List y9 × List y8 × List ye × Int × Int × Int × Int × Int × Int
abbrev yAc : List Ty := [(.int .i64), (.sl 3 yd), (.sl 99 yk), (.sl 67 yn), (.sl 53 yj), (.sl 41 yI), (.int .i64), (.int .i64), (.int .i64), (.int .i64), (.int .i64), (.int .i64)]
abbrev yv1 : Type := Int × Int × List yc × List y0 × List y9 × List y8 × List ye × Int
abbrev yAd : List Ty := [(.int .i64), (.int .i64), (.sl 3 yd), (.sl 99 yk), (.sl 67 yn), (.sl 53 yj), (.sl 41 yI), (.int .i64)]
abbrev yAe : Type := List yc × List y0 × List y9 × List y8 × List ye × Int × Int × Int × Int × Int × Int × Int
abbrev yAf : List Ty := [(.sl 3 yd), (.sl 99 yk), (.sl 67 yn), (.sl 53 yj), (.sl 41 yI), (.int .i64), (.int .i64), (.int .i64), (.int .i64), (.int .i64), (.int .i64), (.int .i64)]
abbrev yCb : Type := Int × Bool × List yc × List y0 × List y9 × List y8 × List ye × Int
abbrev ykL : Type := Int × List yc × List y0 × List y9 × List y8 × List ye × Int × List y7
abbrev yo7 : List Ty := [(.int .i64), (.sl 3 yd), (.sl 99 yk), (.sl 67 yn), (.sl 53 yj), (.sl 41 yI), (.int .i64), (.sl 63 yh)]
abbrev yo8 : Type := List y9 × Int × Int × Int × List y9
abbrev yo9 : List Ty := [(.sl 67 yn), (.int .i64), (.int .i64), (.int .i64), (.sl 67 yn)]
abbrev yfH : Type := List yc × List y0 × List y9 × List y8 × List ye × Int × Bool
abbrev yfI : List Ty := [(.sl 3 yd), (.sl 99 yk), (.sl 67 yn), (.sl 53 yj), (.sl 41 yI), (.int .i64), .bool]
abbrev yoa : Type := Int × Int × Int × Int × Int × Int × Int × List y7
abbrev yob : List Ty := [(.int .i64), (.int .i64), (.int .i64), (.int .i64), (.int .i64), (.int .i64), (.int .i64), (.sl 63 yh)]
abbrev ykM : Type := List yc × List y0 × List y9 × List y8 × List ye × Int × Int × ByteArray × ByteArray × Int × Int
abbrev ykN : List Ty := [(.sl 3 yd), (.sl 99 yk), (.sl 67 yn), (.sl 53 yj), (.sl 41 yI), (.int .i64), (.int .i64), .str, .str, (.int .i64), (.int .i64)]
abbrev yfJ : Type := Int × List y5E × Int × Int × Int × Int × List yc × List y0 × List y9 × List y8 × List ye
abbrev yoc : List Ty := [(.int .i64), (.sl 5 kK), (.int .i64), (.int .i64), (.int .i64), (.int .i64), (.sl 3 yd), (.sl 99 yk), (.sl 67 yn), (.sl 53 yj), (.sl 41 yI)]
abbrev yfK : Type := Int × List y5E × Int × Int × Int × List yc × List y0 × List y9 × Int × List y8 × List ye
abbrev yod : List Ty := [(.int .i64), (.sl 5 kK), (.int .i64), (.int .i64), (.int .i64), (.sl 3 yd), (.sl 99 yk), (.sl 67 yn), (.int .i64), (.sl 53 yj), (.sl 41 yI)]
abbrev yv2 : Type := List y5E × Int × Int × Int × Int × List yc × List y0 × List y9 × List y8 × List ye
abbrev yv3 : Type := List y5E × Int × Int × Int × List yc × List y0 × List y9 × Int × List y8 × List ye
abbrev yv4 : Type := List yc × List y0 × List y9 × List y8 × List ye × Int × List y5E × Int × Int
abbrev yv5 : List Ty := [(.sl 3 yd), (.sl 99 yk), (.sl 67 yn), (.sl 53 yj), (.sl 41 yI), (.int .i64), (.sl 5 kK), (.int .i64), (.int .i64)]
abbrev yoe : Type := Bool × List y7 × Int × Int × Int × Int × Int × Int × Int × List y7
abbrev yof : List Ty := [.bool, (.sl 63 yh), (.int .i64), (.int .i64), (.int .i64), (.int .i64), (.int .i64), (.int .i64), (.int .i64), (.sl 63 yh)]
abbrev yi5 : Type := List y7 × Int × Int × List y7
abbrev yi6 : List Ty := [(.sl 63 yh), (.int .i64), (.int .i64), (.sl 63 yh)]
abbrev yog : Type := List ya × Int × Int × List y7
abbrev yoh : List Ty := [(.sl 58 yt), (.int .i64), (.int .i64), (.sl 63 yh)]
abbrev yoi : Type := List y0 × Int × Int × List y7
abbrev yoj : List Ty := [(.sl 99 yk), (.int .i64), (.int .i64), (.sl 63 yh)]
abbrev yok : Type := Int × Int × Int × List y7 × List y7
abbrev yol : List Ty := [(.int .i64), (.int .i64), (.int .i64), (.sl 63 yh), (.sl 63 yh)]
abbrev yom : Type := List yc × Int × Int × Int
abbrev yon : List Ty := [(.sl 3 yd), (.int .i64), (.int .i64), (.int .i64)]
abbrev yoo : Type := List yc × Bool × Int × Int × Int × Int × Int × Int × Int × Int × Int × Int × Int × Int × List y7
abbrev yop : List Ty := [(.sl 3 yd), .bool, (.int .i64), (.int .i64), (.int .i64), (.int .i64), (.int .i64), (.int .i64), (.int .i64), (.int .i64), (.int .i64), (.int .i64), (.int .i64), (.int .i64), (.sl 63 yh)]
abbrev yi7 : Type := Bool × Int
abbrev ykO : List Ty := [.bool, (.int .i64)]
abbrev yoq : Type := List y9 × Int × Int × Int
abbrev yor : List Ty := [(.sl 67 yn), (.int .i64), (.int .i64), (.int .i64)]
abbrev yos : Type := List y9 × Int × Int × Int × List yc
abbrev yot : List Ty := [(.sl 67 yn), (.int .i64), (.int .i64), (.int .i64), (.sl 3 yd)]
abbrev yfL : Type := Int × Int × List ye × Int × Int × List yc × List y0 × List y9 × List y8 × List ye × Int × ByteArray × Int × Int × Bool × ByteArray × Bool × List vw
abbrev yov : List Ty := [(.int .i64), (.int .i64), (.sl 41 yI), (.int .i64), (.int .i64), (.sl 3 yd), (.sl 99 yk), (.sl 67 yn), (.sl 53 yj), (.sl 41 yI), (.int .i64), .str, (.int .i64), (.int .i64), .bool, .str, .bool, (.sl 89 Jb)]
abbrev yfM : Type := Int × Int × List ye × Int × Int × List yc × List y0 × List y9 × List y8 × List ye × Int × ByteArray × Int × Int × Bool × ByteArray × Bool × List vw × List yc
abbrev yow : List Ty := [(.int .i64), (.int .i64), (.sl 41 yI), (.int .i64), (.int .i64), (.sl 3 yd), (.sl 99 yk), (.sl 67 yn), (.sl 53 yj), (.sl 41 yI), (.int .i64), .str, (.int .i64), (.int .i64), .bool, .str, .bool, (.sl 89 Jb), (.sl 3 yd)]
abbrev yv6 : Type := List ye × Int × Int × List yc × List y0 × List y9 × List y8 × List ye × Int × ByteArray × Bool × List vw
abbrev yv7 : Type := List ye × Int × Int × List yc × List y0 × List y9 × List y8 × List ye × Int × ByteArray × Bool × List vw × List yc
abbrev yox : Type := List ye × Int × Int × List yc × List y0 × List y9 × List y8 × List ye × Int × List vw
abbrev yoy : List Ty := [(.sl 41 yI), (.int .i64), (.int .i64), (.sl 3 yd), (.sl 99 yk), (.sl 67 yn), (.sl 53 yj), (.sl 41 yI), (.int .i64), (.sl 89 Jb)]
abbrev yoz : Type := Int × List y8 × Int × Int
abbrev yoA : List Ty := [(.int .i64), (.sl 53 yj), (.int .i64), (.int .i64)]
abbrev yoB : Type := List yc × List yc × Int × Int
abbrev yoC : List Ty := [(.sl 3 yd), (.sl 3 yd), (.int .i64), (.int .i64)]
abbrev yv8 : Type := List yc × List yc
abbrev yv9 : List Ty := [(.sl 3 yd), (.sl 3 yd)]
abbrev yva : Type := ByteArray × Bool × List yc × ByteArray × Bool × List yc
abbrev yvb : List Ty := [.str, .bool, (.sl 3 yd), .str, .bool, (.sl 3 yd)]
abbrev yoD : Type := List vw × List vw × Int × Int
abbrev yoE : List Ty := [(.sl 89 Jb), (.sl 89 Jb), (.int .i64), (.int .i64)]
abbrev yoF : Type := List vw × List vw
abbrev yoG : List Ty := [(.sl 89 Jb), (.sl 89 Jb)]
abbrev yoH : Type := List y7 × List y7 × Int × Int
abbrev yoI : List Ty := [(.sl 63 yh), (.sl 63 yh), (.int .i64), (.int .i64)]
abbrev yoJ : Type := Int × List ya × Int × Int × List ya
abbrev yoK : List Ty := [(.int .i64), (.sl 58 yt), (.int .i64), (.int .i64), (.sl 58 yt)]
abbrev yvc : Type := Bool × Int × List ya
abbrev yoL : Type := Int × List ya × Int × Int × List y7 × Int × Int × List yc × List y0
abbrev yoM : List Ty := [(.int .i64), (.sl 58 yt), (.int .i64), (.int .i64), (.sl 63 yh), (.int .i64), (.int .i64), (.sl 3 yd), (.sl 99 yk)]
abbrev yvd : Type := Int × Bool × List ya × Int × Int × List yc × List y0
abbrev ykP : Type := Int × List ya × Int × Int × List yc × List y0
abbrev yoN : List Ty := [(.int .i64), (.sl 58 yt), (.int .i64), (.int .i64), (.sl 3 yd), (.sl 99 yk)]
abbrev yoO : Type := Int × List y0 × Int × Int × List yc × List y0
abbrev yoP : List Ty := [(.int .i64), (.sl 99 yk), (.int .i64), (.int .i64), (.sl 3 yd), (.sl 99 yk)]
abbrev yoQ : Type := List y9 × List y9 × Int × Int
abbrev yoR : List Ty := [(.sl 67 yn), (.sl 67 yn), (.int .i64), (.int .i64)]
abbrev yoS : Type := List y8 × List y8 × Int × Int
abbrev yoT : List Ty := [(.sl 53 yj), (.sl 53 yj), (.int .i64), (.int .i64)]
abbrev yoU : Type := Int × List y9 × Int × Int × List yc
abbrev yoV : List Ty := [(.int .i64), (.sl 67 yn), (.int .i64), (.int .i64), (.sl 3 yd)]
abbrev yve : Type := ByteArray × Int × Int × Bool × ByteArray × Int × Int × Bool
abbrev yvf : List Ty := [.str, (.int .i64), (.int .i64), .bool, .str, (.int .i64), (.int .i64), .bool]
abbrev yoW : Type := Bool × ByteArray × Int × Int × Bool
abbrev yoX : List Ty := [.bool, .str, (.int .i64), (.int .i64), .bool]
abbrev yoY : Type := List ye × Int × Int × ByteArray × Int × Int × Bool
abbrev yoZ : List Ty := [(.sl 41 yI), (.int .i64), (.int .i64), .str, (.int .i64), (.int .i64), .bool]
abbrev yp0 : Type := Int × ByteArray × Int × Int × Bool
abbrev yvg : List Ty := [(.int .i64), .str, (.int .i64), (.int .i64), .bool]
abbrev yvh : Type := ByteArray × Int × Int × Bool
abbrev yeo : List Ty := [.str, (.int .i64), (.int .i64), .bool]
abbrev yp1 : Type := List ye × Int × Int × List yc × List y0 × List y9 × List y8 × List ye × Int
abbrev yp2 : List Ty := [(.sl 41 yI), (.int .i64), (.int .i64), (.sl 3 yd), (.sl 99 yk), (.sl 67 yn), (.sl 53 yj), (.sl 41 yI), (.int .i64)]
abbrev yp3 : Type := Int × Int × Int × List yc × List y0 × List y9 × List y8 × List ye × Int × List yd0 × List y7
abbrev yp4 : List Ty := [(.int .i64), (.int .i64), (.int .i64), (.sl 3 yd), (.sl 99 yk), (.sl 67 yn), (.sl 53 yj), (.sl 41 yI), (.int .i64), (.sl 4 y4N), (.sl 63 yh)]
abbrev yp5 : Type := List y9 × Int × Int × List yc × List y0 × List y9 × List y8 × List ye × Int
abbrev yp6 : List Ty := [(.sl 67 yn), (.int .i64), (.int .i64), (.sl 3 yd), (.sl 99 yk), (.sl 67 yn), (.sl 53 yj), (.sl 41 yI), (.int .i64)]
abbrev yvi : Type := ByteArray × Int × Int × Bool × Int
abbrev yvj : List Ty := [.str, (.int .i64), (.int .i64), .bool, (.int .i64)]
abbrev yp7 : Type := List ye × Int × Int × Int
abbrev yp8 : List Ty := [(.sl 41 yI), (.int .i64), (.int .i64), (.int .i64)]
abbrev yp9 : Type := List ye × Int
abbrev ypa : List Ty := [(.sl 41 yI), (.int .i64)]
abbrev ypb : Type := List ye × Int × Int × List yc × List y0 × List y9 × List y8 × List ye × Int × Int × Int × Int × Int × Int
abbrev ypc : List Ty := [(.sl 41 yI), (.int .i64), (.int .i64), (.sl 3 yd), (.sl 99 yk), (.sl 67 yn), (.sl 53 yj), (.sl 41 yI), (.int .i64), (.int .i64), (.int .i64), (.int .i64), (.int .i64), (.int .i64)]
abbrev ypd : Type := Int × Int × Int × List yc × List y0
abbrev ype : List Ty := [(.int .i64), (.int .i64), (.int .i64), (.sl 3 yd), (.sl 99 yk)]
abbrev ypf : Type := Int × Int × List y7 × Int × Int × Int × Int × Int × Int × Int
abbrev ypg : List Ty := [(.int .i64), (.int .i64), (.sl 63 yh), (.int .i64), (.int .i64), (.int .i64), (.int .i64), (.int .i64), (.int .i64), (.int .i64)]
abbrev yph : Type := Int × List y7 × Int × Int
abbrev ypi : List Ty := [(.int .i64), (.sl 63 yh), (.int .i64), (.int .i64)]
abbrev ypj : Type := Int × Int × Int × Int × Int × List yc × List y0 × List y9 × List y8 × List ye × Int × List y7 × List yc
abbrev ypk : List Ty := [(.int .i64), (.int .i64), (.int .i64), (.int .i64), (.int .i64), (.sl 3 yd), (.sl 99 yk), (.sl 67 yn), (.sl 53 yj), (.sl 41 yI), (.int .i64), (.sl 63 yh), (.sl 3 yd)]
abbrev yvk : Type := Int × Int × Int × Int × List yc × List y0 × List y9 × List y8 × List ye × Int × List y7 × List yc
abbrev ykQ : Type := Int × Int × List yc × List y0 × List y9 × List y8 × List ye × Int × List y7 × List yc
abbrev ypl : List Ty := [(.int .i64), (.int .i64), (.sl 3 yd), (.sl 99 yk), (.sl 67 yn), (.sl 53 yj), (.sl 41 yI), (.int .i64), (.sl 63 yh), (.sl 3 yd)]
abbrev yvl : Type := List yc × List y0 × List y9 × List y8 × List ye × Int × List y7
abbrev ypm : Type := List y9 × Int × Int × List yc × List y0 × List y9 × List y8 × List ye × Int × List y7
abbrev ypn : List Ty := [(.sl 67 yn), (.int .i64), (.int .i64), (.sl 3 yd), (.sl 99 yk), (.sl 67 yn), (.sl 53 yj), (.sl 41 yI), (.int .i64), (.sl 63 yh)]
abbrev yfN : Type := List ya × Int × Int × List ya
abbrev ypo : List Ty := [(.sl 58 yt), (.int .i64), (.int .i64), (.sl 58 yt)]
abbrev yfO : Type := List y0 × Int × Int × List yc
abbrev ypp : List Ty := [(.sl 99 yk), (.int .i64), (.int .i64), (.sl 3 yd)]
abbrev yfP : Type := List y0 × Int × Int × List yc × List y0
abbrev ypq : List Ty := [(.sl 99 yk), (.int .i64), (.int .i64), (.sl 3 yd), (.sl 99 yk)]
abbrev yvm : Type := List yc × List y0 × Int × Int × List yc × List y0
abbrev yvn : List Ty := [(.sl 3 yd), (.sl 99 yk), (.int .i64), (.int .i64), (.sl 3 yd), (.sl 99 yk)]
abbrev ypr : Type := List y9 × Int × Int × Int × Int × List y9
abbrev yps : List Ty := [(.sl 67 yn), (.int .i64), (.int .i64), (.int .i64), (.int .i64), (.sl 67 yn)]
abbrev yvo : Type := Int × List y9
abbrev yfQ : Type := Int × Int × Int × List yc × List y0 × List y9 × List y8 × List ye
abbrev ypt : List Ty := [(.int .i64), (.int .i64), (.int .i64), (.sl 3 yd), (.sl 99 yk), (.sl 67 yn), (.sl 53 yj), (.sl 41 yI)]
abbrev yfR : Type := Int × Int × List yc × List y0 × List y9 × List y8 × Int × List ye
abbrev ypu : List Ty := [(.int .i64), (.int .i64), (.sl 3 yd), (.sl 99 yk), (.sl 67 yn), (.sl 53 yj), (.int .i64), (.sl 41 yI)]
abbrev ykR : Type := Int × List yc × List y0 × List y9 × List y8 × List ye × Int × List yc × List y0 × List y9 × List y8 × List ye × Int
abbrev yvp : Type := Int × Int × List yc × List y0 × List y9 × List y8 × List ye
abbrev yvq : Type := Int × List yc × List y0 × List y9 × List y8 × Int × List ye
abbrev ypv : Type := Int × Int × List yc × List y0 × List y9 × List y8 × List ye × Int × List yc × List y0 × List y9 × List y8 × List ye × Int × List y7
abbrev ypw : List Ty := [(.int .i64), (.int .i64), (.sl 3 yd), (.sl 99 yk), (.sl 67 yn), (.sl 53 yj), (.sl 41 yI), (.int .i64), (.sl 3 yd), (.sl 99 yk), (.sl 67 yn), (.sl 53 yj), (.sl 41 yI), (.int .i64), (.sl 63 yh)]
abbrev ypx : Type := Bool × Int × List yc × List y0 × List y9 × List y8 × List ye × Int × List yc × List y0 × List y9 × List y8 × List ye × Int
abbrev ypy : Type := Int × Int × List yc × List y0 × List y9 × List y8 × List ye × Int × List yc × List y0 × List y9 × List y8 × List ye × Int
abbrev ypz : List Ty := [(.int .i64), (.int .i64), (.sl 3 yd), (.sl 99 yk), (.sl 67 yn), (.sl 53 yj), (.sl 41 yI), (.int .i64), (.sl 3 yd), (.sl 99 yk), (.sl 67 yn), (.sl 53 yj), (.sl 41 yI), (.int .i64)]
abbrev ypA : List Ty := [.str, .bool, (.sl 3 yd)]
def ypB : List (Nat × TI) := [
 (3, .c (.int .i64) 8),
 (4, .c (.bool) 1),
 (5, .c (.int .u8) 1),
 (9, .c (.str) 16),
 (22, .c (.sl 5 kK) 24),
 (24, .c (.sl 3 yd) 24),
 (25, .c (.sl 99 yk) 24),
 (27, .s [(0, 24), (1, 25)] [(.sl 3 yd), (.sl 99 yk)] 48),
 (28, .c (.sl 67 yn) 24),
 (29, .c (.sl 53 yj) 24),
 (30, .c (.sl 41 yI) 24),
 (32, .s [(0, 27), (2, 28), (3, 29), (4, 30), (5, 3)] [(.sl 3 yd), (.sl 99 yk), (.sl 67 yn), (.sl 53 yj), (.sl 41 yI), (.int .i64)] 128),
 (34, .s [(0, 3), (1, 9), (2, 9), (3, 3), (4, 3)] [(.int .i64), .str, .str, (.int .i64), (.int .i64)] 56),
 (41, .s [(0, 9), (1, 3), (2, 3), (3, 4)] [.str, (.int .i64), (.int .i64), .bool] 40),
 (49, .c (.sl 89 Jb) 24),
 (53, .s [(0, 3), (1, 4), (2, 3)] [(.int .i64), .bool, (.int .i64)] 24),
 (58, .c (.sl 63 yh) 24),
 (63, .s [(0, 3), (1, 3), (2, 3), (3, 3), (4, 3)] [(.int .i64), (.int .i64), (.int .i64), (.int .i64), (.int .i64)] 40),
 (67, .s [(0, 3), (1, 3)] [(.int .i64), (.int .i64)] 16),
 (89, .s [(0, 9), (1, 4), (2, 24)] [.str, .bool, (.sl 3 yd)] 48),
 (97, .c (.sl 58 yt) 24),
 (99, .s [(0, 97)] [(.sl 58 yt)] 24),
 (106, .s [(0, 22), (1, 3), (2, 3)] [(.sl 5 kK), (.int .i64), (.int .i64)] 40),
 (112, .c (.sl 9 QI) 24),
 (139, .c (.sl 4 y4N) 24)]
def sg7 : Sig := ⟨[.v false [(.sl 5 kK)] [false]], [⟨false, [.bool], [false]⟩], false, false⟩
def yAg : Sig := ⟨[.v false [(.sl 5 kK)] [false]], [⟨true, qz0, (nf 3)⟩], true, false⟩
def ypC : Sig := ⟨[.p none qz0 (nf 3)], [⟨false, [(.int .i64)], [false]⟩], false, false⟩
def yAh : Sig := ⟨[.p none qz0 (nf 3), .v false [(.int .i64)] [false]], [⟨false, [(.int .i64)], [false]⟩], false, false⟩
def yAi : Sig := ⟨[.p none qz0 (nf 3), .v false [(.sl 3 yd)] [false]], [⟨false, [(.int .i64)], [false]⟩], false, false⟩
def yAj : Sig := ⟨[.p none qz0 (nf 3), .v false [(.sl 9 QI)] [false]], [⟨false, [.str], [false]⟩], false, false⟩
def yAk : Sig := ⟨[.p none qz0 (nf 3)], [⟨false, [.str], [false]⟩], false, false⟩
def yAl : Sig := ⟨[.p none qz0 (nf 3)], [⟨false, [(.int .i64)], [false]⟩], false, false⟩
def yAm : Sig := ⟨[.p none qz0 (nf 3)], [⟨true, yjh, (nf 5)⟩], false, false⟩
def ypD : Sig := ⟨[], [⟨true, qz8, [true, true]⟩], false, false⟩
def ypE : Sig := ⟨[], [⟨false, [(.sl 53 yj)], [true]⟩], false, false⟩
def yAn : Sig := ⟨[], [⟨true, qz9, [true, true, true, true, true, false]⟩], false, false⟩
def ypF : Sig := ⟨[.v false [(.int .i64)] [false], .v false [(.int .i64)] [false], .v false [(.int .i64)] [false]], [⟨false, [.bool], [false]⟩], false, false⟩
def ypG : Sig := ⟨[.v false [.str] [false]], [⟨false, [.bool], [false]⟩], false, false⟩
def ypH : Sig := ⟨[.v false [(.int .i64)] [false]], [⟨false, [.bool], [false]⟩], false, false⟩
def ypI : Sig := ⟨[.v true yjh (nf 5)], [⟨false, [.bool], [false]⟩], false, false⟩
def ypJ : Sig := ⟨[.v true yjh (nf 5)], [⟨false, [.bool], [false]⟩], false, false⟩
def ypK : Sig := ⟨[.v true Vo (nf 5)], [⟨false, [.bool], [false]⟩], false, false⟩
def ypL : Sig := ⟨[.v true Vo (nf 5), .v true Vo (nf 5)], [⟨false, [.bool], [false]⟩], false, false⟩
def ypM : Sig := ⟨[.v false [(.sl 63 yh)] [false]], [⟨false, [.bool], [false]⟩], false, false⟩
def ypN : Sig := ⟨[.v false [(.sl 63 yh)] [false]], [⟨false, [.bool], [false]⟩], false, false⟩
def ypO : Sig := ⟨[.v true [(.sl 58 yt)] [false]], [⟨false, [(.int .i64)], [false]⟩], false, false⟩
def ypP : Sig := ⟨[.v true [(.sl 58 yt)] [false]], [⟨false, [.bool], [false]⟩], false, false⟩
def ypQ : Sig := ⟨[.v false [(.sl 63 yh)] [false]], [⟨false, [(.sl 63 yh)], [true]⟩], false, false⟩
def ypR : Sig := ⟨[.v true Vo (nf 5), .v true Vo (nf 5)], [⟨false, [.bool], [false]⟩], false, false⟩
def ypS : Sig := ⟨[.v false [(.sl 63 yh)] [false], .v true Vo (nf 5)], [⟨false, [(.sl 63 yh)], [true]⟩], false, false⟩
def ypT : Sig := ⟨[.v false [(.sl 63 yh)] [false], .v false [(.sl 63 yh)] [false]], [⟨false, [(.sl 63 yh)], [true]⟩], false, false⟩
def ypU : Sig := ⟨[.v true [(.sl 58 yt)] [false]], [⟨false, [(.sl 63 yh)], [true]⟩], false, false⟩
def ypV : Sig := ⟨[.v false [(.int .i64)] [false], .v false [(.int .i64)] [false]], [⟨false, [(.int .i64)], [false]⟩], false, false⟩
def ypW : Sig := ⟨[.v true Vo (nf 5)], [⟨false, [(.int .i64)], [false]⟩], false, false⟩
def ypX : Sig := ⟨[.v true qz8 [false, false], .v false [(.int .i64)] [false]], [⟨false, [.bool], [false]⟩], false, false⟩
def ypY : Sig := ⟨[.v true qz8 [false, false]], [⟨false, [(.sl 63 yh)], [true]⟩], false, false⟩
def ypZ : Sig := ⟨[.v true qz8 [false, false]], [⟨false, [.bool], [false]⟩], false, false⟩
def yq0 : Sig := ⟨[.v false [(.sl 67 yn)] [false], .v false [(.int .i64)] [false]], [⟨false, [(.int .i64)], [false]⟩], false, false⟩
def yq1 : Sig := ⟨[.v false [(.sl 67 yn)] [false]], [⟨false, [.bool], [false]⟩], false, false⟩
def yq2 : Sig := ⟨[.v false [(.sl 53 yj)] [false]], [⟨false, [.bool], [false]⟩], false, false⟩
def yq3 : Sig := ⟨[.v false [(.sl 67 yn)] [false], .v false [(.int .i64)] [false]], [⟨false, [(.sl 3 yd)], [true]⟩], false, false⟩
def yq4 : Sig := ⟨[.v true qz9 (nf 6)], [⟨false, [.bool], [false]⟩], false, false⟩
def yq5 : Sig := ⟨[.v false [(.sl 53 yj)] [false], .v false [(.int .i64)] [false], .v false [(.int .i64)] [false]], [⟨false, [(.int .i64)], [false]⟩, ⟨false, [.bool], [false]⟩], false, false⟩
def yq6 : Sig := ⟨[.v false [(.sl 53 yj)] [false]], [⟨false, [(.int .i64)], [false]⟩], false, false⟩
def yq7 : Sig := ⟨[.v true qz9 (nf 6)], [⟨false, [.bool], [false]⟩], false, false⟩
def yq8 : Sig := ⟨[.v true qz9 (nf 6)], [⟨false, [.bool], [false]⟩], false, false⟩
def yq9 : Sig := ⟨[.v true [(.sl 58 yt)] [false]], [⟨true, [(.sl 58 yt)], [true]⟩], false, false⟩
def yqa : Sig := ⟨[.v true qz8 [false, false]], [⟨true, qz8, [true, true]⟩], false, false⟩
def yqb : Sig := ⟨[.v false [(.sl 53 yj)] [false]], [⟨false, [(.sl 53 yj)], [true]⟩], false, false⟩
def yqc : Sig := ⟨[.v true qz9 (nf 6)], [⟨true, qz9, [true, true, true, true, true, false]⟩], false, false⟩
def yqd : Sig := ⟨[.v true qz9 (nf 6), .v false [.str] [false]], [⟨false, [(.int .i64)], [false]⟩], false, false⟩
def yqe : Sig := ⟨[.v true qz9 (nf 6), .v false [.str] [false]], [⟨false, [(.int .i64)], [false]⟩], false, false⟩
def yqf : Sig := ⟨[.v false [(.sl 67 yn)] [false], .v false [(.int .i64)] [false], .v false [(.int .i64)] [false]], [⟨false, [(.sl 67 yn)], [true]⟩, ⟨false, [.bool], [false]⟩], false, false⟩
def yqg : Sig := ⟨[.v false [(.sl 41 yI)] [false], .v true yeo (nf 4)], [⟨false, [(.sl 41 yI)], [true]⟩], false, false⟩
def yqh : Sig := ⟨[.v true qz9 (nf 6), .v true qz9 [false, false, false, true, true, false], .v false [.bool] [false]], [⟨true, qz9, [false, false, false, true, true, false]⟩, ⟨false, [(.int .i64)], [false]⟩], false, false⟩
def yqi : Sig := ⟨[.v true qz9 (nf 6), .v false [.str] [false], .v false [(.int .i64)] [false]], [⟨true, qz9, [false, false, false, true, true, false]⟩, ⟨false, [(.int .i64)], [false]⟩], false, false⟩
def yqj : Sig := ⟨[.v true qz9 (nf 6), .v false [.str] [false], .v false [.str] [false], .v false [.bool] [false]], [⟨true, qz9, [false, false, false, true, true, false]⟩, ⟨false, [(.int .i64)], [false]⟩], false, false⟩
def yqk : Sig := ⟨[.v true qz9 (nf 6), .v false [.str] [false]], [⟨false, [(.int .i64)], [false]⟩], false, false⟩
def yql : Sig := ⟨[.v true qz9 (nf 6), .v false [.str] [false]], [⟨true, qz9, [false, false, false, true, true, false]⟩, ⟨false, [(.int .i64)], [false]⟩], false, false⟩
def yqm : Sig := ⟨[.v true qz9 (nf 6), .v false [.str] [false], .v false [(.int .i64)] [false]], [⟨false, [(.int .i64)], [false]⟩], false, false⟩
def yqn : Sig := ⟨[.v false [(.sl 53 yj)] [false], .v false [(.int .i64)] [false]], [⟨false, [(.sl 53 yj)], [true]⟩, ⟨false, [(.int .i64)], [false]⟩, ⟨false, [.bool], [false]⟩], false, false⟩
def yqo : Sig := ⟨[.v true qz8 [false, false], .v false [(.int .i64)] [false], .v false [(.int .i64)] [false]], [⟨false, [(.int .i64)], [false]⟩], false, false⟩
def yqp : Sig := ⟨[.v false [(.sl 63 yh)] [false], .v false [(.int .i64)] [false], .v false [(.int .i64)] [false]], [⟨true, Vo, (nf 5)⟩, ⟨false, [.bool], [false]⟩], false, false⟩
def yqq : Sig := ⟨[.v true [(.sl 58 yt)] [false], .v false [(.int .i64)] [false], .v false [(.int .i64)] [false]], [⟨true, Vo, (nf 5)⟩, ⟨false, [.bool], [false]⟩], false, false⟩
def yqr : Sig := ⟨[.v true qz8 [false, false], .v false [(.int .i64)] [false], .v false [(.int .i64)] [false]], [⟨true, Vo, (nf 5)⟩, ⟨false, [.bool], [false]⟩], false, false⟩
def yqs : Sig := ⟨[.v false [(.sl 63 yh)] [false]], [⟨true, [(.sl 58 yt)], [true]⟩], false, false⟩
def yqt : Sig := ⟨[.v true [(.sl 58 yt)] [false], .v true Vo (nf 5)], [⟨true, [(.sl 58 yt)], [true]⟩, ⟨false, [.bool], [false]⟩], false, false⟩
def yqu : Sig := ⟨[.v true qz8 [true, true], .v false [(.int .i64)] [false], .v false [(.sl 3 yd)] [false], .v false [(.sl 99 yk)] [false]], [⟨true, qz8, [true, true]⟩], false, true⟩
def yqv : Sig := ⟨[.v true qz8 [false, false]], [⟨false, [(.int .i64)], [false]⟩], false, false⟩
def yqw : Sig := ⟨[.v true qz8 [true, true]], [⟨true, qz8, [true, true]⟩], false, false⟩
def yqx : Sig := ⟨[.v true qz8 [false, false], .v true Vo (nf 5)], [⟨true, qz8, [true, true]⟩, ⟨false, [.bool], [false]⟩], false, false⟩
def yqy : Sig := ⟨[.v false [(.sl 53 yj)] [false], .v false [(.int .i64)] [false]], [⟨false, [(.sl 53 yj)], [true]⟩], false, false⟩
def yqz : Sig := ⟨[.p none qz9 [false, false, false, true, true, false], .v true Vo (nf 5), .v false [.bool] [false]], [], false, false⟩
def yqA : Sig := ⟨[.p none qz9 [false, false, false, true, true, false], .v true Vo (nf 5)], [⟨false, [.bool], [false]⟩], false, false⟩
def yqB : Sig := ⟨[.v true qz9 (nf 6), .v false [.str] [false], .v false [(.int .i64)] [false], .v false [(.int .i64)] [false]], [⟨true, qz9, [false, false, false, true, true, false]⟩, ⟨false, [(.int .i64)], [false]⟩], false, false⟩
def yqC : Sig := ⟨[.v false [(.sl 67 yn)] [false], .v false [(.int .i64)] [false]], [⟨false, [(.sl 3 yd)], [true]⟩], false, false⟩
def yqD : Sig := ⟨[.v true qz8 [false, false], .v false [(.int .i64)] [false]], [⟨false, [(.sl 63 yh)], [true]⟩], false, false⟩
def yqE : Sig := ⟨[.v false [(.sl 3 yd)] [false], .v false [(.int .i64)] [false]], [⟨false, [.bool], [false]⟩], false, false⟩
def yqF : Sig := ⟨[.v true qz8 [false, false], .v false [(.int .i64)] [false], .v false [(.sl 3 yd)] [false]], [⟨true, Vo, (nf 5)⟩, ⟨false, [.bool], [false]⟩], false, false⟩
def yqG : Sig := ⟨[.v true qz8 [false, false], .v false [(.sl 67 yn)] [false], .v false [(.int .i64)] [false], .v false [(.int .i64)] [false]], [⟨true, Vo, (nf 5)⟩, ⟨false, [.bool], [false]⟩], false, false⟩
def yqH : Sig := ⟨[.p none qz9 [false, false, false, true, true, false], .v false [(.int .i64)] [false], .v false [(.int .i64)] [false]], [⟨false, [.bool], [false]⟩], false, false⟩
def yqI : Sig := ⟨[.v true qz9 (nf 6), .v false [.str] [false], .v false [(.int .i64)] [false]], [⟨true, qz9, [false, false, false, true, true, false]⟩, ⟨false, [(.int .i64)], [false]⟩], false, false⟩
def yqJ : Sig := ⟨[.v true qz9 (nf 6), .v false [.str] [false], .v false [(.int .i64)] [false]], [⟨true, qz9, [false, false, false, true, true, false]⟩, ⟨false, [(.int .i64)], [false]⟩], false, false⟩
def yqK : Sig := ⟨[.v true qz8 [false, false], .v false [(.sl 67 yn)] [false], .v false [(.int .i64)] [false], .v false [(.int .i64)] [false]], [⟨true, Vo, (nf 5)⟩, ⟨false, [.bool], [false]⟩], false, false⟩
def yqL : Sig := ⟨[.v true qz8 [false, false], .v false [(.sl 67 yn)] [false], .v true Vo (nf 5), .v false [(.int .i64)] [false]], [⟨false, [.bool], [false]⟩], false, false⟩
def yqM : Sig := ⟨[.v true qz9 (nf 6), .v true Vo (nf 5)], [⟨false, [.bool], [false]⟩], false, false⟩
def yqN : Sig := ⟨[.v true qz9 (nf 6), .v false [(.int .i64)] [false]], [⟨false, [.bool], [false]⟩], false, false⟩
def yqO : Sig := ⟨[.v true qz9 (nf 6), .v false [(.int .i64)] [false]], [⟨false, [(.int .i64)], [false]⟩], false, false⟩
def yqP : Sig := ⟨[.v true qz9 (nf 6), .v true Vo (nf 5)], [⟨false, [.bool], [false]⟩], false, false⟩
def yqQ : Sig := ⟨[.v true qz9 (nf 6), .v false [(.int .i64)] [false], .v true Vo (nf 5)], [⟨false, [.bool], [false]⟩], false, false⟩
def yqR : Sig := ⟨[.v true qz9 (nf 6), .v false [(.int .i64)] [false]], [⟨false, [.bool], [false]⟩], false, false⟩
def yqS : Sig := ⟨[.v true qz9 (nf 6)], [⟨false, [(.int .i64)], [false]⟩, ⟨false, [(.int .i64)], [false]⟩], false, false⟩
def yqT : Sig := ⟨[.p none qz9 [false, false, false, true, true, false], .v true Vo (nf 5)], [⟨false, [.bool], [false]⟩], false, false⟩
def yqU : Sig := ⟨[.v false [(.sl 67 yn)] [false], .v false [(.int .i64)] [false]], [⟨false, [(.sl 67 yn)], [true]⟩, ⟨false, [.bool], [false]⟩], false, false⟩
def yqV : Sig := ⟨[.v true qz9 (nf 6)], [⟨true, qz9, [false, false, false, true, true, false]⟩, ⟨false, [.bool], [false]⟩], false, false⟩
def yqW : Sig := ⟨[.v true [(.sl 58 yt)] [false]], [⟨true, [(.sl 58 yt)], [true]⟩], false, false⟩
def yqX : Sig := ⟨[.v true qz8 [false, false], .v false [(.int .i64)] [false]], [⟨true, qz8, [true, true]⟩], false, false⟩
def yqY : Sig := ⟨[.v true qz9 (nf 6), .v false [(.int .i64)] [false]], [⟨true, qz9, [true, true, true, true, true, false]⟩, ⟨false, [.bool], [false]⟩], false, false⟩
def yqZ : Sig := ⟨[.v true qz9 (nf 6), .v false [(.int .i64)] [false]], [⟨true, Vo, (nf 5)⟩], false, false⟩
def yr0 : Sig := ⟨[.v true qz9 (nf 6), .v false [(.int .i64)] [false]], [⟨true, qz9, [true, true, true, true, true, false]⟩, ⟨false, [.bool], [false]⟩], false, false⟩
def yr1 : Sig := ⟨[.v true qz9 (nf 6), .v true yjh (nf 5)], [⟨true, qz9, [false, false, false, true, true, false]⟩, ⟨false, [.bool], [false]⟩], false, false⟩
def yAo : Sig := ⟨[.v true qz9 (nf 6), .v true yjh (nf 5)], [⟨true, qz9, [false, false, false, true, true, false]⟩, ⟨false, [(.int .i64)], [false]⟩], false, false⟩
def yAp : Sig := ⟨[.p none qz0 (nf 3), .v false [(.int .i64)] [false]], [⟨true, qz9, [false, false, false, true, true, false]⟩], false, false⟩
def yAq : Sig := ⟨[.v false [(.sl 5 kK)] [false], .v false [(.int .i64)] [false]], [⟨false, [(.int .i64)], [false]⟩], false, false⟩
def sg8 : Sig := ⟨[.v false [(.sl 5 kK)] [false]], [⟨true, qz9, [false, false, false, true, true, false]⟩, ⟨true, yjh, (nf 5)⟩], false, false⟩
def yAr : Sig := ⟨[.v false [(.int .i64)] [false], .v false [(.int .i64)] [false], .v false [(.int .i64)] [false]], [⟨false, [.bool], [false]⟩], false, false⟩
def yr2 : Sig := ⟨[.v true Vo (nf 5), .v true Vo (nf 5)], [⟨false, [.bool], [false]⟩], false, false⟩
def yr3 : Sig := ⟨[.v true Vo (nf 5), .v true Vo (nf 5)], [⟨false, [.bool], [false]⟩], false, false⟩
def yr4 : Sig := ⟨[.v false [(.sl 63 yh)] [false], .v true Vo (nf 5)], [⟨false, [(.sl 63 yh)], [true]⟩], false, false⟩
def yr5 : Sig := ⟨[.v false [(.sl 63 yh)] [false]], [⟨false, [(.sl 63 yh)], [true]⟩], false, false⟩
def yr6 : Sig := ⟨[.v false [(.sl 63 yh)] [false], .v false [(.sl 63 yh)] [false]], [⟨false, [(.sl 63 yh)], [true]⟩], false, false⟩
def yr7 : Sig := ⟨[.v false [(.sl 63 yh)] [false]], [⟨false, [(.sl 63 yh)], [true]⟩], false, false⟩
def yAs : Sig := ⟨[.v true [(.sl 58 yt)] [false]], [⟨false, [(.sl 63 yh)], [true]⟩], false, false⟩
def yAt : Sig := ⟨[.v true qz8 [false, false]], [⟨false, [(.sl 63 yh)], [true]⟩], false, false⟩
def yr8 : Sig := ⟨[.v true qz8 [false, false], .v false [(.int .i64)] [false]], [⟨false, [(.sl 63 yh)], [true]⟩], false, false⟩
def yr9 : Sig := ⟨[.v false [(.sl 3 yd)] [false], .v false [(.int .i64)] [false]], [⟨false, [(.int .i64)], [false]⟩], false, false⟩
def yra : Sig := ⟨[.v false [(.sl 3 yd)] [false], .v false [(.int .i64)] [false]], [⟨false, [.bool], [false]⟩], false, false⟩
def yrb : Sig := ⟨[.v true qz8 [false, false], .v false [(.int .i64)] [false], .v false [(.sl 3 yd)] [false]], [⟨true, Vo, (nf 5)⟩, ⟨false, [.bool], [false]⟩], false, false⟩
def yrc : Sig := ⟨[.v true ykJ [false, false], .p none [(.int .i64)] [false]], [⟨false, [.bool], [false]⟩], false, false⟩
def yd1 : Sig := ⟨[.v false [(.sl 67 yn)] [false], .p (some 129) [(.int .i64)] [false]], [⟨false, [(.int .i64)], [false]⟩], false, false⟩
def yAu : Sig := ⟨[.v false [(.sl 67 yn)] [false], .v false [(.int .i64)] [false]], [⟨false, [(.int .i64)], [false]⟩], false, false⟩
def yrd : Sig := ⟨[.v false [(.sl 67 yn)] [false], .v false [(.int .i64)] [false]], [⟨false, [(.sl 3 yd)], [true]⟩], false, false⟩
def yAv : Sig := ⟨[.v true qz8 [false, false], .v false [(.sl 67 yn)] [false], .v false [(.int .i64)] [false], .v false [(.int .i64)] [false]], [⟨true, Vo, (nf 5)⟩, ⟨false, [.bool], [false]⟩], false, false⟩
def yAw : Sig := ⟨[.v false [(.sl 53 yj)] [false], .v false [(.int .i64)] [false], .v false [(.int .i64)] [false]], [⟨false, [(.int .i64)], [false]⟩, ⟨false, [.bool], [false]⟩], false, false⟩
def yAx : Sig := ⟨[.v true qz9 (nf 6), .v false [(.int .i64)] [false], .v false [(.int .i64)] [false]], [⟨false, [(.int .i64)], [false]⟩], false, false⟩
def yAy : Sig := ⟨[.v true qz9 (nf 6)], [⟨false, [(.sl 89 Jb)], [true]⟩], false, false⟩
def yAz : Sig := ⟨[.v false [(.sl 53 yj)] [false]], [⟨false, [(.int .i64)], [false]⟩], false, false⟩
def yAA : Sig := ⟨[.v false [(.sl 3 yd)] [false], .v false [(.sl 3 yd)] [false]], [⟨false, [.bool], [false]⟩], false, false⟩
def yAB : Sig := ⟨[.v true ypA (nf 3), .v true ypA (nf 3)], [⟨false, [.bool], [false]⟩], false, false⟩
def yd2 : Sig := ⟨[.v false [(.sl 89 Jb)] [false], .v false [(.sl 89 Jb)] [false], .k 59], [⟨false, [.bool], [false]⟩], false, false⟩
def yAC : Sig := ⟨[.v false [(.sl 89 Jb)] [false], .v false [(.sl 89 Jb)] [false]], [⟨false, [.bool], [false]⟩], false, false⟩
def yAD : Sig := ⟨[.v true Vo (nf 5)], [⟨false, [.bool], [false]⟩], false, false⟩
def yre : Sig := ⟨[.v false [(.sl 63 yh)] [false]], [⟨false, [.bool], [false]⟩], false, false⟩
def yAE : Sig := ⟨[.v true [(.sl 58 yt)] [false]], [⟨false, [.bool], [false]⟩], false, false⟩
def yAF : Sig := ⟨[.v false [(.int .i64)] [false], .v false [(.int .i64)] [false]], [⟨false, [(.int .i64)], [false]⟩], false, false⟩
def yAG : Sig := ⟨[.v true qz8 [false, false], .v false [(.int .i64)] [false]], [⟨false, [.bool], [false]⟩], false, false⟩
def yAH : Sig := ⟨[.v true qz8 [false, false]], [⟨false, [.bool], [false]⟩], false, false⟩
def yAI : Sig := ⟨[.v false [(.sl 67 yn)] [false]], [⟨false, [.bool], [false]⟩], false, false⟩
def yAJ : Sig := ⟨[.v false [(.int .i64)] [false]], [⟨false, [.bool], [false]⟩], false, false⟩
def yAK : Sig := ⟨[.v false [(.sl 53 yj)] [false]], [⟨false, [.bool], [false]⟩], false, false⟩
def yAL : Sig := ⟨[.v false [(.sl 67 yn)] [false], .v false [(.int .i64)] [false]], [⟨false, [(.sl 3 yd)], [true]⟩], false, false⟩
def yAM : Sig := ⟨[.v false [.str] [false]], [⟨false, [.bool], [false]⟩], false, false⟩
def yAN : Sig := ⟨[.v true yeo (nf 4), .p none yeo (nf 4)], [⟨false, [.bool], [false]⟩], false, false⟩
def yd3 : Sig := ⟨[.v false [(.sl 41 yI)] [false], .p (some 98) yeo (nf 4)], [⟨false, [(.int .i64)], [false]⟩], false, false⟩
def yd4 : Sig := ⟨[.v false [(.sl 41 yI)] [false], .p (some 98) yeo (nf 4)], [⟨false, [.bool], [false]⟩], false, false⟩
def yAO : Sig := ⟨[.v true qz9 (nf 6)], [⟨false, [.bool], [false]⟩], false, false⟩
def yAP : Sig := ⟨[.v true qz9 (nf 6)], [⟨false, [.bool], [false]⟩], false, false⟩
def yAQ : Sig := ⟨[.v true qz9 (nf 6)], [⟨false, [.bool], [false]⟩], false, false⟩
def yAR : Sig := ⟨[.v true yeo (nf 4), .p none [(.int .i64)] [false]], [⟨false, [.bool], [false]⟩], false, false⟩
def yd5 : Sig := ⟨[.v false [(.sl 41 yI)] [false], .p (some 67) [(.int .i64)] [false]], [⟨false, [(.int .i64)], [false]⟩], false, false⟩
def yd6 : Sig := ⟨[.v false [(.sl 41 yI)] [false], .p (some 67) [(.int .i64)] [false]], [⟨false, [.bool], [false]⟩], false, false⟩
def yAS : Sig := ⟨[.v true qz9 (nf 6), .v false [(.int .i64)] [false]], [⟨false, [.bool], [false]⟩], false, false⟩
def yAT : Sig := ⟨[.v true qz8 [false, false], .v false [(.sl 67 yn)] [false], .v true Vo (nf 5), .v false [(.int .i64)] [false]], [⟨false, [.bool], [false]⟩], false, false⟩
def yAU : Sig := ⟨[.v true qz9 (nf 6), .v true Vo (nf 5)], [⟨false, [.bool], [false]⟩], false, false⟩
def yAV : Sig := ⟨[.v true qz8 [false, false], .v false [(.int .i64)] [false], .v false [(.int .i64)] [false]], [⟨false, [(.int .i64)], [false]⟩], false, false⟩
def yrf : Sig := ⟨[.v false [(.sl 63 yh)] [false], .v false [(.int .i64)] [false], .v false [(.int .i64)] [false]], [⟨true, Vo, (nf 5)⟩, ⟨false, [.bool], [false]⟩], false, false⟩
def yrg : Sig := ⟨[.v true [(.sl 58 yt)] [false], .v false [(.int .i64)] [false], .v false [(.int .i64)] [false]], [⟨true, Vo, (nf 5)⟩, ⟨false, [.bool], [false]⟩], false, false⟩
def yAW : Sig := ⟨[.v true qz8 [false, false], .v false [(.int .i64)] [false], .v false [(.int .i64)] [false]], [⟨true, Vo, (nf 5)⟩, ⟨false, [.bool], [false]⟩], false, false⟩
def yAX : Sig := ⟨[.v true qz8 [false, false], .v false [(.sl 67 yn)] [false], .v false [(.int .i64)] [false], .v false [(.int .i64)] [false]], [⟨true, Vo, (nf 5)⟩, ⟨false, [.bool], [false]⟩], false, false⟩
def yAY : Sig := ⟨[.v true qz9 (nf 6), .v false [(.int .i64)] [false], .v true Vo (nf 5)], [⟨false, [.bool], [false]⟩], false, false⟩
def yAZ : Sig := ⟨[.v false [(.sl 63 yh)] [false], .v false [(.int .i64)] [false]], [⟨false, [.bool], [false]⟩], false, false⟩
def yB0 : Sig := ⟨[.v true qz9 (nf 6)], [⟨false, [(.int .i64)], [false]⟩, ⟨false, [(.int .i64)], [false]⟩], false, false⟩
def yrh : Sig := ⟨[.v false [(.sl 3 yd)] [false]], [⟨false, [(.sl 3 yd)], [true]⟩], false, false⟩
def yri : Sig := ⟨[.v true [(.sl 58 yt)] [false]], [⟨true, [(.sl 58 yt)], [true]⟩], false, false⟩
def yB1 : Sig := ⟨[.v true qz8 [false, false]], [⟨true, qz8, [true, true]⟩], false, false⟩
def yB2 : Sig := ⟨[.v false [(.sl 67 yn)] [false]], [⟨false, [(.sl 67 yn)], [true]⟩], false, false⟩
def yB3 : Sig := ⟨[.v false [(.sl 53 yj)] [false]], [⟨false, [(.sl 53 yj)], [true]⟩], false, false⟩
def yB4 : Sig := ⟨[.v true qz9 (nf 6)], [⟨true, qz9, [true, true, true, true, true, false]⟩], false, false⟩
def yB5 : Sig := ⟨[.v true [(.sl 58 yt)] [false], .v true Vo (nf 5)], [⟨false, [(.sl 63 yh)], [true]⟩], false, false⟩
def yB6 : Sig := ⟨[.v false [(.sl 63 yh)] [false]], [⟨true, [(.sl 58 yt)], [true]⟩], false, false⟩
def yB7 : Sig := ⟨[.v true [(.sl 58 yt)] [false], .v true Vo (nf 5)], [⟨true, [(.sl 58 yt)], [true]⟩, ⟨false, [.bool], [false]⟩], false, false⟩
def yB8 : Sig := ⟨[.v true qz8 [false, false], .v false [(.int .i64)] [false], .v false [(.int .i64)] [false], .v false [(.sl 3 yd)] [false], .v false [(.sl 99 yk)] [false]], [⟨true, qz8, [true, true]⟩], false, false⟩
def yB9 : Sig := ⟨[.v true qz8 [false, false]], [⟨true, qz8, [false, false]⟩], false, false⟩
def yBa : Sig := ⟨[.v true qz8 [false, false], .v true Vo (nf 5)], [⟨true, qz8, [false, false]⟩, ⟨false, [.bool], [false]⟩], false, false⟩
def yBb : Sig := ⟨[.v false [(.sl 53 yj)] [false], .v false [(.int .i64)] [false]], [⟨false, [(.sl 53 yj)], [true]⟩], false, false⟩
def yBc : Sig := ⟨[.p none qz9 [false, false, false, false, true, false], .v true Vo (nf 5)], [⟨false, [.bool], [false]⟩], false, false⟩
def yfS : Sig := ⟨[.v false [(.sl 67 yn)] [true], .v false [(.int .i64)] [false], .v false [(.int .i64)] [false]], [⟨false, [(.sl 67 yn)], [true]⟩], false, false⟩
def yrj : Sig := ⟨[.v false [(.sl 67 yn)] [false], .v false [(.int .i64)] [false]], [⟨false, [(.sl 67 yn)], [true]⟩, ⟨false, [.bool], [false]⟩], false, false⟩
def yBd : Sig := ⟨[.p none qz9 [false, false, false, false, true, false], .v false [(.int .i64)] [false], .v false [(.int .i64)] [false]], [⟨false, [.bool], [false]⟩], false, false⟩
def yBe : Sig := ⟨[.v true qz9 (nf 6)], [⟨true, qz9, [false, false, false, false, true, false]⟩, ⟨false, [.bool], [false]⟩], false, false⟩
def yBf : Sig := ⟨[.v true qz9 (nf 6)], [⟨true, qz9, (nf 6)⟩, ⟨false, [(.int .i64)], [false]⟩], false, false⟩
def yBg : Sig := ⟨[.v true qz9 (nf 6)], [⟨true, qz9, (nf 6)⟩], false, false⟩
def yBh : Sig := ⟨[.v true qz9 (nf 6)], [⟨false, [(.int .i64)], [false]⟩], false, false⟩
def yBi : Sig := ⟨[.v true qz9 (nf 6)], [⟨false, [(.int .i64)], [false]⟩], false, false⟩
def yBj : Sig := ⟨[.v true qz9 (nf 6)], [⟨false, [(.int .i64)], [false]⟩], false, false⟩
def yBk : Sig := ⟨[.v true qz9 (nf 6)], [⟨false, [.bool], [false]⟩], false, false⟩
def sg6 : Sig := ⟨[.v false [(.sl 5 kK)] [false]], [⟨false, [.bool], [false]⟩], false, false⟩
def yCc : List (Nat × Sig) := [(7, sg7), (32, yAg), (106, ypC), (69, yAh), (71, yAi), (72, yAj), (73, yAk), (74, yAl), (35, yAm), (104, ypD), (105, ypE), (68, yAn), (132, ypF), (131, ypG), (133, ypH), (134, ypI), (107, ypJ), (183, ypK), (201, ypL), (208, ypM), (196, ypN), (197, ypO), (178, ypP), (186, ypQ), (202, ypR), (187, ypS), (198, ypT), (179, ypU), (199, ypV), (180, ypW), (159, ypX), (160, ypY), (135, ypZ), (161, yq0), (136, yq1), (137, yq2), (162, yq3), (138, yq4), (163, yq5), (164, yq6), (139, yq7), (108, yq8), (165, yq9), (140, yqa), (141, yqb), (109, yqc), (142, yqd), (143, yqe), (144, yqf), (145, yqg), (146, yqh), (110, yqi), (111, yqj), (147, yqk), (112, yql), (148, yqm), (149, yqn), (181, yqo), (200, yqp), (182, yqq), (166, yqr), (188, yqs), (184, yqt), (185, yqu), (203, yqv), (189, yqw), (167, yqx), (176, yqy), (168, yqz), (150, yqA), (113, yqB), (190, yqC), (204, yqD), (205, yqE), (191, yqF), (169, yqG), (151, yqH), (114, yqI), (115, yqJ), (210, yqK), (209, yqL), (206, yqM), (194, yqN), (172, yqO), (207, yqP), (192, yqQ), (193, yqR), (170, yqS), (171, yqT), (173, yqU), (152, yqV), (195, yqW), (174, yqX), (153, yqY), (175, yqZ), (154, yr0), (116, yr1), (70, yAo), (33, yAp), (34, yAq), (8, sg8), (47, yAr), (157, yr2), (158, yr3), (125, yr4), (126, yr5), (101, yr6), (102, yr7), (63, yAs), (23, yAt), (155, yr8), (177, yr9), (156, yra), (118, yrb), (129, yrc), (100000, yd1), (97, yAu), (119, yrd), (77, yAv), (78, yAw), (37, yAx), (17, yAy), (18, yAz), (99, yAA), (59, yAB), (100001, yd2), (20, yAC), (87, yAD), (127, yre), (95, yAE), (92, yAF), (96, yAG), (53, yAH), (54, yAI), (38, yAJ), (55, yAK), (28, yAL), (76, yAM), (98, yAN), (100003, yd3), (100002, yd4), (56, yAO), (57, yAP), (19, yAQ), (67, yAR), (100005, yd5), (100004, yd6), (27, yAS), (65, yAT), (26, yAU), (88, yAV), (124, yrf), (122, yrg), (82, yAW), (85, yAX), (61, yAY), (62, yAZ), (22, yB0), (120, yrh), (121, yri), (79, yB1), (80, yB2), (81, yB3), (39, yB4), (90, yB5), (93, yB6), (89, yB7), (91, yB8), (94, yB9), (50, yBa), (51, yBb), (41, yBc), (130, yfS), (100, yrj), (60, yBd), (21, yBe), (64, yBf), (24, yBg), (25, yBh), (29, yBi), (31, yBj), (30, yBk), (6, sg6)]
def yvr : List (Nat × (List Nat × List Nat)) := [
 (3200003, [0, 3, 4, 13, 14], [0, 3]),
 (13100002, [0, 3, 17, 18, 19, 20, 21, 22], [0, 2]),
 (20800002, [0, 3], [2]),
 (19600002, [0, 3, 19, 20, 21], [0, 2, 19, 20, 21]),
 (19700003, [1, 3, 4], [3]),
 (17800002, [1, 3, 19, 20, 21, 22, 23, 24, 25, 32, 33, 34], [1, 2, 32, 33, 34]),
 (18600003, [0, 3, 4], [3]),
 (18700004, [0, 3, 5, 6, 7, 18, 19, 20, 21, 22, 23, 24], [3, 5, 6]),
 (19800003, [1, 5, 6], [5]),
 (17900003, [1, 3, 4], [3]),
 (15900005, [1, 2, 5, 6, 61, 62, 63, 64, 65, 66, 67, 68, 69, 70, 71, 72, 73, 74, 75, 76], [4]),
 (15900008, [1, 2, 5, 6, 7, 61, 62, 63, 64, 65, 66, 67, 68, 69, 70, 71, 72, 73, 74, 75, 76], [1, 2, 4, 5, 6, 61, 62, 63, 64, 65, 66, 67, 68, 69, 70, 71, 72, 73, 74, 75, 76]),
 (16000003, [1, 3, 4], [3]),
 (13500004, [1, 3, 35, 36, 37, 38, 39, 40, 41, 42, 43, 44, 45, 46, 49, 50, 51, 52], [1, 2]),
 (16100002, [0, 1, 5], [4]),
 (13600002, [0, 3, 18, 19, 20, 21, 22, 23, 24, 25, 26, 27, 28, 29, 30, 31, 32, 33, 42, 43, 44, 45, 46, 47, 48, 49, 50, 51], [0, 2]),
 (13700002, [0, 3, 18, 19, 20, 21, 22, 23, 24, 27, 28, 29, 30, 31, 32, 33, 34, 35, 36, 37, 38, 39, 40], [0, 2]),
 (16200003, [0, 1, 5, 6, 22, 23], [5]),
 (13800002, [1, 3, 23, 24, 25, 26, 29, 30, 31, 32, 33, 34, 37, 38, 39, 40, 41, 42, 43, 46, 47, 48, 49, 50, 51, 52, 53, 54, 55, 56, 57, 58, 59], [1, 2]),
 (13800008, [1, 3, 4, 5, 23, 24, 25, 26, 29, 30, 31, 32, 33, 34, 37, 38, 39, 40, 41, 42, 43, 46, 47, 48, 49, 50, 51, 52, 53, 54, 55, 56, 57, 58, 59], [1, 2, 3, 23, 24, 25, 26, 29, 30, 31, 32, 33, 34, 37, 38, 39, 40, 41, 42, 43, 46, 47, 48, 49, 50, 51, 52, 53, 54, 55, 56, 57, 58, 59]),
 (16400003, [0, 3, 4], [3]),
 (13900004, [1, 3, 4, 5, 65, 66, 67, 68, 69, 70, 71, 72, 73, 74, 75], [1, 2, 4]),
 (13900014, [1, 3, 4, 5, 8, 65, 66, 67, 68, 69, 70, 71, 72, 73, 74, 75], [1, 2, 3, 4, 5, 65, 66, 67, 68, 69, 70, 71, 72, 73, 74, 75]),
 (10800002, [1, 3, 24, 25, 26, 29, 30, 31, 34, 35, 36, 39, 40, 43, 44], [1, 2, 24, 25, 26, 29, 30, 31, 34, 35, 36, 39, 40, 43, 44]),
 (16500003, [1, 2, 3, 4], [2, 3]),
 (14000003, [1, 2, 3, 4], [2, 3]),
 (14300002, [1, 2, 5], [4]),
 (14400004, [0, 1, 2, 8, 9, 10, 25, 26, 27, 28, 29, 30, 31, 59, 60, 61], [0, 1, 2, 8, 9, 59, 60, 61]),
 (14500003, [3, 5, 6, 19, 20, 21, 22, 23, 24, 25, 26, 27], [3, 5, 6]),
 (14900003, [0, 1, 7, 8, 16, 17, 20, 21], [4, 5, 6, 7]),
 (18100003, [1, 2, 3, 7, 8], [7]),
 (20000002, [0, 1, 2, 6, 8, 23, 24, 25, 26, 27, 28, 29], [6, 7]),
 (18200002, [1, 2, 3, 6, 8, 32, 33, 34], [6, 7]),
 (20300002, [1, 3], [2]),
 (18900002, [1, 2, 3], [1, 2]),
 (19000003, [0, 5, 6, 14, 15, 16, 17, 18], [5]),
 (20400004, [1, 5, 6, 7], [5]),
 (20500002, [0, 1, 5], [4]),
 (19100005, [2, 6, 8, 9, 10, 11, 30, 31, 32, 33, 34, 35, 36, 37, 38, 39, 40, 41], [6, 8, 9]),
 (11500010, [2, 3, 6, 8, 10, 11, 12, 43], [2, 3, 6, 8, 10, 11]),
 (20600002, [2, 3, 5, 23, 24, 25, 26, 27, 28, 29, 30, 31, 32, 33, 34], [4]),
 (19400002, [1, 2, 5], [4]),
 (19300003, [1, 2, 5, 6, 27, 28, 29, 30, 31, 32], [1, 2, 4, 27, 28, 29, 30, 31, 32]),
 (17000005, [1, 4, 5], [1, 2, 3]),
 (17000008, [1, 4, 5, 6], [1, 2, 3, 4, 5]),
 (17000013, [1, 7], [2, 3]),
 (17300006, [0, 1, 6, 7, 8], [7]),
 (17500003, [1, 4, 5, 6, 23, 24, 25, 26, 27, 28, 29], [4]),
 (3300003, [0, 4, 5, 6], [0, 4, 5]),
 (12500004, [3, 5, 6, 10, 11, 12, 19, 20, 21, 22], [3, 5, 6]),
 (10100003, [5, 10, 11, 12], [5]),
 (10200003, [3, 7, 8, 9], [3]),
 (6300003, [3, 8, 9, 10], [3]),
 (2300003, [3, 8, 9, 10], [3]),
 (15500003, [1, 5, 10, 11, 12], [5]),
 (17700002, [0, 1, 7, 8], [4]),
 (11800003, [2, 6, 8, 9, 15, 16, 17, 26, 27, 28, 29, 30, 31, 32, 33, 34], [6, 8, 9]),
 (10000000002, [0, 1, 7, 8], [1, 4]),
 (11900003, [0, 1, 5, 10, 11], [5]),
 (1700003, [1, 3, 10, 11, 12, 27, 28], [3]),
 (1700007, [1, 3, 4, 5, 6, 7, 10, 11, 12, 27, 28], [1, 3, 6, 10, 11, 12, 27, 28]),
 (1800003, [3, 6, 7, 8], [3]),
 (9900004, [0, 1, 12, 13], [4]),
 (10000100004, [1, 2, 15, 16, 17], [6]),
 (12700002, [0, 5, 6, 7, 16, 17, 18, 19, 20, 21, 22, 23, 24, 25, 26, 27], [0, 2]),
 (9500003, [1, 3, 7, 8, 9, 17, 18, 19, 31, 32], [1, 2, 3, 31, 32]),
 (9600002, [1, 2, 15, 16, 17, 40, 41, 42, 43, 44, 45, 46, 47, 48, 49, 50, 51, 52, 53, 54, 55], [4]),
 (9600005, [1, 2, 15, 16, 17, 21, 22, 23, 40, 41, 42, 43, 44, 45, 46, 47, 48, 49, 50, 51, 52, 53, 54, 55], [1, 2, 4, 15, 16, 17, 40, 41, 42, 43, 44, 45, 46, 47, 48, 49, 50, 51, 52, 53, 54, 55]),
 (5300005, [1, 3, 29, 30, 31, 39, 40, 41, 42, 43, 44, 45, 46, 47, 48, 49, 50, 53, 54, 55, 58, 59, 60, 61, 69, 70], [2, 3]),
 (5400002, [0, 5, 6, 7, 17, 18, 19, 20, 21, 22, 23, 24, 25, 26, 27, 28, 29, 32, 33, 34, 35, 36, 37, 38, 39, 40, 41, 42, 43], [0, 2]),
 (5500002, [0, 5, 6, 7, 16, 17, 18, 19, 22, 23, 24, 25, 26, 27, 28, 29], [0, 2]),
 (2800005, [1, 5, 12, 13, 14], [5]),
 (7600002, [0, 3, 17, 18, 19, 20, 21, 22], [0, 2]),
 (10000300002, [0, 1, 7, 8], [1, 4]),
 (5600002, [1, 6, 7, 8, 18, 19, 20, 21, 22, 23, 24, 25, 26, 27, 28, 29, 30, 31, 34, 35, 36, 37, 46, 47, 48, 49, 50, 51, 52], [1, 2]),
 (5700004, [1, 3, 4, 12, 13, 14, 40, 41, 42, 43, 44], [1, 2, 4]),
 (1900004, [1, 28, 29, 30, 43, 44], [1, 2, 43, 44]),
 (10000500002, [0, 1, 7, 8], [1, 4]),
 (2600002, [2, 3, 8, 9, 10, 20, 21, 22, 23, 24, 25, 26, 27], [4]),
 (8800002, [1, 2, 3, 7], [6]),
 (12400002, [1, 2, 6, 10, 11, 12, 21, 22, 23, 24], [6, 7]),
 (12200002, [1, 2, 3, 6, 8], [6, 7]),
 (6200002, [1, 7, 8, 9], [4]),
 (2200005, [1, 4, 17, 18, 19, 51, 52, 53, 54, 55, 56, 57, 60, 61, 62, 63, 64], [1, 2, 3, 4, 51, 52, 53, 54, 55, 56, 57, 60, 61, 62, 63, 64]),
 (2200008, [1, 4, 6, 17, 18, 19, 23, 24, 25, 51, 52, 53, 54, 55, 56, 57, 60, 61, 62, 63, 64], [1, 2, 3, 4, 17, 18, 19, 51, 52, 53, 54, 55, 56, 57, 60, 61, 62, 63, 64]),
 (2200015, [1, 4, 39, 40, 41, 51, 52, 53, 54, 55, 56, 57, 60, 61, 62, 63, 64], [2, 3]),
 (12100003, [2, 3, 8, 9, 10], [2, 3]),
 (7900003, [2, 3, 11, 12, 13], [2, 3]),
 (9400002, [1, 2, 3], [1, 2]),
 (10000006, [0, 1, 6, 7, 23, 24], [6, 7]),
 (6400003, [2, 4, 10], [2, 3, 4]),
 (3100003, [1, 3, 8, 9, 10, 18, 19, 20], [3]),
 (600008, [3, 5, 6, 7, 8, 38, 39, 40, 41, 42, 43, 44, 45, 46, 47, 48, 49, 50, 51, 52, 53, 54, 55, 56, 74, 75, 76, 77, 78, 79, 80, 81, 82, 83, 84, 91, 92, 95, 96, 97, 98, 99, 102, 103, 104, 105, 106, 107, 110, 111, 112, 115, 116, 117, 118, 119], [2, 3, 5, 6, 74, 75, 76, 77, 78, 79, 80, 81, 82, 83, 84, 91, 92, 95, 96, 97, 98, 99, 102, 103, 104, 105, 106, 107, 110, 111, 112, 115, 116, 117, 118, 119]),
 (600013, [3, 5, 6, 9, 74, 75, 76, 77, 78, 79, 80, 81, 82, 83, 84, 91, 92, 95, 96, 97, 98, 99, 102, 103, 104, 105, 106, 107, 110, 111, 112, 115, 116, 117, 118, 119], [2, 3, 5, 6, 91, 92, 95, 96, 97, 98, 99, 102, 103, 104, 105, 106, 107, 110, 111, 112, 115, 116, 117, 118, 119])]
def yBl : List (Nat × List Nat × Nat) := [(128, [129], 100000), (58, [59], 100001), (66, [98], 100002), (103, [98], 100003), (66, [67], 100004), (103, [67], 100005)]
def yvs : List (Nat × List Nat) := [(165, [22]), (140, [25]), (189, [2000000000006000001, 2000000000007000001, 1000033000000027, 1000046000000041, 1000048000000025, 49, 1000049000049000, 1000050000000046]), (167, [2000000000010000011, 49, 1000037000999999, 1000049000038000, 1000050000000047, 1000050000000049, 1000082000999999, 1000086000999999, 87, 1000087000083000, 1000087000087000]), (113, [60]), (169, [21]), (33, [1000019000000900]), (8, [1000015000008500]), (85, [20]), (121, [18]), (79, [21]), (94, [40, 1000039000000026, 1000040000040000]), (50, [2000000000011000010, 1000038000999999, 1000080000999999, 1000084000999999, 85, 1000085000081000, 1000085000085000])]
def C : Ctx := { info := yaZ ypB, sig := yaZ yCc, live := fun f i => yaZ yvr (100000 * f + i), key := Yk yBl, fid := ynB yBl, hint := yj5 yvs }
theorem tok : TOk C Tryz.prog := ynQ (l := ypB) rfl (by kernel_rfl)
theorem yvt : Tryz.prog.follows .mixedOrders = true := by kernel_rfl
abbrev QF := Qf C Tryz.prog
abbrev EV (l : List QF) (lp : Lp) (n : Nat) (fn : Func) (sg : Sig) (ins outs : List Ty) (F : zj ins → Option (zj outs)) : Prop := ∀ x, yhs C (ykH l) lp n fn (qj fn) sg ins outs x = F x
abbrev LF (l : List QF) (lp : Lp) (n i : Nat) (fn : Func) (k : Nat) {T V : Type} (e : T → St) (g : Gk T) (inj : V → T) : Prop := LC C (ykH l) lp n i (cL fn k) e g inj
abbrev LK (l : List QF) (lp : Lp) (n : Nat) (fn : Func) (k : Nat) : Prop := y3n C (ykH l) lp n (cL fn k)
theorem okN {l : List QF} {lp : Lp} {f g : Nat} {fn : Func} {sg : Sig} {n : Nat} (hfn : Tryz.prog.funcs[g]? = some fn) (hl : ynP (y3n C (ykH l) lp f) (jl (qj fn)) n 0) {F : zj (C.ins f) → Option (zj (C.outs f))} (hF : ∀ x, yhs C (ykH l) lp f fn (qj fn) sg (C.ins f) (C.outs f) x = F x) (hsig : C.sig f = some sg := by kernel_rfl) (hB : fnB C f g fn sg n = true := by kernel_rfl) : jT C Tryz.prog f F := yuG tok yvt hfn hsig hB hl hF
theorem lkN {call : C.Sem} {lp : Lp} {f i : Nat} {c : Code} {T : Type} {e : T → St} {u : St → Option T} {g : Gk T} (hu : ∀ s t, u s = some t → e t = s) (hc : LC C call lp f i c e @g (fun t => t)) (hl : laB C f i c = true := by kernel_rfl) (hb : LB lp i u @g := by intro R κ s; kernel_rfl) : y3n C call lp f c := yhZ hl hu hb hc
end Go.Proofs.YtjllpipmaejeoaaGreat.XW
