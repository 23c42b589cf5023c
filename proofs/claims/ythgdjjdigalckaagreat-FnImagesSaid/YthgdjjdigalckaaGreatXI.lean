/- The context of the evaluator for I: types, signatures, slots that live at loops; by a program (dec.py). No condition. -/
import Derived.Test.YthgdjjdigalckaaGreatProg
import Derived.Test.YthgdjjdigalckaaGreatRRow
import Derived.KernelRfl
set_option linter.all false
namespace Go.Proofs.YthgdjjdigalckaaGreat.XI
open Go.Proofs.YthgdjjdigalckaaGreat.R
set_option maxRecDepth 100000
abbrev yu : List Ty := [(.int .u8)]
abbrev za : Type := Int
abbrev y0u (xs : List za) (i : Int) : za := rdE yu xs i
def wP (x : List za) : A := .val (.sl 5 yu) x
abbrev yh : List Ty := [(.int .i64)]
abbrev ye : Type := Int
abbrev y5j : ye := Q7 yh
abbrev zL (xs : List ye) (i : Int) : ye := rdE yh xs i
def zc (x : List ye) : A := .val (.sl 3 yh) x
abbrev yi : List Ty := [(.int .i64), (.int .i64), (.int .i64), (.int .i64), (.int .i64)]
abbrev y9 : Type := Int × Int × Int × Int × Int
abbrev zx : y9 := Q7 yi
abbrev y6 (xs : List y9) (i : Int) : y9 := rdE yi xs i
def qx (x : List y9) : A := .val (.sl 64 yi) x
abbrev yn : List Ty := [(.sl 64 yi)]
abbrev y7 : Type := List y9
abbrev zi : y7 := Q7 yn
abbrev yr (xs : List y7) (i : Int) : y7 := rdE yn xs i
def Yc (x : List y7) : A := .val (.sl 58 yn) x
abbrev yj : List Ty := [(.sl 58 yn)]
abbrev y0 : Type := List y7
abbrev yL : y0 := Q7 yj
abbrev yg (xs : List y0) (i : Int) : y0 := rdE yj xs i
def yw (x : List y0) : A := .val (.sl 140 yj) x
abbrev ym : List Ty := [(.int .i64), (.int .i64)]
abbrev ya : Type := Int × Int
abbrev Yx : ya := Q7 ym
abbrev yG (xs : List ya) (i : Int) : ya := rdE ym xs i
def zk (x : List ya) : A := .val (.sl 146 ym) x
abbrev yd : List Ty := [(.int .i64), .bool, (.int .i64)]
abbrev y8 : Type := Int × Bool × Int
abbrev Z4 : y8 := Q7 yd
abbrev yp (xs : List y8) (i : Int) : y8 := rdE yd xs i
def yI (x : List y8) : A := .val (.sl 113 yd) x
abbrev yt : List Ty := [.str, (.int .i64), (.int .i64), .bool]
abbrev yf : Type := ByteArray × Int × Int × Bool
abbrev wQ : yf := Q7 yt
abbrev yl (xs : List yf) (i : Int) : yf := rdE yt xs i
def zM (x : List yf) : A := .val (.sl 46 yt) x
abbrev y3j : List Ty := [(.sl 5 yu)]
abbrev y2y : Type := List za
abbrev y5k (xs : List y2y) (i : Int) : y2y := rdE y3j xs i
def yqy (x : List y2y) : A := .val (.sl 22 y3j) x
abbrev y0G : List Ty := [.str]
abbrev QS : Type := ByteArray
abbrev yiU : QS := Q7 y0G
abbrev ygd (xs : List QS) (i : Int) : QS := rdE y0G xs i
abbrev y5l : List Ty := [.bool]
abbrev ydE : Type := Bool
abbrev yge : ydE := Q7 y5l
abbrev ygf (xs : List ydE) (i : Int) : ydE := rdE y5l xs i
abbrev Qz0 : Type := List ye × List ye × Int
abbrev qz0 : List Ty := [(.sl 3 yh), (.sl 3 yh), (.int .i64)]
abbrev Qz1 : Type := List ye × List ye
abbrev qz1 : List Ty := [(.sl 3 yh), (.sl 3 yh)]
abbrev Qz2 : Type := List y9 × List y9 × Int
abbrev qz2 : List Ty := [(.sl 64 yi), (.sl 64 yi), (.int .i64)]
abbrev Qz3 : Type := List y9 × List y9
abbrev qz3 : List Ty := [(.sl 64 yi), (.sl 64 yi)]
abbrev Qz4 : Type := Int × List y7 × List y7
abbrev qz4 : List Ty := [(.int .i64), (.sl 58 yn), (.sl 58 yn)]
abbrev Qz5 : Type := List y7 × List y7
abbrev qz5 : List Ty := [(.sl 58 yn), (.sl 58 yn)]
abbrev Qz6 : Type := Int × List ye × List y0 × List ye × List y0
abbrev qz6 : List Ty := [(.int .i64), (.sl 3 yh), (.sl 140 yj), (.sl 3 yh), (.sl 140 yj)]
abbrev Qz7 : Type := List ye × List y0 × List ye × List y0
abbrev qz7 : List Ty := [(.sl 3 yh), (.sl 140 yj), (.sl 3 yh), (.sl 140 yj)]
abbrev Qz8 : Type := List ya × List ya × Int
abbrev qz8 : List Ty := [(.sl 146 ym), (.sl 146 ym), (.int .i64)]
abbrev Qz9 : Type := List ya × List ya
abbrev qz9 : List Ty := [(.sl 146 ym), (.sl 146 ym)]
abbrev yEL : Type := List y8 × List y8 × Int
abbrev yEM : List Ty := [(.sl 113 yd), (.sl 113 yd), (.int .i64)]
abbrev yEN : Type := List y8 × List y8
abbrev yEO : List Ty := [(.sl 113 yd), (.sl 113 yd)]
abbrev yEP : Type := Int × List ye × List y0 × List ya × List y8 × List yf × Int × List ye × List y0 × List ya × List y8 × List yf × Int
abbrev yEQ : List Ty := [(.int .i64), (.sl 3 yh), (.sl 140 yj), (.sl 146 ym), (.sl 113 yd), (.sl 46 yt), (.int .i64), (.sl 3 yh), (.sl 140 yj), (.sl 146 ym), (.sl 113 yd), (.sl 46 yt), (.int .i64)]
abbrev yzl : Type := List ye × List y0 × List ya × List y8 × List yf × Int × List ye × List y0 × List ya × List y8 × List yf × Int
abbrev yzm : List Ty := [(.sl 3 yh), (.sl 140 yj), (.sl 146 ym), (.sl 113 yd), (.sl 46 yt), (.int .i64), (.sl 3 yh), (.sl 140 yj), (.sl 146 ym), (.sl 113 yd), (.sl 46 yt), (.int .i64)]
abbrev yzn : Type := Int × Int × Int
abbrev yzo : List Ty := [(.int .i64), (.int .i64), (.int .i64)]
abbrev yyw : Type := Int × Int × Int × Int × Int × Int × Int × Int × Int × Int
abbrev yyx : List Ty := [(.int .i64), (.int .i64), (.int .i64), (.int .i64), (.int .i64), (.int .i64), (.int .i64), (.int .i64), (.int .i64), (.int .i64)]
abbrev yER : Type := Bool × List y9 × Int × Int × Int × Int × Int × Int × Int × List y9
abbrev yES : List Ty := [.bool, (.sl 64 yi), (.int .i64), (.int .i64), (.int .i64), (.int .i64), (.int .i64), (.int .i64), (.int .i64), (.sl 64 yi)]
abbrev yET : Type := Bool × Int × Int × Int × Int × Int × List y9
abbrev yEU : Type := List y9 × Int × Int × Int × Int × Int
abbrev yEV : List Ty := [(.sl 64 yi), (.int .i64), (.int .i64), (.int .i64), (.int .i64), (.int .i64)]
abbrev yyy : Type := List y9 × Int × Int × List y9
abbrev yyz : List Ty := [(.sl 64 yi), (.int .i64), (.int .i64), (.sl 64 yi)]
abbrev yEW : Type := List y7 × Int × Int × List y9
abbrev yEX : List Ty := [(.sl 58 yn), (.int .i64), (.int .i64), (.sl 64 yi)]
abbrev yla : Type := Int × Int × Int × Int × Int
abbrev QE : List Ty := [(.int .i64), (.int .i64), (.int .i64), (.int .i64), (.int .i64)]
abbrev yyA : Type := List y9 × List y9 × Int × Int
abbrev yyB : List Ty := [(.sl 64 yi), (.sl 64 yi), (.int .i64), (.int .i64)]
abbrev yEY : Type := List y9 × Bool
abbrev yEZ : Type := Int × List y7 × Int × Int × List y7
abbrev yF0 : List Ty := [(.int .i64), (.sl 58 yn), (.int .i64), (.int .i64), (.sl 58 yn)]
abbrev yH4 : Type := Bool × Int × List y7
abbrev ylb : Type := Int × List y7
abbrev yyC : List Ty := [(.int .i64), (.sl 58 yn)]
abbrev yq6 : Type := Int × Int
abbrev yqz : List Ty := [(.int .i64), (.int .i64)]
abbrev yF1 : Type := Int × List y7 × Int × Int × List y9 × Int × Int × List ye × List y0
abbrev yF2 : List Ty := [(.int .i64), (.sl 58 yn), (.int .i64), (.int .i64), (.sl 64 yi), (.int .i64), (.int .i64), (.sl 3 yh), (.sl 140 yj)]
abbrev yH5 : Type := Int × Bool × List y7 × Int × Int × List ye × List y0
abbrev yzp : Type := Int × List y7 × Int × Int × List ye × List y0
abbrev yF3 : List Ty := [(.int .i64), (.sl 58 yn), (.int .i64), (.int .i64), (.sl 3 yh), (.sl 140 yj)]
abbrev yyD : Type := List ye × List y0 × Int
abbrev yyE : List Ty := [(.sl 3 yh), (.sl 140 yj), (.int .i64)]
abbrev yF4 : Type := Int × List y0 × Int × Int × List ye × List y0
abbrev yF5 : List Ty := [(.int .i64), (.sl 140 yj), (.int .i64), (.int .i64), (.sl 3 yh), (.sl 140 yj)]
abbrev yF6 : Type := Bool × Int
abbrev yH6 : List Ty := [.bool, (.int .i64)]
abbrev ycq : Type := List ye × List y0
abbrev Qe : List Ty := [(.sl 3 yh), (.sl 140 yj)]
abbrev yF7 : Type := List ya × Int × Int × Int
abbrev yF8 : List Ty := [(.sl 146 ym), (.int .i64), (.int .i64), (.int .i64)]
abbrev yiV : Type := List ya × Int
abbrev yiW : List Ty := [(.sl 146 ym), (.int .i64)]
abbrev yyF : Type := List ya × List ya × Int × Int
abbrev yyG : List Ty := [(.sl 146 ym), (.sl 146 ym), (.int .i64), (.int .i64)]
abbrev yyH : Type := List ya × Bool
abbrev yF9 : List Ty := [(.sl 146 ym), .bool]
abbrev yyI : Type := List y8 × List y8 × Int × Int
abbrev yyJ : List Ty := [(.sl 113 yd), (.sl 113 yd), (.int .i64), (.int .i64)]
abbrev yFa : Type := List y8 × Bool
abbrev yyK : Type := ByteArray × Int
abbrev yyL : List Ty := [.str, (.int .i64)]
abbrev yFb : Type := ByteArray × Bool
abbrev yFc : Type := Int × List ya × Int × Int × List ye
abbrev yFd : List Ty := [(.int .i64), (.sl 146 ym), (.int .i64), (.int .i64), (.sl 3 yh)]
abbrev yH7 : Type := ByteArray × Int × Int × Bool × ByteArray × Int × Int × Bool
abbrev yH8 : List Ty := [.str, (.int .i64), (.int .i64), .bool, .str, (.int .i64), (.int .i64), .bool]
abbrev yFe : Type := Bool × ByteArray × Int × Int × Bool
abbrev yFf : List Ty := [.bool, .str, (.int .i64), (.int .i64), .bool]
abbrev yFg : Type := List yf × Int × Int × ByteArray × Int × Int × Bool
abbrev yFh : List Ty := [(.sl 46 yt), (.int .i64), (.int .i64), .str, (.int .i64), (.int .i64), .bool]
abbrev yFi : Type := Int × ByteArray × Int × Int × Bool
abbrev yH9 : List Ty := [(.int .i64), .str, (.int .i64), (.int .i64), .bool]
abbrev yHa : Type := ByteArray × Int × Int × Bool
abbrev yq7 : List Ty := [.str, (.int .i64), (.int .i64), .bool]
abbrev yzq : Type := List yf × ByteArray × Int × Int × Bool
abbrev yzr : List Ty := [(.sl 46 yt), .str, (.int .i64), (.int .i64), .bool]
abbrev yFj : Type := List yf × Int × Int × List ye × List y0 × List ya × List y8 × List yf × Int
abbrev yFk : List Ty := [(.sl 46 yt), (.int .i64), (.int .i64), (.sl 3 yh), (.sl 140 yj), (.sl 146 ym), (.sl 113 yd), (.sl 46 yt), (.int .i64)]
abbrev yn2 : Type := Bool × List ye × List y0 × List ya × List y8 × List yf × Int
abbrev yzs : List Ty := [.bool, (.sl 3 yh), (.sl 140 yj), (.sl 146 ym), (.sl 113 yd), (.sl 46 yt), (.int .i64)]
abbrev y6q : Type := List ye × List y0 × List ya × List y8 × List yf × Int
abbrev jI : List Ty := [(.sl 3 yh), (.sl 140 yj), (.sl 146 ym), (.sl 113 yd), (.sl 46 yt), (.int .i64)]
abbrev yFl : Type := Int × List y8 × Int × Int
abbrev yFm : List Ty := [(.int .i64), (.sl 113 yd), (.int .i64), (.int .i64)]
abbrev yFn : Type := List y0 × Int × Int × List y9
abbrev yFo : List Ty := [(.sl 140 yj), (.int .i64), (.int .i64), (.sl 64 yi)]
abbrev yyM : Type := List y8 × Int × Int
abbrev yyN : List Ty := [(.sl 113 yd), (.int .i64), (.int .i64)]
abbrev yFp : Type := Int × Bool
abbrev yFq : List Ty := [(.int .i64), .bool]
abbrev yFr : Type := Int × Int × Int × List ye × List y0 × List ya × List y8 × List yf × Int × List ydE × List y9
abbrev yFs : List Ty := [(.int .i64), (.int .i64), (.int .i64), (.sl 3 yh), (.sl 140 yj), (.sl 146 ym), (.sl 113 yd), (.sl 46 yt), (.int .i64), (.sl 4 y5l), (.sl 64 yi)]
abbrev yzt : Type := Bool × Int × List ye × List y0 × List ya × List y8 × List yf × Int
abbrev yie : Type := Int × List ye × List y0 × List ya × List y8 × List yf × Int
abbrev yq8 : List Ty := [(.int .i64), (.sl 3 yh), (.sl 140 yj), (.sl 146 ym), (.sl 113 yd), (.sl 46 yt), (.int .i64)]
abbrev yFt : Type := List ya × Int × Int × List ye × List y0 × List ya × List y8 × List yf × Int
abbrev yFu : List Ty := [(.sl 146 ym), (.int .i64), (.int .i64), (.sl 3 yh), (.sl 140 yj), (.sl 146 ym), (.sl 113 yd), (.sl 46 yt), (.int .i64)]
abbrev yqA : Type := Int × List ye × List y0 × List ye
abbrev yFv : List Ty := [(.int .i64), (.sl 3 yh), (.sl 140 yj), (.sl 3 yh)]
abbrev yFw : Type := ByteArray × Int × List ye × List y0 × List ya × List y8 × List yf × Int
abbrev yFx : List Ty := [.str, (.int .i64), (.sl 3 yh), (.sl 140 yj), (.sl 146 ym), (.sl 113 yd), (.sl 46 yt), (.int .i64)]
abbrev yyO : Type := List ye × List y0 × List ya × List y8 × List yf × Int × ByteArray
abbrev yyP : List Ty := [(.sl 3 yh), (.sl 140 yj), (.sl 146 ym), (.sl 113 yd), (.sl 46 yt), (.int .i64), .str]
abbrev yyQ : Type := List y9 × Int × List y9
abbrev yyR : List Ty := [(.sl 64 yi), (.int .i64), (.sl 64 yi)]
abbrev yFy : Type := List y9 × Bool × Int × Int × Int × Int × Int × Int × List y9
abbrev yFz : List Ty := [(.sl 64 yi), .bool, (.int .i64), (.int .i64), (.int .i64), (.int .i64), (.int .i64), (.int .i64), (.sl 64 yi)]
abbrev yFA : Type := Int × List y7 × List y9
abbrev yFB : List Ty := [(.int .i64), (.sl 58 yn), (.sl 64 yi)]
abbrev yFC : Type := Int × List ye × List y0 × List y9
abbrev yFD : List Ty := [(.int .i64), (.sl 3 yh), (.sl 140 yj), (.sl 64 yi)]
abbrev yyS : Type := List y9 × Int
abbrev yyT : List Ty := [(.sl 64 yi), (.int .i64)]
abbrev yFE : Type := Int × Int × List y7
abbrev yFF : List Ty := [(.int .i64), (.int .i64), (.sl 58 yn)]
abbrev yHb : Type := Bool × List y7
abbrev yFG : Type := Int × Int × Int × List ye × List y0 × List y7
abbrev yFH : List Ty := [(.int .i64), (.int .i64), (.int .i64), (.sl 3 yh), (.sl 140 yj), (.sl 58 yn)]
abbrev yHc : Type := Int × Bool × Int × List ye × List y0 × List y7
abbrev yzu : Type := Int × Int × List ye × List y0 × List y7
abbrev yFI : List Ty := [(.int .i64), (.int .i64), (.sl 3 yh), (.sl 140 yj), (.sl 58 yn)]
abbrev yq9 : Type := Int × List ye × List y0
abbrev yqa : List Ty := [(.int .i64), (.sl 3 yh), (.sl 140 yj)]
abbrev yHd : Type := Bool × List ye × List y0
abbrev yzv : Type := List ya × Int × Int
abbrev yzw : List Ty := [(.sl 146 ym), (.int .i64), (.int .i64)]
abbrev yyU : Type := List y8 × Int
abbrev yyV : List Ty := [(.sl 113 yd), (.int .i64)]
abbrev yFJ : Type := List ya × Int × Int × List ye
abbrev yFK : List Ty := [(.sl 146 ym), (.int .i64), (.int .i64), (.sl 3 yh)]
abbrev yFL : Type := Int × Int × List ye × List y0 × List ya × List y8 × List yf × Int × ByteArray × Int × Int × Bool
abbrev yFM : List Ty := [(.int .i64), (.int .i64), (.sl 3 yh), (.sl 140 yj), (.sl 146 ym), (.sl 113 yd), (.sl 46 yt), (.int .i64), .str, (.int .i64), (.int .i64), .bool]
abbrev yzx : Type := Int × Int × Int × List ye × List y0 × List ya × List y8 × List yf × Int × List y9
abbrev yFN : List Ty := [(.int .i64), (.int .i64), (.int .i64), (.sl 3 yh), (.sl 140 yj), (.sl 146 ym), (.sl 113 yd), (.sl 46 yt), (.int .i64), (.sl 64 yi)]
abbrev yHe : Type := Bool × Int × Int × List ye × List y0 × List ya × List y8 × List yf × Int × List y9
abbrev yn3 : Type := Int × Int × List ye × List y0 × List ya × List y8 × List yf × Int × List y9
abbrev yqb : List Ty := [(.int .i64), (.int .i64), (.sl 3 yh), (.sl 140 yj), (.sl 146 ym), (.sl 113 yd), (.sl 46 yt), (.int .i64), (.sl 64 yi)]
abbrev yHf : Type := List ye × List y0 × List ya × List y8 × List yf × Int × List ye × List y0 × List ya × List y8 × List yf × Int × Bool
abbrev yHg : List Ty := [(.sl 3 yh), (.sl 140 yj), (.sl 146 ym), (.sl 113 yd), (.sl 46 yt), (.int .i64), (.sl 3 yh), (.sl 140 yj), (.sl 146 ym), (.sl 113 yd), (.sl 46 yt), (.int .i64), .bool]
abbrev ydF : Type := List ye × List y0 × List ya × List y8 × List yf × Int × Int
abbrev ydG : List Ty := [(.sl 3 yh), (.sl 140 yj), (.sl 146 ym), (.sl 113 yd), (.sl 46 yt), (.int .i64), (.int .i64)]
abbrev yaQ : Type := List za × Int × Int
abbrev Qg : List Ty := [(.sl 5 yu), (.int .i64), (.int .i64)]
abbrev yiX : Type := List za × Int
abbrev ylc : List Ty := [(.sl 5 yu), (.int .i64)]
abbrev yiY : Type := Int × List za × Int × Int
abbrev yqc : List Ty := [(.int .i64), (.sl 5 yu), (.int .i64), (.int .i64)]
abbrev yld : Type := List za × Int × Int × Int
abbrev yle : List Ty := [(.sl 5 yu), (.int .i64), (.int .i64), (.int .i64)]
abbrev yHh : Type := List za × Int × Int × List ye
abbrev yHi : List Ty := [(.sl 5 yu), (.int .i64), (.int .i64), (.sl 3 yh)]
abbrev yHj : Type := List za × Int × Int × List QS
abbrev yHk : List Ty := [(.sl 5 yu), (.int .i64), (.int .i64), (.sl 9 y0G)]
abbrev yFO : Type := ByteArray × List za × Int × Int
abbrev yFP : List Ty := [.str, (.sl 5 yu), (.int .i64), (.int .i64)]
abbrev yHl : Type := Int × ByteArray × ByteArray × Int × Int × List za × Int × Int
abbrev yHm : List Ty := [(.int .i64), .str, .str, (.int .i64), (.int .i64), (.sl 5 yu), (.int .i64), (.int .i64)]
abbrev yFQ : Type := List ya × Int × Int × Bool × Int × List ya
abbrev yFR : List Ty := [(.sl 146 ym), (.int .i64), (.int .i64), .bool, (.int .i64), (.sl 146 ym)]
abbrev yHn : Type := List ya × Int × Int × Bool × List ya
abbrev yzy : Type := Int × ByteArray × Int × Int × Bool × List yf
abbrev yFS : List Ty := [(.int .i64), .str, (.int .i64), (.int .i64), .bool, (.sl 46 yt)]
abbrev yyW : Type := List ye × List y0 × List ya × List y8 × List yf × Int × ByteArray × Int
abbrev yyX : List Ty := [(.sl 3 yh), (.sl 140 yj), (.sl 146 ym), (.sl 113 yd), (.sl 46 yt), (.int .i64), .str, (.int .i64)]
abbrev yHo : Type := List ye × List y0 × List ya × List y8 × List yf × Int × ByteArray × ByteArray × Bool
abbrev yHp : List Ty := [(.sl 3 yh), (.sl 140 yj), (.sl 146 ym), (.sl 113 yd), (.sl 46 yt), (.int .i64), .str, .str, .bool]
abbrev yFT : Type := List y8 × Int × Int × List y8
abbrev yFU : List Ty := [(.sl 113 yd), (.int .i64), (.int .i64), (.sl 113 yd)]
abbrev yHq : Type := Int × Bool × List y8
abbrev yzz : Type := List y8 × Int × Bool
abbrev yzA : List Ty := [(.sl 113 yd), (.int .i64), .bool]
abbrev yqB : Type := Int × Int × Int × Int × List ye × List y0
abbrev yqC : List Ty := [(.int .i64), (.int .i64), (.int .i64), (.int .i64), (.sl 3 yh), (.sl 140 yj)]
abbrev yqD : Type := List ye × List y0 × Int × Int
abbrev yqE : List Ty := [(.sl 3 yh), (.sl 140 yj), (.int .i64), (.int .i64)]
abbrev yqF : Type := List y9 × Int × Int × Int × Int × Int × Int × Int × Int
abbrev yqG : List Ty := [(.sl 64 yi), (.int .i64), (.int .i64), (.int .i64), (.int .i64), (.int .i64), (.int .i64), (.int .i64), (.int .i64)]
abbrev yqH : Type := Bool × Int × Int × Int × Int × Int
abbrev yzB : Type := List y9 × Int × Int
abbrev yzC : List Ty := [(.sl 64 yi), (.int .i64), (.int .i64)]
abbrev yf1 : Type := Int × Int × Int × Int × Int × Bool
abbrev yf2 : List Ty := [(.int .i64), (.int .i64), (.int .i64), (.int .i64), (.int .i64), .bool]
abbrev yzD : Type := List y7 × Int × Int × Int × Int × Int
abbrev yzE : List Ty := [(.sl 58 yn), (.int .i64), (.int .i64), (.int .i64), (.int .i64), (.int .i64)]
abbrev yzF : Type := List y7 × Bool
abbrev yzG : List Ty := [(.sl 58 yn), .bool]
abbrev yzH : Type := List ye × List y0 × Int × List ye × List y0
abbrev yzI : List Ty := [(.sl 3 yh), (.sl 140 yj), (.int .i64), (.sl 3 yh), (.sl 140 yj)]
abbrev yzJ : Type := List ye × List y0 × Int × Int × Int × Int × Int
abbrev yzK : List Ty := [(.sl 3 yh), (.sl 140 yj), (.int .i64), (.int .i64), (.int .i64), (.int .i64), (.int .i64)]
abbrev yzL : Type := List ye × List y0 × Bool
abbrev yzM : List Ty := [(.sl 3 yh), (.sl 140 yj), .bool]
abbrev yqI : Type := Int × Int × Int × List y7 × Int × Int × Int × Int × Int
abbrev yqJ : List Ty := [(.int .i64), (.int .i64), (.int .i64), (.sl 58 yn), (.int .i64), (.int .i64), (.int .i64), (.int .i64), (.int .i64)]
abbrev yzN : Type := List y7 × Int × Int
abbrev yzO : List Ty := [(.sl 58 yn), (.int .i64), (.int .i64)]
abbrev yzP : Type := List ye × List y0 × List ya × List y8 × List yf × Int × Int × Int × Int × Int × Int × Bool
abbrev yzQ : List Ty := [(.sl 3 yh), (.sl 140 yj), (.sl 146 ym), (.sl 113 yd), (.sl 46 yt), (.int .i64), (.int .i64), (.int .i64), (.int .i64), (.int .i64), (.int .i64), .bool]
abbrev yiZ : Type := List ye × List y0 × List ya × List y8 × List yf × Int × Int × Int × Int × Int × Int
abbrev yj0 : List Ty := [(.sl 3 yh), (.sl 140 yj), (.sl 146 ym), (.sl 113 yd), (.sl 46 yt), (.int .i64), (.int .i64), (.int .i64), (.int .i64), (.int .i64), (.int .i64)]
abbrev yzR : Type := List ye × List y0 × List ya × List y8 × List yf × Int × ByteArray × Int × Int
abbrev yzS : List Ty := [(.sl 3 yh), (.sl 140 yj), (.sl 146 ym), (.sl 113 yd), (.sl 46 yt), (.int .i64), .str, (.int .i64), (.int .i64)]
abbrev yqK : Type := List ya × Int × List ye
abbrev yqL : List Ty := [(.sl 146 ym), (.int .i64), (.sl 3 yh)]
abbrev yqM : Type := Int × Int × List y9 × List y9
abbrev yqN : List Ty := [(.int .i64), (.int .i64), (.sl 64 yi), (.sl 64 yi)]
abbrev yqO : Type := List ye × Int × Int
abbrev yqP : List Ty := [(.sl 3 yh), (.int .i64), (.int .i64)]
abbrev yzT : Type := List ye × Int
abbrev yzU : List Ty := [(.sl 3 yh), (.int .i64)]
abbrev yqQ : Type := List ye × Bool × Int × Int × Int × Int × Int × Int × Int × Int × Int × Int × Int × List y9
abbrev yqR : List Ty := [(.sl 3 yh), .bool, (.int .i64), (.int .i64), (.int .i64), (.int .i64), (.int .i64), (.int .i64), (.int .i64), (.int .i64), (.int .i64), (.int .i64), (.int .i64), (.sl 64 yi)]
abbrev yzV : Type := Bool × Int × Int × Int × Int × Int × Int × Int × Int × Int × Int
abbrev yzW : Type := List ye × List y0 × Int × List ye
abbrev yzX : List Ty := [(.sl 3 yh), (.sl 140 yj), (.int .i64), (.sl 3 yh)]
abbrev yqS : Type := List ye × List y0 × List ya × Int × Int
abbrev yqT : List Ty := [(.sl 3 yh), (.sl 140 yj), (.sl 146 ym), (.int .i64), (.int .i64)]
abbrev yzY : Type := List ye × List y0 × List ya × List y8 × List yf × Int × Int × Int
abbrev yzZ : List Ty := [(.sl 3 yh), (.sl 140 yj), (.sl 146 ym), (.sl 113 yd), (.sl 46 yt), (.int .i64), (.int .i64), (.int .i64)]
abbrev ygg : Type := Int × Int × Bool × Int × List ye × List y0 × List ya × List y8 × List yf × Int × Int × Int × List ye × List y0 × List ya × List y8 × List yf
abbrev yqU : List Ty := [(.int .i64), (.int .i64), .bool, (.int .i64), (.sl 3 yh), (.sl 140 yj), (.sl 146 ym), (.sl 113 yd), (.sl 46 yt), (.int .i64), (.int .i64), (.int .i64), (.sl 3 yh), (.sl 140 yj), (.sl 146 ym), (.sl 113 yd), (.sl 46 yt)]
abbrev ygh : Type := Int × Int × Bool × Int × List ye × List y0 × List ya × List y8 × List yf × Int × Int × List ye × List y0 × List ya × Int × List y8 × List yf
abbrev yqV : List Ty := [(.int .i64), (.int .i64), .bool, (.int .i64), (.sl 3 yh), (.sl 140 yj), (.sl 146 ym), (.sl 113 yd), (.sl 46 yt), (.int .i64), (.int .i64), (.sl 3 yh), (.sl 140 yj), (.sl 146 ym), (.int .i64), (.sl 113 yd), (.sl 46 yt)]
abbrev yA0 : Type := Int × Int × Bool × List ye × List y0 × List ya × List y8 × List yf × Int × Int × Int × List ye × List y0 × List ya × List y8 × List yf
abbrev yA1 : Type := Int × Int × Bool × List ye × List y0 × List ya × List y8 × List yf × Int × Int × List ye × List y0 × List ya × Int × List y8 × List yf
abbrev yqW : Type := Int × ByteArray × ByteArray × Int × Int
abbrev ycr : List Ty := [(.int .i64), .str, .str, (.int .i64), (.int .i64)]
abbrev yf3 : Type := List ye × List y0 × List ya × List y8 × List yf × Int × Bool
abbrev yf4 : List Ty := [(.sl 3 yh), (.sl 140 yj), (.sl 146 ym), (.sl 113 yd), (.sl 46 yt), (.int .i64), .bool]
abbrev yqX : Type := Int × Int × Int × Int × Int × Int × Int × List y9
abbrev yqY : List Ty := [(.int .i64), (.int .i64), (.int .i64), (.int .i64), (.int .i64), (.int .i64), (.int .i64), (.sl 64 yi)]
abbrev yA2 : Type := List ye × List y0 × List ya × Int × Int × Int × Int × Int × Int
abbrev yA3 : List Ty := [(.sl 3 yh), (.sl 140 yj), (.sl 146 ym), (.int .i64), (.int .i64), (.int .i64), (.int .i64), (.int .i64), (.int .i64)]
abbrev yqZ : Type := Int × List ye × List y0 × List ya × List y8 × List yf × Int × Int × Int × Int × Int × Int
abbrev yr0 : List Ty := [(.int .i64), (.sl 3 yh), (.sl 140 yj), (.sl 146 ym), (.sl 113 yd), (.sl 46 yt), (.int .i64), (.int .i64), (.int .i64), (.int .i64), (.int .i64), (.int .i64)]
abbrev yn4 : Type := Int × Int × List ye × List y0 × List ya × List y8 × List yf × Int
abbrev yr1 : List Ty := [(.int .i64), (.int .i64), (.sl 3 yh), (.sl 140 yj), (.sl 146 ym), (.sl 113 yd), (.sl 46 yt), (.int .i64)]
abbrev yA4 : Type := List ye × List y0 × List ya × List y8 × List yf × Int × Int × Int × Int × Int × Int × Int
abbrev yA5 : List Ty := [(.sl 3 yh), (.sl 140 yj), (.sl 146 ym), (.sl 113 yd), (.sl 46 yt), (.int .i64), (.int .i64), (.int .i64), (.int .i64), (.int .i64), (.int .i64), (.int .i64)]
abbrev yA6 : Type := Int × Bool × List ye × List y0 × List ya × List y8 × List yf × Int
abbrev yn5 : Type := Int × List ye × List y0 × List ya × List y8 × List yf × Int × List y9
abbrev yr2 : List Ty := [(.int .i64), (.sl 3 yh), (.sl 140 yj), (.sl 146 ym), (.sl 113 yd), (.sl 46 yt), (.int .i64), (.sl 64 yi)]
abbrev yr3 : Type := List ya × Int × Int × Int × List ya
abbrev yr4 : List Ty := [(.sl 146 ym), (.int .i64), (.int .i64), (.int .i64), (.sl 146 ym)]
abbrev yr5 : Type := List ye × List y0 × List ya × List y8 × List yf × Int × Int × ByteArray × ByteArray × Int × Int
abbrev yr6 : List Ty := [(.sl 3 yh), (.sl 140 yj), (.sl 146 ym), (.sl 113 yd), (.sl 46 yt), (.int .i64), (.int .i64), .str, .str, (.int .i64), (.int .i64)]
abbrev ygi : Type := Int × List za × Int × Int × Int × Int × List ye × List y0 × List ya × List y8 × List yf
abbrev yr7 : List Ty := [(.int .i64), (.sl 5 yu), (.int .i64), (.int .i64), (.int .i64), (.int .i64), (.sl 3 yh), (.sl 140 yj), (.sl 146 ym), (.sl 113 yd), (.sl 46 yt)]
abbrev ygj : Type := Int × List za × Int × Int × Int × List ye × List y0 × List ya × Int × List y8 × List yf
abbrev yr8 : List Ty := [(.int .i64), (.sl 5 yu), (.int .i64), (.int .i64), (.int .i64), (.sl 3 yh), (.sl 140 yj), (.sl 146 ym), (.int .i64), (.sl 113 yd), (.sl 46 yt)]
abbrev yA7 : Type := List za × Int × Int × Int × Int × List ye × List y0 × List ya × List y8 × List yf
abbrev yA8 : Type := List za × Int × Int × Int × List ye × List y0 × List ya × Int × List y8 × List yf
abbrev yr9 : Type := List ye × List y0 × List ya × List y8 × List yf × Int × List za × Int × Int
abbrev yra : List Ty := [(.sl 3 yh), (.sl 140 yj), (.sl 146 ym), (.sl 113 yd), (.sl 46 yt), (.int .i64), (.sl 5 yu), (.int .i64), (.int .i64)]
abbrev yn6 : Type := Int × Int × Int × Int × Int × List za × Int × Int
abbrev yn7 : List Ty := [(.int .i64), (.int .i64), (.int .i64), (.int .i64), (.int .i64), (.sl 5 yu), (.int .i64), (.int .i64)]
abbrev yrb : Type := Int × List za × Int × Int × List ye × List y0
abbrev yrc : List Ty := [(.int .i64), (.sl 5 yu), (.int .i64), (.int .i64), (.sl 3 yh), (.sl 140 yj)]
abbrev yA9 : Type := List za × Int × Int × List ye × List y0
abbrev yrd : Type := List ye × List y0 × List za × Int × Int
abbrev yre : List Ty := [(.sl 3 yh), (.sl 140 yj), (.sl 5 yu), (.int .i64), (.int .i64)]
abbrev ygk : Type := Int × List za × Int × Int × List y7
abbrev yrf : List Ty := [(.int .i64), (.sl 5 yu), (.int .i64), (.int .i64), (.sl 58 yn)]
abbrev yAa : Type := List za × Int × Int × List y7
abbrev yrg : Type := List y7 × List za × Int × Int
abbrev yrh : List Ty := [(.sl 58 yn), (.sl 5 yu), (.int .i64), (.int .i64)]
abbrev yri : Type := Int × List za × Int × Int × List y9
abbrev yrj : List Ty := [(.int .i64), (.sl 5 yu), (.int .i64), (.int .i64), (.sl 64 yi)]
abbrev yAb : Type := List za × Int × Int × List y9
abbrev yrk : Type := List y9 × List za × Int × Int
abbrev yrl : List Ty := [(.sl 64 yi), (.sl 5 yu), (.int .i64), (.int .i64)]
abbrev yAc : Type := Bool × List za × Int × Int
abbrev yAd : List Ty := [.bool, (.sl 5 yu), (.int .i64), (.int .i64)]
abbrev yj1 : Type := Int × List za × Int × Int × List ya
abbrev yj2 : List Ty := [(.int .i64), (.sl 5 yu), (.int .i64), (.int .i64), (.sl 146 ym)]
abbrev yrm : Type := List za × Int × Int × List ya
abbrev yrn : Type := List ya × List za × Int × Int
abbrev yro : List Ty := [(.sl 146 ym), (.sl 5 yu), (.int .i64), (.int .i64)]
abbrev yrp : Type := Int × List za × Int × Int × List y8
abbrev yrq : List Ty := [(.int .i64), (.sl 5 yu), (.int .i64), (.int .i64), (.sl 113 yd)]
abbrev yAe : Type := List za × Int × Int × List y8
abbrev yrr : Type := List y8 × List za × Int × Int
abbrev yrs : List Ty := [(.sl 113 yd), (.sl 5 yu), (.int .i64), (.int .i64)]
abbrev ygl : Type := Int × Int × List za × Int × Int × List ye × List y0 × List ya × List y8 × Int × List yf
abbrev yrt : List Ty := [(.int .i64), (.int .i64), (.sl 5 yu), (.int .i64), (.int .i64), (.sl 3 yh), (.sl 140 yj), (.sl 146 ym), (.sl 113 yd), (.int .i64), (.sl 46 yt)]
abbrev ygm : Type := Int × Int × List za × Int × Int × List ye × List y0 × List ya × Int × List y8 × List yf
abbrev yru : List Ty := [(.int .i64), (.int .i64), (.sl 5 yu), (.int .i64), (.int .i64), (.sl 3 yh), (.sl 140 yj), (.sl 146 ym), (.int .i64), (.sl 113 yd), (.sl 46 yt)]
abbrev yAf : Type := Int × List ye × List y0 × List ya × List y8 × Int × List yf
abbrev yAg : Type := Int × List ye × List y0 × List ya × Int × List y8 × List yf
abbrev yrv : Type := List y2y × Int × Int × List za
abbrev yrw : List Ty := [(.sl 22 y3j), (.int .i64), (.int .i64), (.sl 5 yu)]
abbrev yrx : Type := List za × ByteArray
abbrev yry : List Ty := [(.sl 5 yu), .str]
abbrev yrz : Type := List za × Int × Int × Int × Int × Int
abbrev yrA : List Ty := [(.sl 5 yu), (.int .i64), (.int .i64), (.int .i64), (.int .i64), (.int .i64)]
abbrev yrB : Type := List ya × Int × Int × List ye × List y0 × List ya × List y8 × List yf × Int × List za
abbrev yrC : List Ty := [(.sl 146 ym), (.int .i64), (.int .i64), (.sl 3 yh), (.sl 140 yj), (.sl 146 ym), (.sl 113 yd), (.sl 46 yt), (.int .i64), (.sl 5 yu)]
abbrev yf5 : Type := List ye × List y0 × List ya × List y8 × List yf × Int × List za
abbrev yrD : Type := List yf × Int × Int × List ye × List y0 × List ya × List y8 × List yf × Int × List za
abbrev yrE : List Ty := [(.sl 46 yt), (.int .i64), (.int .i64), (.sl 3 yh), (.sl 140 yj), (.sl 146 ym), (.sl 113 yd), (.sl 46 yt), (.int .i64), (.sl 5 yu)]
abbrev yrF : Type := List y8 × Int × Int × List ye × List y0 × List ya × List y8 × List yf × Int × List za
abbrev yrG : List Ty := [(.sl 113 yd), (.int .i64), (.int .i64), (.sl 3 yh), (.sl 140 yj), (.sl 146 ym), (.sl 113 yd), (.sl 46 yt), (.int .i64), (.sl 5 yu)]
abbrev yrH : Type := List y0 × Int × Int × List y7 × Int × Int × List y9 × Int × Int × List ye × List y0 × List ya × List y8 × List yf × Int × List za
abbrev yrI : List Ty := [(.sl 140 yj), (.int .i64), (.int .i64), (.sl 58 yn), (.int .i64), (.int .i64), (.sl 64 yi), (.int .i64), (.int .i64), (.sl 3 yh), (.sl 140 yj), (.sl 146 ym), (.sl 113 yd), (.sl 46 yt), (.int .i64), (.sl 5 yu)]
abbrev yn8 : Type := List y0 × Int × Int × List y7 × Int × Int × List ye × List y0 × List ya × List y8 × List yf × Int × List za
abbrev yrJ : List Ty := [(.sl 140 yj), (.int .i64), (.int .i64), (.sl 58 yn), (.int .i64), (.int .i64), (.sl 3 yh), (.sl 140 yj), (.sl 146 ym), (.sl 113 yd), (.sl 46 yt), (.int .i64), (.sl 5 yu)]
abbrev yn9 : Type := List y0 × Int × Int × List ye × List y0 × List ya × List y8 × List yf × Int × List za
abbrev yrK : List Ty := [(.sl 140 yj), (.int .i64), (.int .i64), (.sl 3 yh), (.sl 140 yj), (.sl 146 ym), (.sl 113 yd), (.sl 46 yt), (.int .i64), (.sl 5 yu)]
abbrev yAh : Type := List za × Int × Int × List za
abbrev yAi : List Ty := [(.sl 5 yu), (.int .i64), (.int .i64), (.sl 5 yu)]
abbrev yAj : Type := List za × List za × Int × Int
abbrev yAk : List Ty := [(.sl 5 yu), (.sl 5 yu), (.int .i64), (.int .i64)]
abbrev yrL : Type := List y9 × Int × List za
abbrev yrM : List Ty := [(.sl 64 yi), (.int .i64), (.sl 5 yu)]
abbrev yAl : Type := List za × List y9
abbrev yAm : List Ty := [(.sl 5 yu), (.sl 64 yi)]
abbrev y7Z : Type := Int × List ye × List y0 × List ya × List y8 × List yf × Int × List za
abbrev yaR : List Ty := [(.int .i64), (.sl 3 yh), (.sl 140 yj), (.sl 146 ym), (.sl 113 yd), (.sl 46 yt), (.int .i64), (.sl 5 yu)]
abbrev yrN : Type := Int × Int × List ye × List y0 × List ya × List y8 × List yf × Int × List za
abbrev yrO : List Ty := [(.int .i64), (.int .i64), (.sl 3 yh), (.sl 140 yj), (.sl 146 ym), (.sl 113 yd), (.sl 46 yt), (.int .i64), (.sl 5 yu)]
abbrev yrP : Type := Int × Int × Bool
abbrev yrQ : List Ty := [(.int .i64), (.int .i64), .bool]
abbrev y1H : Type := List za × Int × Bool
abbrev Ke : List Ty := [(.sl 5 yu), (.int .i64), .bool]
abbrev y80 : Type := Int × List za × Int × Bool
abbrev yf6 : List Ty := [(.int .i64), (.sl 5 yu), (.int .i64), .bool]
abbrev yrR : Type := ByteArray × Int × Bool
abbrev yrS : List Ty := [.str, (.int .i64), .bool]
abbrev yAn : Type := ByteArray × List za × Int × Bool
abbrev yAo : List Ty := [.str, (.sl 5 yu), (.int .i64), .bool]
abbrev yna : Type := Bool × List za × Int × Bool
abbrev ynb : List Ty := [.bool, (.sl 5 yu), (.int .i64), .bool]
abbrev yAp : Type := Int × Int × Int × Int × Int × List za × Int × Bool
abbrev yAq : List Ty := [(.int .i64), (.int .i64), (.int .i64), (.int .i64), (.int .i64), (.sl 5 yu), (.int .i64), .bool]
abbrev ygn : Type := Int × Int × Int × Int × List za × Int × Bool × List y9
abbrev yrT : List Ty := [(.int .i64), (.int .i64), (.int .i64), (.int .i64), (.sl 5 yu), (.int .i64), .bool, (.sl 64 yi)]
abbrev ygo : Type := Int × Int × Int × Int × List za × Int × Bool × List y9 × List y7
abbrev yrU : List Ty := [(.int .i64), (.int .i64), (.int .i64), (.int .i64), (.sl 5 yu), (.int .i64), .bool, (.sl 64 yi), (.sl 58 yn)]
abbrev yAr : Type := Int × Int × List za × Int × Bool × List y9
abbrev yAs : Type := Int × Int × List za × Int × Bool × List y9 × List y7
abbrev ygp : Type := Int × Int × List za × Int × Bool
abbrev yrV : List Ty := [(.int .i64), (.int .i64), (.sl 5 yu), (.int .i64), .bool]
abbrev ygq : Type := Int × Int × List za × Int × Bool × List y7
abbrev yrW : List Ty := [(.int .i64), (.int .i64), (.sl 5 yu), (.int .i64), .bool, (.sl 58 yn)]
abbrev yrX : Type := List za × Int × Bool × List y7
abbrev yrY : Type := List y7 × List za × Int × Bool
abbrev yrZ : List Ty := [(.sl 58 yn), (.sl 5 yu), (.int .i64), .bool]
abbrev y81 : Type := Int × Int × List za × Int × Bool × Int × Int × List ye × List ya × List y8 × List yf
abbrev yf7 : List Ty := [(.int .i64), (.int .i64), (.sl 5 yu), (.int .i64), .bool, (.int .i64), (.int .i64), (.sl 3 yh), (.sl 146 ym), (.sl 113 yd), (.sl 46 yt)]
abbrev yj3 : Type := List za × Int × Bool × Int × Int × List ye × List ya × List y8 × List yf
abbrev ys0 : Type := Int × List za × Int × Bool × Int × Int × List ye × List ya × List y8 × List yf
abbrev ys1 : List Ty := [(.int .i64), (.sl 5 yu), (.int .i64), .bool, (.int .i64), (.int .i64), (.sl 3 yh), (.sl 146 ym), (.sl 113 yd), (.sl 46 yt)]
abbrev ygr : Type := Int × Int × List za × Int × Bool × Int × Int × List ye × List y0 × List ya × List y8 × List yf
abbrev ys2 : List Ty := [(.int .i64), (.int .i64), (.sl 5 yu), (.int .i64), .bool, (.int .i64), (.int .i64), (.sl 3 yh), (.sl 140 yj), (.sl 146 ym), (.sl 113 yd), (.sl 46 yt)]
abbrev yAt : Type := List za × Int × Bool × Int × Int × List ye × List y0 × List ya × List y8 × List yf
abbrev yAu : Type := List ye × List y0 × List ya × List y8 × List yf × Int × List za × Int × Bool
abbrev yAv : List Ty := [(.sl 3 yh), (.sl 140 yj), (.sl 146 ym), (.sl 113 yd), (.sl 46 yt), (.int .i64), (.sl 5 yu), (.int .i64), .bool]
abbrev yAw : Type := List za × List za
abbrev yAx : List Ty := [(.sl 5 yu), (.sl 5 yu)]
abbrev yAy : Type := ByteArray × Int × Int × Bool × List za × Int × Bool
abbrev yAz : List Ty := [.str, (.int .i64), (.int .i64), .bool, (.sl 5 yu), (.int .i64), .bool]
abbrev yAA : Type := Int × Int × Int × Int × Int × Int × Bool
abbrev yAB : List Ty := [(.int .i64), (.int .i64), (.int .i64), (.int .i64), (.int .i64), (.int .i64), .bool]
abbrev ys3 : Type := Int × List za × Int × Bool × List y9
abbrev ys4 : List Ty := [(.int .i64), (.sl 5 yu), (.int .i64), .bool, (.sl 64 yi)]
abbrev ys5 : Type := List za × Int × Bool × List y9
abbrev yAC : Type := List y9 × List za × Int × Bool
abbrev yAD : List Ty := [(.sl 64 yi), (.sl 5 yu), (.int .i64), .bool]
abbrev ygs : Type := Int × List za × Int × Bool × List y7
abbrev ys6 : List Ty := [(.int .i64), (.sl 5 yu), (.int .i64), .bool, (.sl 58 yn)]
abbrev y5m : Type := List za × Int × Int × List za × Int × Bool × Int × List ye × List ya × List y8 × List yf
abbrev yaS : List Ty := [(.sl 5 yu), (.int .i64), (.int .i64), (.sl 5 yu), (.int .i64), .bool, (.int .i64), (.sl 3 yh), (.sl 146 ym), (.sl 113 yd), (.sl 46 yt)]
abbrev yj4 : Type := List za × Int × List za × Int × Bool × Int × List ye × List ya × List y8 × List yf
abbrev ygt : Type := List za × Int × Int × List za × Int × Bool × Int × List ye × List y0 × List ya × List y8 × List yf
abbrev ys7 : List Ty := [(.sl 5 yu), (.int .i64), (.int .i64), (.sl 5 yu), (.int .i64), .bool, (.int .i64), (.sl 3 yh), (.sl 140 yj), (.sl 146 ym), (.sl 113 yd), (.sl 46 yt)]
abbrev yAE : Type := List za × Int × List za × Int × Bool × Int × List ye × List y0 × List ya × List y8 × List yf
abbrev ys8 : Type := List ye × List ye × Int × Int
abbrev ys9 : List Ty := [(.sl 3 yh), (.sl 3 yh), (.int .i64), (.int .i64)]
abbrev ysa : Type := List y7 × List y7 × Int × Int
abbrev ysb : List Ty := [(.sl 58 yn), (.sl 58 yn), (.int .i64), (.int .i64)]
abbrev ysc : Type := List yf × List yf × Int × Int
abbrev ysd : List Ty := [(.sl 46 yt), (.sl 46 yt), (.int .i64), (.int .i64)]
abbrev yAF : Type := List yf × List yf
abbrev yAG : List Ty := [(.sl 46 yt), (.sl 46 yt)]
abbrev yse : Type := List y0 × List y0 × Int × Int
abbrev ysf : List Ty := [(.sl 140 yj), (.sl 140 yj), (.int .i64), (.int .i64)]
abbrev yAH : Type := List y0 × List y0
abbrev yAI : List Ty := [(.sl 140 yj), (.sl 140 yj)]
def ysg : List (Nat × TI) := [
 (3, .c (.int .i64) 8),
 (4, .c (.bool) 1),
 (5, .c (.int .u8) 1),
 (9, .c (.str) 16),
 (22, .c (.sl 5 yu) 24),
 (24, .c (.sl 3 yh) 24),
 (25, .c (.sl 140 yj) 24),
 (27, .s [(0, 24), (1, 25)] [(.sl 3 yh), (.sl 140 yj)] 48),
 (28, .c (.sl 146 ym) 24),
 (29, .c (.sl 113 yd) 24),
 (30, .c (.sl 46 yt) 24),
 (32, .s [(0, 27), (2, 28), (3, 29), (4, 30), (5, 3)] [(.sl 3 yh), (.sl 140 yj), (.sl 146 ym), (.sl 113 yd), (.sl 46 yt), (.int .i64)] 128),
 (41, .s [(0, 3), (1, 9), (2, 9), (3, 3), (4, 3)] [(.int .i64), .str, .str, (.int .i64), (.int .i64)] 56),
 (46, .s [(0, 9), (1, 3), (2, 3), (3, 4)] [.str, (.int .i64), (.int .i64), .bool] 40),
 (58, .c (.sl 64 yi) 24),
 (64, .s [(0, 3), (1, 3), (2, 3), (3, 3), (4, 3)] [(.int .i64), (.int .i64), (.int .i64), (.int .i64), (.int .i64)] 40),
 (84, .c (.sl 22 y3j) 24),
 (113, .s [(0, 3), (1, 4), (2, 3)] [(.int .i64), .bool, (.int .i64)] 24),
 (138, .c (.sl 58 yn) 24),
 (140, .s [(0, 138)] [(.sl 58 yn)] 24),
 (146, .s [(0, 3), (1, 3)] [(.int .i64), (.int .i64)] 16),
 (168, .s [(0, 22), (1, 3), (2, 4)] [(.sl 5 yu), (.int .i64), .bool] 40),
 (174, .s [(0, 22), (1, 3), (2, 4)] [(.sl 5 yu), (.int .i64), .bool] 40),
 (218, .s [(0, 22), (1, 3), (2, 3)] [(.sl 5 yu), (.int .i64), (.int .i64)] 40),
 (221, .c (.sl 9 y0G) 24),
 (235, .c (.sl 4 y5l) 24)]
def sg9 : Sig := ⟨[.v false [(.sl 5 yu)] [false]], [⟨false, [.bool], [false]⟩], false, false⟩
def yFV : Sig := ⟨[.v false [(.sl 3 yh)] [false], .v false [(.sl 3 yh)] [false]], [⟨false, [.bool], [false]⟩], false, false⟩
def ysh : Sig := ⟨[.v false [(.sl 64 yi)] [false], .v false [(.sl 64 yi)] [false]], [⟨false, [.bool], [false]⟩], false, false⟩
def ysi : Sig := ⟨[.v true [(.sl 58 yn)] [false], .v true [(.sl 58 yn)] [false]], [⟨false, [.bool], [false]⟩], false, false⟩
def ysj : Sig := ⟨[.v true Qe [false, false], .v true Qe [false, false]], [⟨false, [.bool], [false]⟩], false, false⟩
def ysk : Sig := ⟨[.v false [(.sl 146 ym)] [false], .v false [(.sl 146 ym)] [false]], [⟨false, [.bool], [false]⟩], false, false⟩
def ysl : Sig := ⟨[.v false [(.sl 113 yd)] [false], .v false [(.sl 113 yd)] [false]], [⟨false, [.bool], [false]⟩], false, false⟩
def yFW : Sig := ⟨[.v true jI (nf 6), .v true jI (nf 6)], [⟨false, [.bool], [false]⟩], false, false⟩
def yFX : Sig := ⟨[.v false [(.int .i64)] [false], .v false [(.int .i64)] [false], .v false [(.int .i64)] [false]], [⟨false, [.bool], [false]⟩], false, false⟩
def ysm : Sig := ⟨[.v true QE (nf 5), .v true QE (nf 5)], [⟨false, [.bool], [false]⟩], false, false⟩
def ysn : Sig := ⟨[.v true QE (nf 5), .v true QE (nf 5)], [⟨false, [.bool], [false]⟩], false, false⟩
def yso : Sig := ⟨[.v false [(.sl 64 yi)] [false], .v true QE (nf 5)], [⟨false, [(.sl 64 yi)], [true]⟩], false, false⟩
def ysp : Sig := ⟨[.v false [(.sl 64 yi)] [false]], [⟨false, [(.sl 64 yi)], [true]⟩], false, false⟩
def ysq : Sig := ⟨[.v false [(.sl 64 yi)] [false], .v false [(.sl 64 yi)] [false]], [⟨false, [(.sl 64 yi)], [true]⟩], false, false⟩
def ysr : Sig := ⟨[.v false [(.sl 64 yi)] [false]], [⟨false, [(.sl 64 yi)], [true]⟩], false, false⟩
def yss : Sig := ⟨[.v true [(.sl 58 yn)] [false]], [⟨false, [(.sl 64 yi)], [true]⟩], false, false⟩
def yst : Sig := ⟨[.v true QE (nf 5)], [⟨false, [.bool], [false]⟩], false, false⟩
def ysu : Sig := ⟨[.v false [(.sl 64 yi)] [false]], [⟨false, [.bool], [false]⟩], false, false⟩
def ysv : Sig := ⟨[.v true [(.sl 58 yn)] [false]], [⟨false, [.bool], [false]⟩], false, false⟩
def ysw : Sig := ⟨[.v false [(.int .i64)] [false], .v false [(.int .i64)] [false]], [⟨false, [(.int .i64)], [false]⟩], false, false⟩
def ysx : Sig := ⟨[.v true Qe [false, false], .v false [(.int .i64)] [false]], [⟨false, [.bool], [false]⟩], false, false⟩
def ysy : Sig := ⟨[.v true Qe [false, false]], [⟨false, [.bool], [false]⟩], false, false⟩
def ysz : Sig := ⟨[.v true yqz [false, false], .p none [(.int .i64)] [false]], [⟨false, [.bool], [false]⟩], false, false⟩
def ydH : Sig := ⟨[.v false [(.sl 146 ym)] [false], .p (some 319) [(.int .i64)] [false]], [⟨false, [(.int .i64)], [false]⟩], false, false⟩
def ysA : Sig := ⟨[.v false [(.sl 146 ym)] [false], .v false [(.int .i64)] [false]], [⟨false, [(.int .i64)], [false]⟩], false, false⟩
def ysB : Sig := ⟨[.v false [(.sl 146 ym)] [false]], [⟨false, [.bool], [false]⟩], false, false⟩
def ysC : Sig := ⟨[.v false [(.int .i64)] [false]], [⟨false, [.bool], [false]⟩], false, false⟩
def ysD : Sig := ⟨[.v false [(.sl 113 yd)] [false]], [⟨false, [.bool], [false]⟩], false, false⟩
def ysE : Sig := ⟨[.v false [.str] [false]], [⟨false, [.bool], [false]⟩], false, false⟩
def ysF : Sig := ⟨[.v false [(.sl 146 ym)] [false], .v false [(.int .i64)] [false]], [⟨false, [(.sl 3 yh)], [true]⟩], false, false⟩
def ysG : Sig := ⟨[.v true yq7 (nf 4), .p none yq7 (nf 4)], [⟨false, [.bool], [false]⟩], false, false⟩
def ydI : Sig := ⟨[.v false [(.sl 46 yt)] [false], .p (some 254) yq7 (nf 4)], [⟨false, [(.int .i64)], [false]⟩], false, false⟩
def ydJ : Sig := ⟨[.v false [(.sl 46 yt)] [false], .p (some 254) yq7 (nf 4)], [⟨false, [.bool], [false]⟩], false, false⟩
def ysH : Sig := ⟨[.v true jI (nf 6)], [⟨false, [.bool], [false]⟩], false, false⟩
def yFY : Sig := ⟨[.v false [(.sl 113 yd)] [false]], [⟨false, [(.int .i64)], [false]⟩], false, false⟩
def yFZ : Sig := ⟨[.v true Qe [false, false]], [⟨false, [(.sl 64 yi)], [true]⟩], false, false⟩
def ysI : Sig := ⟨[.v false [(.sl 113 yd)] [false], .v false [(.int .i64)] [false], .v false [(.int .i64)] [false]], [⟨false, [(.int .i64)], [false]⟩, ⟨false, [.bool], [false]⟩], false, false⟩
def ysJ : Sig := ⟨[.v true jI (nf 6)], [⟨false, [.bool], [false]⟩], false, false⟩
def yG0 : Sig := ⟨[.v true jI (nf 6)], [⟨false, [.bool], [false]⟩], false, false⟩
def ysK : Sig := ⟨[.v true [(.sl 58 yn)] [false]], [⟨true, [(.sl 58 yn)], [true]⟩], false, false⟩
def ysL : Sig := ⟨[.v true Qe [false, false]], [⟨true, Qe, [true, true]⟩], false, false⟩
def ysM : Sig := ⟨[.v false [(.sl 113 yd)] [false]], [⟨false, [(.sl 113 yd)], [true]⟩], false, false⟩
def yG1 : Sig := ⟨[.v true jI (nf 6)], [⟨true, jI, [true, true, true, true, true, false]⟩], false, false⟩
def ysN : Sig := ⟨[.v true jI (nf 6), .v false [.str] [false]], [⟨false, [(.int .i64)], [false]⟩], false, false⟩
def yG2 : Sig := ⟨[.v false [(.int .i64)] [false], .v false [(.int .i64)] [false], .v false [(.int .i64)] [false]], [⟨false, [.bool], [false]⟩], false, false⟩
def ysO : Sig := ⟨[.v false [(.sl 64 yi)] [false]], [⟨false, [(.sl 64 yi)], [true]⟩], false, false⟩
def ysP : Sig := ⟨[.v true QE (nf 5), .v true QE (nf 5)], [⟨false, [.bool], [false]⟩], false, false⟩
def ysQ : Sig := ⟨[.v true QE (nf 5), .v true QE (nf 5)], [⟨false, [.bool], [false]⟩], false, false⟩
def ysR : Sig := ⟨[.v false [(.sl 64 yi)] [false], .v true QE (nf 5)], [⟨false, [(.sl 64 yi)], [true]⟩], false, false⟩
def ysS : Sig := ⟨[.v false [(.sl 64 yi)] [false], .v false [(.sl 64 yi)] [false]], [⟨false, [(.sl 64 yi)], [true]⟩], false, false⟩
def ysT : Sig := ⟨[.v true [(.sl 58 yn)] [false]], [⟨false, [(.sl 64 yi)], [true]⟩], false, false⟩
def ysU : Sig := ⟨[.v true Qe [false, false]], [⟨false, [(.sl 64 yi)], [true]⟩], false, false⟩
def ysV : Sig := ⟨[.v false [(.int .i64)] [false], .v false [(.int .i64)] [false]], [⟨false, [(.int .i64)], [false]⟩], false, false⟩
def ysW : Sig := ⟨[.v true QE (nf 5)], [⟨false, [(.int .i64)], [false]⟩], false, false⟩
def ysX : Sig := ⟨[.v true QE (nf 5)], [⟨false, [.bool], [false]⟩], false, false⟩
def ysY : Sig := ⟨[.v false [(.sl 64 yi)] [false]], [⟨false, [.bool], [false]⟩], false, false⟩
def ysZ : Sig := ⟨[.v false [(.sl 64 yi)] [false]], [⟨false, [.bool], [false]⟩], false, false⟩
def yt0 : Sig := ⟨[.v true [(.sl 58 yn)] [false]], [⟨false, [(.int .i64)], [false]⟩], false, false⟩
def yt1 : Sig := ⟨[.v true [(.sl 58 yn)] [false]], [⟨false, [.bool], [false]⟩], false, false⟩
def yt2 : Sig := ⟨[.v true Qe [false, false], .v false [(.int .i64)] [false]], [⟨false, [.bool], [false]⟩], false, false⟩
def yt3 : Sig := ⟨[.v true Qe [false, false]], [⟨false, [.bool], [false]⟩], false, false⟩
def yt4 : Sig := ⟨[.v false [(.sl 146 ym)] [false], .v false [(.int .i64)] [false]], [⟨false, [(.int .i64)], [false]⟩], false, false⟩
def yt5 : Sig := ⟨[.v false [(.sl 146 ym)] [false]], [⟨false, [.bool], [false]⟩], false, false⟩
def yt6 : Sig := ⟨[.v false [(.int .i64)] [false]], [⟨false, [.bool], [false]⟩], false, false⟩
def yt7 : Sig := ⟨[.v false [(.sl 113 yd)] [false]], [⟨false, [.bool], [false]⟩], false, false⟩
def yt8 : Sig := ⟨[.v false [.str] [false]], [⟨false, [.bool], [false]⟩], false, false⟩
def yt9 : Sig := ⟨[.v false [(.sl 146 ym)] [false], .v false [(.int .i64)] [false]], [⟨false, [(.sl 3 yh)], [true]⟩], false, false⟩
def yta : Sig := ⟨[.v true jI (nf 6)], [⟨false, [.bool], [false]⟩], false, false⟩
def ytb : Sig := ⟨[.v false [(.sl 113 yd)] [false]], [⟨false, [(.int .i64)], [false]⟩], false, false⟩
def ytc : Sig := ⟨[.v false [(.sl 113 yd)] [false], .v false [(.int .i64)] [false], .v false [(.int .i64)] [false]], [⟨false, [(.int .i64)], [false]⟩, ⟨false, [.bool], [false]⟩], false, false⟩
def ytd : Sig := ⟨[.v true jI (nf 6)], [⟨false, [.bool], [false]⟩], false, false⟩
def yG3 : Sig := ⟨[.v true jI (nf 6)], [⟨false, [.bool], [false]⟩], false, false⟩
def yte : Sig := ⟨[.v true jI (nf 6), .v true jI [false, false, false, true, true, false], .v false [.bool] [false]], [⟨true, jI, [false, false, false, true, true, false]⟩, ⟨false, [(.int .i64)], [false]⟩], false, false⟩
def ytf : Sig := ⟨[.v true jI (nf 6), .v false [.str] [false]], [⟨false, [(.int .i64)], [false]⟩], false, false⟩
def ytg : Sig := ⟨[.v true jI (nf 6), .v false [.str] [false]], [⟨false, [(.int .i64)], [false]⟩], false, false⟩
def yG4 : Sig := ⟨[.v true jI (nf 6), .v false [.str] [false]], [⟨true, jI, [false, false, false, true, true, false]⟩, ⟨false, [(.int .i64)], [false]⟩], false, false⟩
def yth : Sig := ⟨[.v false [(.sl 5 yu)] [false]], [⟨true, Qg, (nf 3)⟩], true, false⟩
def yti : Sig := ⟨[.v false [(.sl 5 yu)] [false], .v false [(.int .i64)] [false]], [⟨false, [(.int .i64)], [false]⟩], false, false⟩
def ytj : Sig := ⟨[.p none Qg (nf 3)], [⟨false, [(.int .i64)], [false]⟩], false, false⟩
def ytk : Sig := ⟨[.p none Qg (nf 3), .v false [(.int .i64)] [false]], [⟨false, [(.int .i64)], [false]⟩], false, false⟩
def yG5 : Sig := ⟨[.p none Qg (nf 3), .v false [(.sl 3 yh)] [false]], [⟨false, [(.int .i64)], [false]⟩], false, false⟩
def ytl : Sig := ⟨[.p none Qg (nf 3), .v false [(.sl 9 y0G)] [false]], [⟨false, [.str], [false]⟩], false, false⟩
def ytm : Sig := ⟨[.p none Qg (nf 3)], [⟨false, [.str], [false]⟩], false, false⟩
def ytn : Sig := ⟨[.p none Qg (nf 3)], [⟨false, [(.int .i64)], [false]⟩], false, false⟩
def yto : Sig := ⟨[.p none Qg (nf 3)], [⟨true, ycr, (nf 5)⟩], false, false⟩
def ytp : Sig := ⟨[], [⟨true, Qe, [true, true]⟩], false, false⟩
def ytq : Sig := ⟨[], [⟨false, [(.sl 113 yd)], [true]⟩], false, false⟩
def ytr : Sig := ⟨[], [⟨true, jI, [true, true, true, true, true, false]⟩], false, false⟩
def yts : Sig := ⟨[.v false [(.sl 146 ym)] [false], .v false [(.int .i64)] [false], .v false [(.int .i64)] [false]], [⟨false, [(.sl 146 ym)], [true]⟩, ⟨false, [.bool], [false]⟩], false, false⟩
def ytt : Sig := ⟨[.v false [(.sl 46 yt)] [false], .v true yq7 (nf 4)], [⟨false, [(.sl 46 yt)], [true]⟩], false, false⟩
def yG6 : Sig := ⟨[.v true jI (nf 6), .v false [.str] [false], .v false [(.int .i64)] [false]], [⟨true, jI, [false, false, false, true, true, false]⟩, ⟨false, [(.int .i64)], [false]⟩], false, false⟩
def yG7 : Sig := ⟨[.v true jI (nf 6), .v false [.str] [false], .v false [.str] [false], .v false [.bool] [false]], [⟨true, jI, [false, false, false, true, true, false]⟩, ⟨false, [(.int .i64)], [false]⟩], false, false⟩
def ytu : Sig := ⟨[.v false [(.sl 113 yd)] [false], .v false [(.int .i64)] [false]], [⟨false, [(.sl 113 yd)], [true]⟩, ⟨false, [(.int .i64)], [false]⟩, ⟨false, [.bool], [false]⟩], false, false⟩
def ytv : Sig := ⟨[.v true jI (nf 6), .v false [.str] [false], .v false [(.int .i64)] [false]], [⟨false, [(.int .i64)], [false]⟩], false, false⟩
def ytw : Sig := ⟨[.v true Qe [false, false], .v false [(.int .i64)] [false], .v false [(.int .i64)] [false]], [⟨false, [(.int .i64)], [false]⟩], false, false⟩
def ytx : Sig := ⟨[.v false [(.sl 64 yi)] [false]], [⟨true, [(.sl 58 yn)], [true]⟩], false, false⟩
def yty : Sig := ⟨[.v false [(.sl 64 yi)] [false], .v false [(.int .i64)] [false], .v false [(.int .i64)] [false]], [⟨true, QE, (nf 5)⟩, ⟨false, [.bool], [false]⟩], false, false⟩
def ytz : Sig := ⟨[.v true [(.sl 58 yn)] [false], .v true QE (nf 5)], [⟨true, [(.sl 58 yn)], [true]⟩, ⟨false, [.bool], [false]⟩], false, false⟩
def ytA : Sig := ⟨[.v true Qe [true, true], .v false [(.int .i64)] [false], .v false [(.sl 3 yh)] [false], .v false [(.sl 140 yj)] [false]], [⟨true, Qe, [true, true]⟩], false, true⟩
def ytB : Sig := ⟨[.v true Qe [false, false]], [⟨false, [(.int .i64)], [false]⟩], false, false⟩
def ytC : Sig := ⟨[.v true Qe [true, true]], [⟨true, Qe, [true, true]⟩], false, false⟩
def ytD : Sig := ⟨[.v true Qe [false, false], .v true QE (nf 5)], [⟨true, Qe, [true, true]⟩, ⟨false, [.bool], [false]⟩], false, false⟩
def ytE : Sig := ⟨[.v true [(.sl 58 yn)] [false], .v false [(.int .i64)] [false], .v false [(.int .i64)] [false]], [⟨true, QE, (nf 5)⟩, ⟨false, [.bool], [false]⟩], false, false⟩
def ytF : Sig := ⟨[.v true Qe [false, false], .v false [(.int .i64)] [false], .v false [(.int .i64)] [false]], [⟨true, QE, (nf 5)⟩, ⟨false, [.bool], [false]⟩], false, false⟩
def ytG : Sig := ⟨[.v false [(.sl 113 yd)] [false], .v false [(.int .i64)] [false]], [⟨false, [(.sl 113 yd)], [true]⟩], false, false⟩
def ytH : Sig := ⟨[.p none jI [false, false, false, true, true, false], .v true QE (nf 5), .v false [.bool] [false]], [], false, false⟩
def ytI : Sig := ⟨[.p none jI [false, false, false, true, true, false], .v true QE (nf 5)], [⟨false, [.bool], [false]⟩], false, false⟩
def yG8 : Sig := ⟨[.v true jI (nf 6), .v false [.str] [false], .v false [(.int .i64)] [false], .v false [(.int .i64)] [false]], [⟨true, jI, [false, false, false, true, true, false]⟩, ⟨false, [(.int .i64)], [false]⟩], false, false⟩
def ytJ : Sig := ⟨[.v false [(.sl 146 ym)] [false], .v false [(.int .i64)] [false]], [⟨false, [(.sl 3 yh)], [true]⟩], false, false⟩
def ytK : Sig := ⟨[.v true Qe [false, false], .v false [(.int .i64)] [false]], [⟨false, [(.sl 64 yi)], [true]⟩], false, false⟩
def ytL : Sig := ⟨[.v false [(.sl 3 yh)] [false], .v false [(.int .i64)] [false]], [⟨false, [.bool], [false]⟩], false, false⟩
def ytM : Sig := ⟨[.v true Qe [false, false], .v false [(.int .i64)] [false], .v false [(.sl 3 yh)] [false]], [⟨true, QE, (nf 5)⟩, ⟨false, [.bool], [false]⟩], false, false⟩
def ytN : Sig := ⟨[.v true Qe [false, false], .v false [(.sl 146 ym)] [false], .v false [(.int .i64)] [false], .v false [(.int .i64)] [false]], [⟨true, QE, (nf 5)⟩, ⟨false, [.bool], [false]⟩], false, false⟩
def ytO : Sig := ⟨[.p none jI [false, false, false, true, true, false], .v false [(.int .i64)] [false], .v false [(.int .i64)] [false]], [⟨false, [.bool], [false]⟩], false, false⟩
def yG9 : Sig := ⟨[.v true jI (nf 6), .v false [.str] [false], .v false [(.int .i64)] [false]], [⟨true, jI, [false, false, false, true, true, false]⟩, ⟨false, [(.int .i64)], [false]⟩], false, false⟩
def yGa : Sig := ⟨[.v true jI (nf 6), .v false [.str] [false], .v false [(.int .i64)] [false]], [⟨true, jI, [false, false, false, true, true, false]⟩, ⟨false, [(.int .i64)], [false]⟩], false, false⟩
def ytP : Sig := ⟨[.v true ycr (nf 5)], [⟨false, [.bool], [false]⟩], false, false⟩
def ytQ : Sig := ⟨[.v true ycr (nf 5)], [⟨false, [.bool], [false]⟩], false, false⟩
def ytR : Sig := ⟨[.v true [(.sl 58 yn)] [false]], [⟨true, [(.sl 58 yn)], [true]⟩], false, false⟩
def yGb : Sig := ⟨[.v true Qe [false, false], .v false [(.int .i64)] [false]], [⟨true, Qe, [true, true]⟩], false, false⟩
def yGc : Sig := ⟨[.v true jI (nf 6), .v false [(.int .i64)] [false]], [⟨true, jI, [true, true, true, true, true, false]⟩, ⟨false, [.bool], [false]⟩], false, false⟩
def ytS : Sig := ⟨[.v true jI (nf 6), .v false [(.int .i64)] [false]], [⟨true, QE, (nf 5)⟩], false, false⟩
def yGd : Sig := ⟨[.v true jI (nf 6), .v false [(.int .i64)] [false]], [⟨true, jI, [true, true, true, true, true, false]⟩, ⟨false, [.bool], [false]⟩], false, false⟩
def ytT : Sig := ⟨[.v true Qe [false, false], .v false [(.sl 146 ym)] [false], .v false [(.int .i64)] [false], .v false [(.int .i64)] [false]], [⟨true, QE, (nf 5)⟩, ⟨false, [.bool], [false]⟩], false, false⟩
def ytU : Sig := ⟨[.v true Qe [false, false], .v false [(.sl 146 ym)] [false], .v true QE (nf 5), .v false [(.int .i64)] [false]], [⟨false, [.bool], [false]⟩], false, false⟩
def yGe : Sig := ⟨[.v true jI (nf 6), .v true QE (nf 5)], [⟨false, [.bool], [false]⟩], false, false⟩
def ytV : Sig := ⟨[.v true jI (nf 6), .v false [(.int .i64)] [false]], [⟨false, [.bool], [false]⟩], false, false⟩
def ytW : Sig := ⟨[.v true jI (nf 6), .v false [(.int .i64)] [false]], [⟨false, [(.int .i64)], [false]⟩], false, false⟩
def ytX : Sig := ⟨[.v true jI (nf 6), .v true QE (nf 5)], [⟨false, [.bool], [false]⟩], false, false⟩
def ytY : Sig := ⟨[.v true jI (nf 6), .v false [(.int .i64)] [false], .v true QE (nf 5)], [⟨false, [.bool], [false]⟩], false, false⟩
def ytZ : Sig := ⟨[.v true jI (nf 6), .v false [(.int .i64)] [false]], [⟨false, [.bool], [false]⟩], false, false⟩
def yGf : Sig := ⟨[.v true jI (nf 6)], [⟨false, [(.int .i64)], [false]⟩, ⟨false, [(.int .i64)], [false]⟩], false, false⟩
def yu0 : Sig := ⟨[.p none jI [false, false, false, true, true, false], .v true QE (nf 5)], [⟨false, [.bool], [false]⟩], false, false⟩
def yu1 : Sig := ⟨[.v false [(.sl 146 ym)] [false], .v false [(.int .i64)] [false]], [⟨false, [(.sl 146 ym)], [true]⟩, ⟨false, [.bool], [false]⟩], false, false⟩
def yGg : Sig := ⟨[.v true jI (nf 6)], [⟨true, jI, [false, false, false, true, true, false]⟩, ⟨false, [.bool], [false]⟩], false, false⟩
def yu2 : Sig := ⟨[.v true jI (nf 6), .v true ycr (nf 5)], [⟨true, jI, [false, false, false, true, true, false]⟩, ⟨false, [.bool], [false]⟩], false, false⟩
def yu3 : Sig := ⟨[.v true jI (nf 6), .v true ycr (nf 5)], [⟨true, jI, [false, false, false, true, true, false]⟩, ⟨false, [(.int .i64)], [false]⟩], false, false⟩
def yu4 : Sig := ⟨[.p none Qg (nf 3), .v false [(.int .i64)] [false]], [⟨true, jI, [false, false, false, true, true, false]⟩], false, false⟩
def yu5 : Sig := ⟨[.p none Qg (nf 3)], [⟨true, QE, (nf 5)⟩], false, false⟩
def yu6 : Sig := ⟨[.p none Qg (nf 3)], [⟨true, QE, (nf 5)⟩], false, false⟩
def yu7 : Sig := ⟨[.p none Qg (nf 3), .v false [(.int .i64)] [false]], [⟨true, Qe, [true, true]⟩], false, false⟩
def yu8 : Sig := ⟨[.p none Qg (nf 3)], [⟨true, [(.sl 58 yn)], [true]⟩], false, false⟩
def yu9 : Sig := ⟨[.p none Qg (nf 3), .v false [(.int .i64)] [false]], [⟨false, [(.sl 64 yi)], [true]⟩], false, false⟩
def yua : Sig := ⟨[.p none Qg (nf 3)], [⟨true, QE, (nf 5)⟩], false, false⟩
def yub : Sig := ⟨[.p none Qg (nf 3), .v false [(.int .i64)] [false]], [⟨false, [(.sl 64 yi)], [true]⟩], false, false⟩
def yuc : Sig := ⟨[.p none Qg (nf 3)], [⟨true, [(.sl 58 yn)], [true]⟩], false, false⟩
def yud : Sig := ⟨[.p none Qg (nf 3), .v false [(.int .i64)] [false]], [⟨true, Qe, [true, true]⟩], false, false⟩
def yue : Sig := ⟨[.p none Qg (nf 3), .v false [(.int .i64)] [false]], [⟨false, [.bool], [false]⟩], false, false⟩
def yuf : Sig := ⟨[.p none Qg (nf 3)], [⟨false, [(.sl 146 ym)], [true]⟩], false, false⟩
def yug : Sig := ⟨[.p none Qg (nf 3)], [⟨false, [(.sl 146 ym)], [true]⟩], false, false⟩
def yuh : Sig := ⟨[.p none Qg (nf 3)], [⟨false, [(.sl 113 yd)], [true]⟩], false, false⟩
def yui : Sig := ⟨[.p none Qg (nf 3)], [⟨false, [(.sl 113 yd)], [false]⟩], false, false⟩
def yuj : Sig := ⟨[.p none Qg (nf 3), .v false [(.int .i64)] [false]], [⟨true, jI, [false, false, false, false, true, false]⟩], false, false⟩
def yuk : Sig := ⟨[.v false [(.sl 5 yu)] [false]], [⟨true, jI, [false, false, false, false, true, false]⟩], false, false⟩
def yGh : Sig := ⟨[.v false [(.sl 5 yu)] [false]], [⟨true, jI, [false, false, false, false, true, false]⟩], false, false⟩
def yul : Sig := ⟨[.v false [(.sl 22 y3j)] [false]], [⟨false, [(.sl 5 yu)], [true]⟩], false, false⟩
def yum : Sig := ⟨[.v false [(.sl 5 yu)] [false], .v false [(.int .i64)] [false]], [⟨false, [(.sl 5 yu)], [true]⟩], false, false⟩
def yun : Sig := ⟨[.v false [(.sl 5 yu)] [false], .v false [.str] [false]], [⟨false, [(.sl 5 yu)], [true]⟩], false, false⟩
def yuo : Sig := ⟨[.v false [.bool] [false]], [⟨false, [(.int .u8)], [false]⟩], false, false⟩
def yup : Sig := ⟨[.v false [(.sl 5 yu)] [false], .v true QE (nf 5)], [⟨false, [(.sl 5 yu)], [true]⟩], false, false⟩
def yGi : Sig := ⟨[.v true jI (nf 6)], [⟨false, [(.sl 5 yu)], [true]⟩], false, false⟩
def yuq : Sig := ⟨[.p none Qg (nf 3), .v false [(.sl 5 yu)] [false]], [⟨false, [(.sl 5 yu)], [true]⟩], false, false⟩
def yur : Sig := ⟨[.v false [(.sl 5 yu)] [false], .v false [(.int .i64)] [false]], [⟨false, [(.sl 5 yu)], [true]⟩], false, false⟩
def yus : Sig := ⟨[.v false [(.sl 5 yu)] [false], .v false [.str] [false]], [⟨false, [(.sl 5 yu)], [true]⟩], false, false⟩
def yut : Sig := ⟨[.v false [.bool] [false]], [⟨false, [(.int .u8)], [false]⟩], false, false⟩
def yuu : Sig := ⟨[.v false [(.sl 5 yu)] [false], .v true QE (nf 5)], [⟨false, [(.sl 5 yu)], [true]⟩], false, false⟩
def yuv : Sig := ⟨[.v false [(.sl 5 yu)] [true], .v false [(.sl 64 yi)] [false]], [⟨false, [(.sl 5 yu)], [true]⟩], false, false⟩
def yuw : Sig := ⟨[.v true jI (nf 6)], [⟨false, [(.sl 5 yu)], [true]⟩], false, false⟩
def yGj : Sig := ⟨[.v false [(.sl 5 yu)] [false]], [⟨false, [(.sl 5 yu)], [true]⟩], false, false⟩
def yux : Sig := ⟨[.v false [(.sl 5 yu)] [false], .v false [(.int .i64)] [false]], [⟨false, [(.int .i64)], [false]⟩, ⟨false, [(.int .i64)], [false]⟩, ⟨false, [.bool], [false]⟩], false, false⟩
def yuy : Sig := ⟨[.p none Ke (nf 3)], [⟨false, [(.int .i64)], [false]⟩], false, false⟩
def yuz : Sig := ⟨[.p none Ke (nf 3)], [⟨false, [(.int .i64)], [false]⟩], false, false⟩
def yuA : Sig := ⟨[.v false [(.sl 5 yu)] [false], .v false [(.int .i64)] [false]], [⟨false, [.str], [false]⟩, ⟨false, [(.int .i64)], [false]⟩, ⟨false, [.bool], [false]⟩], false, false⟩
def yuB : Sig := ⟨[.p none Ke (nf 3)], [⟨false, [.str], [false]⟩], false, false⟩
def yuC : Sig := ⟨[.p none Ke (nf 3)], [⟨false, [.bool], [false]⟩], false, false⟩
def yuD : Sig := ⟨[.p none Ke (nf 3)], [⟨true, QE, (nf 5)⟩], false, false⟩
def yuE : Sig := ⟨[.p none Ke (nf 3)], [⟨true, [(.sl 58 yn)], [true]⟩], false, false⟩
def yuF : Sig := ⟨[.p none Ke (nf 3)], [⟨true, jI, [true, true, true, true, true, false]⟩], false, false⟩
def yuG : Sig := ⟨[.p none Ke (nf 3)], [⟨false, [.bool], [false]⟩], false, false⟩
def yuH : Sig := ⟨[.v false [(.sl 5 yu)] [false], .v false [(.sl 5 yu)] [false]], [⟨false, [.bool], [false]⟩], false, false⟩
def yGk : Sig := ⟨[.v false [(.sl 5 yu)] [false]], [⟨true, jI, [true, true, true, true, true, false]⟩, ⟨false, [.bool], [false]⟩], false, false⟩
def yuI : Sig := ⟨[.p none Ke (nf 3)], [⟨false, [(.int .i64)], [false]⟩], false, false⟩
def yuJ : Sig := ⟨[.p none Ke (nf 3)], [⟨false, [(.int .i64)], [false]⟩], false, false⟩
def yuK : Sig := ⟨[.p none Ke (nf 3)], [⟨false, [.bool], [false]⟩], false, false⟩
def yuL : Sig := ⟨[.v false [(.sl 5 yu)] [false], .v false [(.int .i64)] [false]], [⟨false, [(.int .i64)], [false]⟩, ⟨false, [(.int .i64)], [false]⟩, ⟨false, [.bool], [false]⟩], false, false⟩
def yuM : Sig := ⟨[.v false [(.sl 5 yu)] [false], .v false [(.int .i64)] [false]], [⟨false, [.str], [false]⟩, ⟨false, [(.int .i64)], [false]⟩, ⟨false, [.bool], [false]⟩], false, false⟩
def yuN : Sig := ⟨[.p none Ke (nf 3)], [⟨true, yq7, (nf 4)⟩], false, false⟩
def yuO : Sig := ⟨[.v false [(.sl 5 yu)] [false], .v false [(.int .i64)] [false]], [⟨true, QE, (nf 5)⟩, ⟨false, [(.int .i64)], [false]⟩, ⟨false, [.bool], [false]⟩], false, false⟩
def yuP : Sig := ⟨[.p none Ke (nf 3)], [⟨false, [(.sl 64 yi)], [true]⟩], false, false⟩
def yuQ : Sig := ⟨[.p none Ke (nf 3)], [⟨true, [(.sl 58 yn)], [true]⟩], false, false⟩
def yGl : Sig := ⟨[.v false [(.sl 5 yu)] [false]], [⟨true, jI, [true, true, true, true, true, false]⟩, ⟨false, [.bool], [false]⟩], false, false⟩
def yGm : Sig := ⟨[.v false [(.sl 5 yu)] [false]], [⟨true, jI, (nf 6)⟩, ⟨true, jI, [false, false, false, false, true, false]⟩], false, false⟩
def yuR : Sig := ⟨[.v false [(.sl 3 yh)] [false], .v false [(.sl 3 yh)] [false]], [⟨false, [.bool], [false]⟩], false, false⟩
def yuS : Sig := ⟨[.v false [(.sl 64 yi)] [false], .v false [(.sl 64 yi)] [false]], [⟨false, [.bool], [false]⟩], false, false⟩
def yuT : Sig := ⟨[.v false [(.sl 64 yi)] [false], .v false [(.sl 64 yi)] [false]], [⟨false, [.bool], [false]⟩], false, false⟩
def ydK : Sig := ⟨[.v false [(.sl 58 yn)] [false], .v false [(.sl 58 yn)] [false], .k 281], [⟨false, [.bool], [false]⟩], false, false⟩
def yuU : Sig := ⟨[.v true [(.sl 58 yn)] [false], .v true [(.sl 58 yn)] [false]], [⟨false, [.bool], [false]⟩], false, false⟩
def yuV : Sig := ⟨[.v false [(.sl 146 ym)] [false], .v false [(.sl 146 ym)] [false]], [⟨false, [.bool], [false]⟩], false, false⟩
def yuW : Sig := ⟨[.v false [(.sl 113 yd)] [false], .v false [(.sl 113 yd)] [false]], [⟨false, [.bool], [false]⟩], false, false⟩
def yuX : Sig := ⟨[.v false [(.sl 46 yt)] [false], .v false [(.sl 46 yt)] [false]], [⟨false, [.bool], [false]⟩], false, false⟩
def ydL : Sig := ⟨[.v false [(.sl 140 yj)] [false], .v false [(.sl 140 yj)] [false], .k 168], [⟨false, [.bool], [false]⟩], false, false⟩
def yGn : Sig := ⟨[.v true jI (nf 6), .v true jI (nf 6)], [⟨false, [.bool], [false]⟩], false, false⟩
def sg6 : Sig := ⟨[.v false [(.sl 5 yu)] [false]], [⟨false, [.bool], [false]⟩], false, false⟩
def yHr : List (Nat × Sig) := [(9, sg9), (27, yFV), (311, ysh), (237, ysi), (107, ysj), (108, ysk), (109, ysl), (17, yFW), (92, yFX), (342, ysm), (343, ysn), (302, yso), (303, ysp), (249, ysq), (250, ysr), (127, yss), (218, yst), (323, ysu), (251, ysv), (223, ysw), (252, ysx), (128, ysy), (319, ysz), (100000, ydH), (245, ysA), (129, ysB), (125, ysC), (130, ysD), (117, ysE), (135, ysF), (254, ysG), (100002, ydI), (100001, ydJ), (131, ysH), (28, yFY), (29, yFZ), (247, ysI), (132, ysJ), (30, yG0), (299, ysK), (210, ysL), (211, ysM), (94, yG1), (174, ysN), (96, yG2), (230, ysO), (307, ysP), (308, ysQ), (231, ysR), (309, ysS), (232, ysT), (137, ysU), (304, ysV), (233, ysW), (226, ysX), (359, ysY), (344, ysZ), (345, yt0), (306, yt1), (300, yt2), (212, yt3), (262, yt4), (213, yt5), (182, yt6), (214, yt7), (178, yt8), (260, yt9), (215, yta), (147, ytb), (285, ytc), (216, ytd), (95, yG3), (177, yte), (173, ytf), (179, ytg), (64, yG4), (112, yth), (114, yti), (263, ytj), (145, ytk), (90, yG5), (240, ytl), (236, ytm), (241, ytn), (115, yto), (312, ytp), (313, ytq), (238, ytr), (175, yts), (176, ytt), (59, yG6), (61, yG7), (103, ytu), (181, ytv), (227, ytw), (234, ytx), (305, yty), (228, ytz), (229, ytA), (310, ytB), (235, ytC), (104, ytD), (336, ytE), (283, ytF), (105, ytG), (284, ytH), (183, ytI), (66, yG8), (324, ytJ), (350, ytK), (351, ytL), (325, ytM), (257, ytN), (186, ytO), (70, yG9), (73, yGa), (346, ytP), (314, ytQ), (217, ytR), (97, yGb), (12, yGc), (102, ytS), (15, yGd), (265, ytT), (149, ytU), (41, yGe), (259, ytV), (142, ytW), (258, ytX), (138, ytY), (139, ytZ), (33, yGf), (141, yu0), (143, yu1), (35, yGg), (315, yu2), (239, yu3), (113, yu4), (264, yu5), (146, yu6), (332, yu7), (352, yu8), (362, yu9), (363, yua), (353, yub), (333, yuc), (277, yud), (144, yue), (334, yuf), (278, yug), (335, yuh), (279, yui), (165, yuj), (106, yuk), (50, yGh), (189, yul), (151, yum), (152, yun), (153, yuo), (154, yup), (51, yGi), (155, yuq), (266, yur), (267, yus), (268, yut), (327, yuu), (269, yuv), (156, yuw), (52, yGj), (328, yux), (270, yuy), (271, yuz), (329, yuA), (272, yuB), (273, yuC), (330, yuD), (274, yuE), (157, yuF), (158, yuG), (159, yuH), (53, yGk), (161, yuI), (160, yuJ), (163, yuK), (295, yuL), (275, yuM), (162, yuN), (331, yuO), (276, yuP), (164, yuQ), (54, yGl), (55, yGm), (166, yuR), (282, yuS), (281, yuT), (100003, ydK), (168, yuU), (169, yuV), (170, yuW), (171, yuX), (100004, ydL), (56, yGn), (6, sg6)]
def yAJ : List (Nat × (List Nat × List Nat)) := [
 (2700004, [0, 1, 5], [4]),
 (31100004, [0, 1, 5], [4]),
 (23700004, [2, 3, 5], [4]),
 (10700004, [2, 3, 5], [4]),
 (10800004, [0, 1, 5], [4]),
 (10900004, [0, 1, 5], [4]),
 (1700004, [2, 3, 5], [4]),
 (30200004, [3, 5, 6, 10, 11, 12, 19, 20, 21, 22], [3, 5, 6]),
 (24900003, [5, 10, 11, 12], [5]),
 (25000003, [3, 7, 8, 9], [3]),
 (12700003, [3, 8, 9, 10], [3]),
 (32300002, [0, 5, 6, 7, 16, 17, 18, 19, 20, 21, 22, 23, 24, 25, 26, 27], [0, 2]),
 (25100003, [1, 3, 7, 8, 9, 17, 18, 19, 31, 32], [1, 2, 3, 31, 32]),
 (25200002, [1, 2, 15, 16, 17, 40, 41, 42, 43, 44, 45, 46, 47, 48, 49, 50, 51, 52, 53, 54, 55], [4]),
 (25200005, [1, 2, 15, 16, 17, 21, 22, 23, 40, 41, 42, 43, 44, 45, 46, 47, 48, 49, 50, 51, 52, 53, 54, 55], [1, 2, 4, 15, 16, 17, 40, 41, 42, 43, 44, 45, 46, 47, 48, 49, 50, 51, 52, 53, 54, 55]),
 (12800005, [1, 3, 29, 30, 31, 39, 40, 41, 42, 43, 44, 45, 46, 47, 48, 49, 50, 53, 54, 55, 58, 59, 60, 61, 69, 70], [2, 3]),
 (10000000002, [0, 1, 7, 8], [1, 4]),
 (12900002, [0, 5, 6, 7, 17, 18, 19, 20, 21, 22, 23, 24, 25, 26, 27, 28, 29, 32, 33, 34, 35, 36, 37, 38, 39, 40, 41, 42, 43], [0, 2]),
 (13000002, [0, 5, 6, 7, 16, 17, 18, 19, 22, 23, 24, 25, 26, 27, 28, 29], [0, 2]),
 (11700002, [0, 3, 17, 18, 19, 20, 21, 22], [0, 2]),
 (13500005, [1, 5, 12, 13, 14], [5]),
 (10000200002, [0, 1, 7, 8], [1, 4]),
 (13100002, [1, 6, 7, 8, 18, 19, 20, 21, 22, 23, 24, 25, 26, 27, 28, 29, 30, 31, 34, 35, 36, 37, 46, 47, 48, 49, 50, 51, 52], [1, 2]),
 (2800003, [3, 6, 7, 8], [3]),
 (2900003, [3, 8, 9, 10], [3]),
 (13200004, [1, 3, 4, 12, 13, 14, 40, 41, 42, 43, 44], [1, 2, 4]),
 (3000004, [1, 28, 29, 30, 43, 44], [1, 2, 43, 44]),
 (29900003, [1, 2, 3, 4], [2, 3]),
 (21000003, [1, 2, 3, 4], [2, 3]),
 (17400002, [1, 2, 5], [4]),
 (23000003, [0, 3, 4], [3]),
 (23100004, [0, 3, 5, 6, 7, 18, 19, 20, 21, 22, 23, 24], [3, 5, 6]),
 (30900003, [1, 5, 6], [5]),
 (23200003, [1, 3, 4], [3]),
 (13700003, [1, 3, 4], [3]),
 (35900002, [0, 3], [2]),
 (34400002, [0, 3, 19, 20, 21], [0, 2, 19, 20, 21]),
 (34500003, [1, 3, 4], [3]),
 (30600002, [1, 3, 19, 20, 21, 22, 23, 24, 25, 32, 33, 34], [1, 2, 32, 33, 34]),
 (30000005, [1, 2, 5, 6, 61, 62, 63, 64, 65, 66, 67, 68, 69, 70, 71, 72, 73, 74, 75, 76], [4]),
 (30000008, [1, 2, 5, 6, 7, 61, 62, 63, 64, 65, 66, 67, 68, 69, 70, 71, 72, 73, 74, 75, 76], [1, 2, 4, 5, 6, 61, 62, 63, 64, 65, 66, 67, 68, 69, 70, 71, 72, 73, 74, 75, 76]),
 (21200004, [1, 3, 35, 36, 37, 38, 39, 40, 41, 42, 43, 44, 45, 46, 49, 50, 51, 52], [1, 2]),
 (26200002, [0, 1, 5], [4]),
 (21300002, [0, 3, 18, 19, 20, 21, 22, 23, 24, 25, 26, 27, 28, 29, 30, 31, 32, 33, 42, 43, 44, 45, 46, 47, 48, 49, 50, 51], [0, 2]),
 (21400002, [0, 3, 18, 19, 20, 21, 22, 23, 24, 27, 28, 29, 30, 31, 32, 33, 34, 35, 36, 37, 38, 39, 40], [0, 2]),
 (17800002, [0, 3, 17, 18, 19, 20, 21, 22], [0, 2]),
 (26000003, [0, 1, 5, 6, 22, 23], [5]),
 (21500002, [1, 3, 23, 24, 25, 26, 29, 30, 31, 32, 33, 34, 37, 38, 39, 40, 41, 42, 43, 46, 47, 48, 49, 50, 51, 52, 53, 54, 55, 56, 57, 58, 59], [1, 2]),
 (21500008, [1, 3, 4, 5, 23, 24, 25, 26, 29, 30, 31, 32, 33, 34, 37, 38, 39, 40, 41, 42, 43, 46, 47, 48, 49, 50, 51, 52, 53, 54, 55, 56, 57, 58, 59], [1, 2, 3, 23, 24, 25, 26, 29, 30, 31, 32, 33, 34, 37, 38, 39, 40, 41, 42, 43, 46, 47, 48, 49, 50, 51, 52, 53, 54, 55, 56, 57, 58, 59]),
 (14700003, [0, 3, 4], [3]),
 (21600004, [1, 3, 4, 5, 65, 66, 67, 68, 69, 70, 71, 72, 73, 74, 75], [1, 2, 4]),
 (21600014, [1, 3, 4, 5, 8, 65, 66, 67, 68, 69, 70, 71, 72, 73, 74, 75], [1, 2, 3, 4, 5, 65, 66, 67, 68, 69, 70, 71, 72, 73, 74, 75]),
 (9500002, [1, 3, 24, 25, 26, 29, 30, 31, 34, 35, 36, 39, 40, 43, 44], [1, 2, 24, 25, 26, 29, 30, 31, 34, 35, 36, 39, 40, 43, 44]),
 (11200003, [0, 3, 4, 13, 14], [0, 3]),
 (17500004, [0, 1, 2, 8, 9, 10, 25, 26, 27, 28, 29, 30, 31, 59, 60, 61], [0, 1, 2, 8, 9, 59, 60, 61]),
 (17600003, [3, 5, 6, 19, 20, 21, 22, 23, 24, 25, 26, 27], [3, 5, 6]),
 (10300003, [0, 1, 7, 8, 16, 17, 20, 21], [4, 5, 6, 7]),
 (22700003, [1, 2, 3, 7, 8], [7]),
 (30500002, [0, 1, 2, 6, 8, 23, 24, 25, 26, 27, 28, 29], [6, 7]),
 (31000002, [1, 3], [2]),
 (23500002, [1, 2, 3], [1, 2]),
 (33600002, [1, 2, 3, 6, 8, 32, 33, 34], [6, 7]),
 (32400003, [0, 5, 6, 14, 15, 16, 17, 18], [5]),
 (35000004, [1, 5, 6, 7], [5]),
 (35100002, [0, 1, 5], [4]),
 (32500005, [2, 6, 8, 9, 10, 11, 30, 31, 32, 33, 34, 35, 36, 37, 38, 39, 40, 41], [6, 8, 9]),
 (7300010, [2, 3, 6, 8, 10, 11, 12, 43], [2, 3, 6, 8, 10, 11]),
 (10200003, [1, 4, 5, 6, 23, 24, 25, 26, 27, 28, 29], [4]),
 (4100002, [2, 3, 5, 23, 24, 25, 26, 27, 28, 29, 30, 31, 32, 33, 34], [4]),
 (25900002, [1, 2, 5], [4]),
 (13900003, [1, 2, 5, 6, 27, 28, 29, 30, 31, 32], [1, 2, 4, 27, 28, 29, 30, 31, 32]),
 (3300005, [1, 4, 5], [1, 2, 3]),
 (3300008, [1, 4, 5, 6], [1, 2, 3, 4, 5]),
 (3300013, [1, 7], [2, 3]),
 (14300006, [0, 1, 6, 7, 8], [7]),
 (11300003, [0, 4, 5, 6], [0, 4, 5]),
 (33200003, [0, 4, 5, 6], [0, 4, 5]),
 (35200003, [0, 2, 3, 4], [0, 2, 3]),
 (36200003, [0, 5, 6], [0, 5]),
 (33400003, [0, 3, 4, 17, 18, 19], [0, 3]),
 (27800010, [0, 3, 4], [0, 3]),
 (33500003, [0, 3, 4], [0, 3]),
 (10600004, [2, 3, 4, 5], [2, 4]),
 (18900003, [3, 7, 8, 9], [3]),
 (5100005, [1, 3, 29, 30, 31], [1, 3]),
 (5100011, [1, 3, 53, 54, 55], [1, 3]),
 (5100016, [1, 3, 76, 77, 78], [1, 3]),
 (5100022, [1, 3, 105, 106, 107], [3]),
 (5100026, [1, 3, 105, 106, 107, 127, 128, 129], [1, 3, 105, 106, 107]),
 (5100030, [1, 3, 105, 106, 107, 127, 128, 129, 139, 140, 141], [1, 3, 105, 106, 107, 127, 128, 129]),
 (26900003, [0, 1, 5], [0]),
 (15600006, [1, 3, 4], [1, 3]),
 (15600011, [1, 3, 5], [1, 3]),
 (15600016, [1, 3, 7], [1, 3]),
 (15600021, [1, 3, 8], [3]),
 (15600025, [1, 3, 8, 9], [1, 3, 8]),
 (27400004, [0, 2, 3, 11, 12], [0, 2, 3]),
 (27400008, [0, 2, 3, 5, 11, 12, 17, 18], [0, 2, 3, 5, 11, 12]),
 (15700005, [0, 2, 3, 18, 19], [0, 2, 3]),
 (15700013, [0, 2, 3, 37, 38], [0, 2, 3]),
 (15700022, [0, 2, 3, 60], [0, 2, 3]),
 (15700031, [0, 2, 3, 81, 82], [0, 2, 3]),
 (27600003, [0, 3, 4, 14, 15, 16, 17, 18], [0, 2, 3]),
 (16400003, [0, 2, 3, 4, 12, 13, 14, 15, 16], [0, 2, 3]),
 (5400004, [0, 2, 4, 5, 6, 26, 27, 28, 29, 30, 51, 52, 53, 54, 55, 70, 71, 72, 73, 74, 98, 99, 100, 101, 102, 131, 132, 133, 134, 135, 136, 137, 140, 141, 142], [0, 2, 4, 5, 51, 52, 53, 54, 55, 70, 71, 72, 73, 74, 98, 99, 100, 101, 102, 131, 132, 133, 134, 135, 136, 137, 140, 141, 142]),
 (5400010, [0, 2, 4, 5, 8, 51, 52, 53, 54, 55, 70, 71, 72, 73, 74, 98, 99, 100, 101, 102, 131, 132, 133, 134, 135, 136, 137, 140, 141, 142], [0, 2, 4, 5, 70, 71, 72, 73, 74, 98, 99, 100, 101, 102, 131, 132, 133, 134, 135, 136, 137, 140, 141, 142]),
 (5400015, [0, 2, 4, 5, 10, 70, 71, 72, 73, 74, 98, 99, 100, 101, 102, 131, 132, 133, 134, 135, 136, 137, 140, 141, 142], [0, 2, 4, 5, 98, 99, 100, 101, 102, 131, 132, 133, 134, 135, 136, 137, 140, 141, 142]),
 (5400022, [0, 2, 4, 5, 12, 98, 99, 100, 101, 102, 131, 132, 133, 134, 135, 136, 137, 140, 141, 142], [0, 2, 4, 5, 131, 132, 133, 134, 135, 136, 137, 140, 141, 142]),
 (16600004, [0, 1, 12, 13], [4]),
 (28200004, [0, 1, 12, 13], [4]),
 (10000300004, [1, 2, 15, 16, 17], [6]),
 (16900004, [0, 1, 12, 13], [4]),
 (17000004, [0, 1, 12, 13], [4]),
 (17100004, [0, 1, 12, 13], [4]),
 (10000400004, [1, 2, 15, 16, 17], [6])]
def yGo : List (Nat × List Nat × Nat) := [(318, [319], 100000), (253, [254], 100001), (242, [254], 100002), (280, [281], 100003), (167, [168], 100004)]
def yAK : List (Nat × List Nat) := [(299, [22]), (210, [25]), (235, [2000000000006000001, 2000000000007000001, 1000033000000027, 1000046000000041, 1000048000000025, 49, 1000049000049000, 1000050000000046]), (104, [2000000000010000011, 49, 1000037000999999, 1000049000038000, 1000050000000047, 1000050000000049, 1000082000999999, 1000086000999999, 87, 1000087000083000, 1000087000087000]), (66, [60]), (257, [21]), (113, [1000019000000900]), (332, [1000019000000900]), (352, [1000015000000900]), (333, [1000013000000900, 14, 1000014000014000, 1000022000000900, 1000025000000900, 27, 1000027000000023, 1000027000000026]), (277, [1000019000000900, 1000022000000021, 1000022000000900, 1000029000000900, 30, 1000030000030000, 1000041000000900, 1000043000000900]), (165, [1000032000000031, 1000032000000900, 1000034000000900, 1000038000000037, 1000038000000900, 1000057000000900, 1000069000000900]), (106, [1000022000008500]), (155, [100019, 1000033000000900]), (157, [100012]), (53, [100007, 100026]), (54, [100016, 100020, 100144]), (55, [1000002000000002, 1000021000009500])]
def C : Ctx := { info := ybS ysg, sig := ybS yHr, live := fun f i => ybS yAJ (100000 * f + i), key := ws yGo, fid := yqi yGo, hint := ykY yAK }
theorem tok : TOk C Tryz.prog := yqx (l := ysg) rfl (by kernel_rfl)
theorem yAL : Tryz.prog.follows .mixedOrders = true := by kernel_rfl
abbrev QF := Qf C Tryz.prog
abbrev EV (l : List QF) (lp : Lp) (n : Nat) (fn : Func) (sg : Sig) (ins outs : List Ty) (F : zl ins → Option (zl outs)) : Prop := ∀ x, yij C (yn0 l) lp n fn (Qd fn) sg ins outs x = F x
abbrev LF (l : List QF) (lp : Lp) (n i : Nat) (fn : Func) (k : Nat) {T V : Type} (e : T → St) (g : Gk T) (inj : V → T) : Prop := LC C (yn0 l) lp n i (cL fn k) e g inj
abbrev LK (l : List QF) (lp : Lp) (n : Nat) (fn : Func) (k : Nat) : Prop := y3H C (yn0 l) lp n (cL fn k)
theorem okN {l : List QF} {lp : Lp} {f g : Nat} {fn : Func} {sg : Sig} {n : Nat} (hfn : Tryz.prog.funcs[g]? = some fn) (hl : yqw (y3H C (yn0 l) lp f) (jO (Qd fn)) n 0) {F : zl (C.ins f) → Option (zl (C.outs f))} (hF : ∀ x, yij C (yn0 l) lp f fn (Qd fn) sg (C.ins f) (C.outs f) x = F x) (hsig : C.sig f = some sg := by kernel_rfl) (hB : fnB C f g fn sg n = true := by kernel_rfl) : wv C Tryz.prog f F := yzh tok yAL hfn hsig hB hl hF
theorem lkN {call : C.Sem} {lp : Lp} {f i : Nat} {c : Code} {T : Type} {e : T → St} {u : St → Option T} {g : Gk T} (hu : ∀ s t, u s = some t → e t = s) (hc : LC C call lp f i c e @g (fun t => t)) (hl : laB C f i c = true := by kernel_rfl) (hb : LB lp i u @g := by intro R κ s; kernel_rfl) : y3H C call lp f c := yiQ hl hu hb hc
end Go.Proofs.YthgdjjdigalckaaGreat.XI
