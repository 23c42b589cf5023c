/- The context of the evaluator for B: types, signatures, slots that live at loops; by a program (dec.py). No condition. -/
import Derived.Test.YthgdjjdigalckaaGreatProg
import Derived.Test.YthgdjjdigalckaaGreatRRow
import Derived.KernelRfl
set_option linter.all false
namespace Go.Proofs.YthgdjjdigalckaaGreat.XB
open Go.Proofs.YthgdjjdigalckaaGreat.R
set_option maxRecDepth 100000
abbrev Yt : List Ty := [(.int .u8)]
abbrev Vn : Type := Int
abbrev ymH (xs : List Vn) (i : Int) : Vn := rdE Yt xs i
def y5M (x : List Vn) : A := .val (.sl 5 Yt) x
abbrev yh : List Ty := [(.int .i64)]
abbrev yd : Type := Int
abbrev y4X : yd := qc yh
abbrev zu (xs : List yd) (i : Int) : yd := rdE yh xs i
def zg (x : List yd) : A := .val (.sl 3 yh) x
abbrev yi : List Ty := [(.int .i64), (.int .i64), (.int .i64), (.int .i64), (.int .i64)]
abbrev y9 : Type := Int × Int × Int × Int × Int
abbrev zb : y9 := qc yi
abbrev y6 (xs : List y9) (i : Int) : y9 := rdE yi xs i
def qQ (x : List y9) : A := .val (.sl 64 yi) x
abbrev yn : List Ty := [(.sl 64 yi)]
abbrev yb : Type := List y9
abbrev yV : yb := qc yn
abbrev yo (xs : List yb) (i : Int) : yb := rdE yn xs i
def Yp (x : List yb) : A := .val (.sl 58 yn) x
abbrev yj : List Ty := [(.sl 58 yn)]
abbrev y0 : Type := List yb
abbrev yz : y0 := qc yj
abbrev yf (xs : List y0) (i : Int) : y0 := rdE yj xs i
def yI (x : List y0) : A := .val (.sl 140 yj) x
abbrev yk : List Ty := [(.int .i64), (.int .i64)]
abbrev ya : Type := Int × Int
abbrev YT : ya := qc yk
abbrev yD (xs : List ya) (i : Int) : ya := rdE yk xs i
def zm (x : List ya) : A := .val (.sl 146 yk) x
abbrev yg : List Ty := [(.int .i64), .bool, (.int .i64)]
abbrev y7 : Type := Int × Bool × Int
abbrev zW : y7 := qc yg
abbrev yl (xs : List y7) (i : Int) : y7 := rdE yg xs i
def yW (x : List y7) : A := .val (.sl 113 yg) x
abbrev yE : List Ty := [.str, (.int .i64), (.int .i64), .bool]
abbrev ye : Type := ByteArray × Int × Int × Bool
abbrev zX : ye := qc yE
abbrev y8 (xs : List ye) (i : Int) : ye := rdE yE xs i
def Yu (x : List ye) : A := .val (.sl 46 yE) x
abbrev QC : List Ty := [.str]
abbrev Vv : Type := ByteArray
abbrev yfG : Vv := qc QC
abbrev ydJ (xs : List Vv) (i : Int) : Vv := rdE QC xs i
abbrev y4e : List Ty := [.bool]
abbrev ybs : Type := Bool
abbrev ydK : ybs := qc y4e
abbrev ydL (xs : List ybs) (i : Int) : ybs := rdE y4e xs i
abbrev Qz0 : Type := List yd × List yd × Int
abbrev qz0 : List Ty := [(.sl 3 yh), (.sl 3 yh), (.int .i64)]
abbrev Qz1 : Type := List yd × List yd
abbrev qz1 : List Ty := [(.sl 3 yh), (.sl 3 yh)]
abbrev Qz2 : Type := List y9 × List y9 × Int
abbrev qz2 : List Ty := [(.sl 64 yi), (.sl 64 yi), (.int .i64)]
abbrev Qz3 : Type := List y9 × List y9
abbrev qz3 : List Ty := [(.sl 64 yi), (.sl 64 yi)]
abbrev Qz4 : Type := Int × List yb × List yb
abbrev qz4 : List Ty := [(.int .i64), (.sl 58 yn), (.sl 58 yn)]
abbrev Qz5 : Type := List yb × List yb
abbrev qz5 : List Ty := [(.sl 58 yn), (.sl 58 yn)]
abbrev Qz6 : Type := Int × List yd × List y0 × List yd × List y0
abbrev qz6 : List Ty := [(.int .i64), (.sl 3 yh), (.sl 140 yj), (.sl 3 yh), (.sl 140 yj)]
abbrev Qz7 : Type := List yd × List y0 × List yd × List y0
abbrev qz7 : List Ty := [(.sl 3 yh), (.sl 140 yj), (.sl 3 yh), (.sl 140 yj)]
abbrev Qz8 : Type := List ya × List ya × Int
abbrev qz8 : List Ty := [(.sl 146 yk), (.sl 146 yk), (.int .i64)]
abbrev Qz9 : Type := List ya × List ya
abbrev qz9 : List Ty := [(.sl 146 yk), (.sl 146 yk)]
abbrev yzh : Type := List y7 × List y7 × Int
abbrev yzi : List Ty := [(.sl 113 yg), (.sl 113 yg), (.int .i64)]
abbrev yBX : Type := List y7 × List y7
abbrev yBY : List Ty := [(.sl 113 yg), (.sl 113 yg)]
abbrev yzj : Type := Int × List yd × List y0 × List ya × List y7 × List ye × Int × List yd × List y0 × List ya × List y7 × List ye × Int
abbrev yzk : List Ty := [(.int .i64), (.sl 3 yh), (.sl 140 yj), (.sl 146 yk), (.sl 113 yg), (.sl 46 yE), (.int .i64), (.sl 3 yh), (.sl 140 yj), (.sl 146 yk), (.sl 113 yg), (.sl 46 yE), (.int .i64)]
abbrev yBZ : Type := List yd × List y0 × List ya × List y7 × List ye × Int × List yd × List y0 × List ya × List y7 × List ye × Int
abbrev yC0 : List Ty := [(.sl 3 yh), (.sl 140 yj), (.sl 146 yk), (.sl 113 yg), (.sl 46 yE), (.int .i64), (.sl 3 yh), (.sl 140 yj), (.sl 146 yk), (.sl 113 yg), (.sl 46 yE), (.int .i64)]
abbrev yuD : Type := Int × Int × Int
abbrev yuE : List Ty := [(.int .i64), (.int .i64), (.int .i64)]
abbrev ytX : Type := Int × Int × Int × Int × Int × Int × Int × Int × Int × Int
abbrev ytY : List Ty := [(.int .i64), (.int .i64), (.int .i64), (.int .i64), (.int .i64), (.int .i64), (.int .i64), (.int .i64), (.int .i64), (.int .i64)]
abbrev yzl : Type := Bool × List y9 × Int × Int × Int × Int × Int × Int × Int × List y9
abbrev yzm : List Ty := [.bool, (.sl 64 yi), (.int .i64), (.int .i64), (.int .i64), (.int .i64), (.int .i64), (.int .i64), (.int .i64), (.sl 64 yi)]
abbrev yzn : Type := Bool × Int × Int × Int × Int × Int × List y9
abbrev yzo : Type := List y9 × Int × Int × Int × Int × Int
abbrev yzp : List Ty := [(.sl 64 yi), (.int .i64), (.int .i64), (.int .i64), (.int .i64), (.int .i64)]
abbrev ytZ : Type := List y9 × Int × Int × List y9
abbrev yu0 : List Ty := [(.sl 64 yi), (.int .i64), (.int .i64), (.sl 64 yi)]
abbrev yzq : Type := List yb × Int × Int × List y9
abbrev yzr : List Ty := [(.sl 58 yn), (.int .i64), (.int .i64), (.sl 64 yi)]
abbrev yeW : Type := Int × Int × Int × Int × Int
abbrev Vm : List Ty := [(.int .i64), (.int .i64), (.int .i64), (.int .i64), (.int .i64)]
abbrev yzs : Type := List y9 × List y9 × Int × Int
abbrev yzt : List Ty := [(.sl 64 yi), (.sl 64 yi), (.int .i64), (.int .i64)]
abbrev yzu : Type := List y9 × Bool
abbrev yzv : Type := Int × List yb × Int × Int × List yb
abbrev yzw : List Ty := [(.int .i64), (.sl 58 yn), (.int .i64), (.int .i64), (.sl 58 yn)]
abbrev yC1 : Type := Bool × Int × List yb
abbrev yhI : Type := Int × List yb
abbrev yu1 : List Ty := [(.int .i64), (.sl 58 yn)]
abbrev yfH : Type := Int × Int
abbrev yhJ : List Ty := [(.int .i64), (.int .i64)]
abbrev yzx : Type := Int × List yb × Int × Int × List y9 × Int × Int × List yd × List y0
abbrev yzy : List Ty := [(.int .i64), (.sl 58 yn), (.int .i64), (.int .i64), (.sl 64 yi), (.int .i64), (.int .i64), (.sl 3 yh), (.sl 140 yj)]
abbrev yC2 : Type := Int × Bool × List yb × Int × Int × List yd × List y0
abbrev yuF : Type := Int × List yb × Int × Int × List yd × List y0
abbrev yzz : List Ty := [(.int .i64), (.sl 58 yn), (.int .i64), (.int .i64), (.sl 3 yh), (.sl 140 yj)]
abbrev ymI : Type := List yd × List y0 × Int
abbrev ymJ : List Ty := [(.sl 3 yh), (.sl 140 yj), (.int .i64)]
abbrev yzA : Type := Int × List y0 × Int × Int × List yd × List y0
abbrev yzB : List Ty := [(.int .i64), (.sl 140 yj), (.int .i64), (.int .i64), (.sl 3 yh), (.sl 140 yj)]
abbrev yzC : Type := Bool × Int
abbrev yC3 : List Ty := [.bool, (.int .i64)]
abbrev y4f : Type := List yd × List y0
abbrev Wk : List Ty := [(.sl 3 yh), (.sl 140 yj)]
abbrev ymK : Type := List ya × Int × Int × Int
abbrev yu2 : List Ty := [(.sl 146 yk), (.int .i64), (.int .i64), (.int .i64)]
abbrev yeX : Type := List ya × Int
abbrev yeY : List Ty := [(.sl 146 yk), (.int .i64)]
abbrev yzD : Type := List ya × List ya × Int × Int
abbrev yzE : List Ty := [(.sl 146 yk), (.sl 146 yk), (.int .i64), (.int .i64)]
abbrev ymL : Type := List ya × Bool
abbrev yuG : List Ty := [(.sl 146 yk), .bool]
abbrev yzF : Type := List y7 × List y7 × Int × Int
abbrev yzG : List Ty := [(.sl 113 yg), (.sl 113 yg), (.int .i64), (.int .i64)]
abbrev yzH : Type := List y7 × Bool
abbrev yu3 : Type := ByteArray × Int
abbrev yu4 : List Ty := [.str, (.int .i64)]
abbrev yzI : Type := ByteArray × Bool
abbrev yzJ : Type := Int × List ya × Int × Int × List yd
abbrev yzK : List Ty := [(.int .i64), (.sl 146 yk), (.int .i64), (.int .i64), (.sl 3 yh)]
abbrev yC4 : Type := ByteArray × Int × Int × Bool × ByteArray × Int × Int × Bool
abbrev yC5 : List Ty := [.str, (.int .i64), (.int .i64), .bool, .str, (.int .i64), (.int .i64), .bool]
abbrev yzL : Type := Bool × ByteArray × Int × Int × Bool
abbrev yzM : List Ty := [.bool, .str, (.int .i64), (.int .i64), .bool]
abbrev yzN : Type := List ye × Int × Int × ByteArray × Int × Int × Bool
abbrev yzO : List Ty := [(.sl 46 yE), (.int .i64), (.int .i64), .str, (.int .i64), (.int .i64), .bool]
abbrev yzP : Type := Int × ByteArray × Int × Int × Bool
abbrev yC6 : List Ty := [(.int .i64), .str, (.int .i64), (.int .i64), .bool]
abbrev yC7 : Type := ByteArray × Int × Int × Bool
abbrev yji : List Ty := [.str, (.int .i64), (.int .i64), .bool]
abbrev yu5 : Type := List ye × ByteArray × Int × Int × Bool
abbrev yu6 : List Ty := [(.sl 46 yE), .str, (.int .i64), (.int .i64), .bool]
abbrev yzQ : Type := List ye × Int × Int × List yd × List y0 × List ya × List y7 × List ye × Int
abbrev yzR : List Ty := [(.sl 46 yE), (.int .i64), (.int .i64), (.sl 3 yh), (.sl 140 yj), (.sl 146 yk), (.sl 113 yg), (.sl 46 yE), (.int .i64)]
abbrev yfI : Type := Bool × List yd × List y0 × List ya × List y7 × List ye × Int
abbrev ymM : List Ty := [.bool, (.sl 3 yh), (.sl 140 yj), (.sl 146 yk), (.sl 113 yg), (.sl 46 yE), (.int .i64)]
abbrev y6q : Type := List yd × List y0 × List ya × List y7 × List ye × Int
abbrev YK : List Ty := [(.sl 3 yh), (.sl 140 yj), (.sl 146 yk), (.sl 113 yg), (.sl 46 yE), (.int .i64)]
abbrev yzS : Type := Int × List y7 × Int × Int
abbrev yzT : List Ty := [(.int .i64), (.sl 113 yg), (.int .i64), (.int .i64)]
abbrev yzU : Type := List y0 × Int × Int × List y9
abbrev yzV : List Ty := [(.sl 140 yj), (.int .i64), (.int .i64), (.sl 64 yi)]
abbrev ymf : Type := List y7 × Int × Int
abbrev ymg : List Ty := [(.sl 113 yg), (.int .i64), (.int .i64)]
abbrev yzW : Type := Int × Bool
abbrev yzX : List Ty := [(.int .i64), .bool]
abbrev yzY : Type := Int × Int × Int × List yd × List y0 × List ya × List y7 × List ye × Int × List ybs × List y9
abbrev yzZ : List Ty := [(.int .i64), (.int .i64), (.int .i64), (.sl 3 yh), (.sl 140 yj), (.sl 146 yk), (.sl 113 yg), (.sl 46 yE), (.int .i64), (.sl 4 y4e), (.sl 64 yi)]
abbrev yuH : Type := Bool × Int × List yd × List y0 × List ya × List y7 × List ye × Int
abbrev yeZ : Type := Int × List yd × List y0 × List ya × List y7 × List ye × Int
abbrev ymh : List Ty := [(.int .i64), (.sl 3 yh), (.sl 140 yj), (.sl 146 yk), (.sl 113 yg), (.sl 46 yE), (.int .i64)]
abbrev yA0 : Type := List ya × Int × Int × List yd × List y0 × List ya × List y7 × List ye × Int
abbrev yA1 : List Ty := [(.sl 146 yk), (.int .i64), (.int .i64), (.sl 3 yh), (.sl 140 yj), (.sl 146 yk), (.sl 113 yg), (.sl 46 yE), (.int .i64)]
abbrev yjj : Type := List yb × Int × Int
abbrev yu7 : List Ty := [(.sl 58 yn), (.int .i64), (.int .i64)]
abbrev ymN : Type := List yb × Int × Int × List yb
abbrev yA2 : List Ty := [(.sl 58 yn), (.int .i64), (.int .i64), (.sl 58 yn)]
abbrev ymO : Type := List y0 × Int × Int × List yd
abbrev yA3 : List Ty := [(.sl 140 yj), (.int .i64), (.int .i64), (.sl 3 yh)]
abbrev ymP : Type := List y0 × Int × Int × List yd × List y0
abbrev yA4 : List Ty := [(.sl 140 yj), (.int .i64), (.int .i64), (.sl 3 yh), (.sl 140 yj)]
abbrev yC8 : Type := ByteArray × Int × Int × Bool × ByteArray
abbrev yC9 : List Ty := [.str, (.int .i64), (.int .i64), .bool, .str]
abbrev yCa : Type := Bool × ByteArray
abbrev yCb : List Ty := [.bool, .str]
abbrev yA5 : Type := List ye × Int × Int × ByteArray
abbrev yA6 : List Ty := [(.sl 46 yE), (.int .i64), (.int .i64), .str]
abbrev yA7 : Type := Int × ByteArray
abbrev yCc : List Ty := [(.int .i64), .str]
abbrev yCd : Type := List ye × ByteArray
abbrev yCe : List Ty := [(.sl 46 yE), .str]
abbrev yjk : Type := List yd × List y0 × List ya × List y7 × List ye × Int × ByteArray
abbrev yjl : List Ty := [(.sl 3 yh), (.sl 140 yj), (.sl 146 yk), (.sl 113 yg), (.sl 46 yE), (.int .i64), .str]
abbrev yu8 : Type := List ya × Int × Int
abbrev yu9 : List Ty := [(.sl 146 yk), (.int .i64), (.int .i64)]
abbrev yA8 : Type := Bool × List ye × Int × Int × ByteArray × Int × Int × Bool × List ye
abbrev yA9 : List Ty := [.bool, (.sl 46 yE), (.int .i64), (.int .i64), .str, (.int .i64), (.int .i64), .bool, (.sl 46 yE)]
abbrev yCf : Type := Bool × ByteArray × Int × Int × Bool × List ye
abbrev yAa : Type := List yd × List y0 × List ya × List y7 × List ye × Int × List yd × List y0 × List ya × List y7 × List ye × Int × Bool
abbrev yAb : List Ty := [(.sl 3 yh), (.sl 140 yj), (.sl 146 yk), (.sl 113 yg), (.sl 46 yE), (.int .i64), (.sl 3 yh), (.sl 140 yj), (.sl 146 yk), (.sl 113 yg), (.sl 46 yE), (.int .i64), .bool]
abbrev y4Y : Type := List yd × List y0 × List ya × List y7 × List ye × Int × Int
abbrev y4Z : List Ty := [(.sl 3 yh), (.sl 140 yj), (.sl 146 yk), (.sl 113 yg), (.sl 46 yE), (.int .i64), (.int .i64)]
abbrev yuI : Type := List yd × List y0 × List ya × List y7 × List ye × Int × ByteArray × ByteArray × Bool
abbrev yuJ : List Ty := [(.sl 3 yh), (.sl 140 yj), (.sl 146 yk), (.sl 113 yg), (.sl 46 yE), (.int .i64), .str, .str, .bool]
abbrev ymi : Type := List y7 × Int
abbrev ymj : List Ty := [(.sl 113 yg), (.int .i64)]
abbrev yAc : Type := List y7 × Int × Bool
abbrev yAd : List Ty := [(.sl 113 yg), (.int .i64), .bool]
abbrev yCg : Type := List yd × List y0 × List ya × List y7 × List ye × Int × ByteArray × Int × Bool
abbrev yCh : List Ty := [(.sl 3 yh), (.sl 140 yj), (.sl 146 yk), (.sl 113 yg), (.sl 46 yE), (.int .i64), .str, (.int .i64), .bool]
abbrev yAe : Type := Int × Int × Int × List yd × List y0
abbrev yAf : List Ty := [(.int .i64), (.int .i64), (.int .i64), (.sl 3 yh), (.sl 140 yj)]
abbrev yua : Type := List yd × List y0 × Int × Int
abbrev yub : List Ty := [(.sl 3 yh), (.sl 140 yj), (.int .i64), (.int .i64)]
abbrev yuK : Type := List yb × Int × Int × Int × Int × Int
abbrev yuL : List Ty := [(.sl 58 yn), (.int .i64), (.int .i64), (.int .i64), (.int .i64), (.int .i64)]
abbrev yAg : Type := Int × Int × List y9 × Int × Int × Int × Int × Int × Int × Int
abbrev yAh : List Ty := [(.int .i64), (.int .i64), (.sl 64 yi), (.int .i64), (.int .i64), (.int .i64), (.int .i64), (.int .i64), (.int .i64), (.int .i64)]
abbrev yuc : Type := Bool × Int × Int × Int × Int × Int
abbrev yAi : Type := List y9 × Int × Int
abbrev yAj : List Ty := [(.sl 64 yi), (.int .i64), (.int .i64)]
abbrev ycY : Type := Int × Int × Int × Int × Int × Bool
abbrev ycZ : List Ty := [(.int .i64), (.int .i64), (.int .i64), (.int .i64), (.int .i64), .bool]
abbrev yAk : Type := List yb × Bool
abbrev yAl : List Ty := [(.sl 58 yn), .bool]
abbrev yCi : Type := List yd × List y0 × Int × Int × List yd × List y0
abbrev yCj : List Ty := [(.sl 3 yh), (.sl 140 yj), (.int .i64), (.int .i64), (.sl 3 yh), (.sl 140 yj)]
abbrev y9N : Type := Int × List yd × List y0
abbrev yf0 : List Ty := [(.int .i64), (.sl 3 yh), (.sl 140 yj)]
abbrev yAm : Type := List yd × List y0 × Int × Int × Int × Int × Int
abbrev yAn : List Ty := [(.sl 3 yh), (.sl 140 yj), (.int .i64), (.int .i64), (.int .i64), (.int .i64), (.int .i64)]
abbrev yAo : Type := List yd × List y0 × Bool
abbrev yAp : List Ty := [(.sl 3 yh), (.sl 140 yj), .bool]
abbrev yud : Type := Int × Int × Int × List yb × Int × Int × Int × Int × Int
abbrev yue : List Ty := [(.int .i64), (.int .i64), (.int .i64), (.sl 58 yn), (.int .i64), (.int .i64), (.int .i64), (.int .i64), (.int .i64)]
abbrev ymQ : Type := List yd × List y0 × List ya × List y7 × List ye × Int × Int × Int × Int × Int × Int
abbrev ymR : List Ty := [(.sl 3 yh), (.sl 140 yj), (.sl 146 yk), (.sl 113 yg), (.sl 46 yE), (.int .i64), (.int .i64), (.int .i64), (.int .i64), (.int .i64), (.int .i64)]
abbrev yuM : Type := List yd × List y0 × List ya × List y7 × List ye × Int × ByteArray × Int × Int
abbrev yuN : List Ty := [(.sl 3 yh), (.sl 140 yj), (.sl 146 yk), (.sl 113 yg), (.sl 46 yE), (.int .i64), .str, (.int .i64), (.int .i64)]
abbrev yAq : Type := Int × Int × Int × List y9 × List y9
abbrev yAr : List Ty := [(.int .i64), (.int .i64), (.int .i64), (.sl 64 yi), (.sl 64 yi)]
abbrev yAs : Type := List yd × Int × Int × Int
abbrev yAt : List Ty := [(.sl 3 yh), (.int .i64), (.int .i64), (.int .i64)]
abbrev yuO : Type := List yd × Int
abbrev yuP : List Ty := [(.sl 3 yh), (.int .i64)]
abbrev yAu : Type := List yd × Bool × Int × Int × Int × Int × Int × Int × Int × Int × Int × Int × Int × Int × List y9
abbrev yAv : List Ty := [(.sl 3 yh), .bool, (.int .i64), (.int .i64), (.int .i64), (.int .i64), (.int .i64), (.int .i64), (.int .i64), (.int .i64), (.int .i64), (.int .i64), (.int .i64), (.int .i64), (.sl 64 yi)]
abbrev yAw : Type := Bool × Int × Int × Int × Int × Int × Int × Int × Int × Int × Int
abbrev ymS : Type := List yd × List y0 × Int × List yd
abbrev ymT : List Ty := [(.sl 3 yh), (.sl 140 yj), (.int .i64), (.sl 3 yh)]
abbrev ymU : Type := List ya × Int × Int × Int × List yd
abbrev ymV : List Ty := [(.sl 146 yk), (.int .i64), (.int .i64), (.int .i64), (.sl 3 yh)]
abbrev yfJ : Type := List yd × List y0 × List ya × Int × Int
abbrev yfK : List Ty := [(.sl 3 yh), (.sl 140 yj), (.sl 146 yk), (.int .i64), (.int .i64)]
abbrev yfL : Type := List yd × List y0 × List ya × List y7 × List ye × Int × Int × Int
abbrev yfM : List Ty := [(.sl 3 yh), (.sl 140 yj), (.sl 146 yk), (.sl 113 yg), (.sl 46 yE), (.int .i64), (.int .i64), (.int .i64)]
abbrev y2W : Type := List yd × List y0 × List ya × List y7 × List ye × Int × ByteArray × Int
abbrev y2X : List Ty := [(.sl 3 yh), (.sl 140 yj), (.sl 146 yk), (.sl 113 yg), (.sl 46 yE), (.int .i64), .str, (.int .i64)]
abbrev qR : Type := List Vn × Int × Int
abbrev Z5 : List Ty := [(.sl 5 Yt), (.int .i64), (.int .i64)]
abbrev ymW : Type := List Vn × Int
abbrev yuQ : List Ty := [(.sl 5 Yt), (.int .i64)]
abbrev y50 : Type := Int × List Vn × Int × Int
abbrev yan : List Ty := [(.int .i64), (.sl 5 Yt), (.int .i64), (.int .i64)]
abbrev y8R : Type := List Vn × Int × Int × Int
abbrev y8S : List Ty := [(.sl 5 Yt), (.int .i64), (.int .i64), (.int .i64)]
abbrev yuR : Type := List Vn × Int × Int × List yd
abbrev yuS : List Ty := [(.sl 5 Yt), (.int .i64), (.int .i64), (.sl 3 yh)]
abbrev yuT : Type := List Vn × Int × Int × List Vv
abbrev yuU : List Ty := [(.sl 5 Yt), (.int .i64), (.int .i64), (.sl 9 QC)]
abbrev yjm : Type := ByteArray × List Vn × Int × Int
abbrev yjn : List Ty := [.str, (.sl 5 Yt), (.int .i64), (.int .i64)]
abbrev yuV : Type := Int × ByteArray × ByteArray × Int × Int × List Vn × Int × Int
abbrev yuW : List Ty := [(.int .i64), .str, .str, (.int .i64), (.int .i64), (.sl 5 Yt), (.int .i64), (.int .i64)]
abbrev ydM : Type := Int × List yd × List y0 × List yd
abbrev ymX : List Ty := [(.int .i64), (.sl 3 yh), (.sl 140 yj), (.sl 3 yh)]
abbrev yfN : Type := List y9 × Int × List y9
abbrev yfO : List Ty := [(.sl 64 yi), (.int .i64), (.sl 64 yi)]
abbrev ymY : Type := List y9 × Bool × Int × Int × Int × Int × Int × Int × List y9
abbrev ymZ : List Ty := [(.sl 64 yi), .bool, (.int .i64), (.int .i64), (.int .i64), (.int .i64), (.int .i64), (.int .i64), (.sl 64 yi)]
abbrev yn0 : Type := Int × List yb × List y9
abbrev yn1 : List Ty := [(.int .i64), (.sl 58 yn), (.sl 64 yi)]
abbrev yn2 : Type := Int × List yd × List y0 × List y9
abbrev yn3 : List Ty := [(.int .i64), (.sl 3 yh), (.sl 140 yj), (.sl 64 yi)]
abbrev yfP : Type := List y9 × Int
abbrev yfQ : List Ty := [(.sl 64 yi), (.int .i64)]
abbrev yn4 : Type := Int × Int × List yb
abbrev yn5 : List Ty := [(.int .i64), (.int .i64), (.sl 58 yn)]
abbrev yuX : Type := Bool × List yb
abbrev yn6 : Type := Int × Int × Int × List yd × List y0 × List yb
abbrev yn7 : List Ty := [(.int .i64), (.int .i64), (.int .i64), (.sl 3 yh), (.sl 140 yj), (.sl 58 yn)]
abbrev yuY : Type := Int × Bool × Int × List yd × List y0 × List yb
abbrev yjo : Type := Int × Int × List yd × List y0 × List yb
abbrev yn8 : List Ty := [(.int .i64), (.int .i64), (.sl 3 yh), (.sl 140 yj), (.sl 58 yn)]
abbrev yuZ : Type := Bool × List yd × List y0
abbrev yn9 : Type := List ya × Int × Int × List yd
abbrev yna : List Ty := [(.sl 146 yk), (.int .i64), (.int .i64), (.sl 3 yh)]
abbrev ynb : Type := Int × Int × List yd × List y0 × List ya × List y7 × List ye × Int × ByteArray × Int × Int × Bool
abbrev ync : List Ty := [(.int .i64), (.int .i64), (.sl 3 yh), (.sl 140 yj), (.sl 146 yk), (.sl 113 yg), (.sl 46 yE), (.int .i64), .str, (.int .i64), (.int .i64), .bool]
abbrev yjp : Type := Int × Int × Int × List yd × List y0 × List ya × List y7 × List ye × Int × List y9
abbrev ynd : List Ty := [(.int .i64), (.int .i64), (.int .i64), (.sl 3 yh), (.sl 140 yj), (.sl 146 yk), (.sl 113 yg), (.sl 46 yE), (.int .i64), (.sl 64 yi)]
abbrev yv0 : Type := Bool × Int × Int × List yd × List y0 × List ya × List y7 × List ye × Int × List y9
abbrev yao : Type := Int × Int × List yd × List y0 × List ya × List y7 × List ye × Int × List y9
abbrev ycK : List Ty := [(.int .i64), (.int .i64), (.sl 3 yh), (.sl 140 yj), (.sl 146 yk), (.sl 113 yg), (.sl 46 yE), (.int .i64), (.sl 64 yi)]
abbrev yne : Type := ByteArray × Int × List yd × List y0 × List ya × List y7 × List ye × Int
abbrev ynf : List Ty := [.str, (.int .i64), (.sl 3 yh), (.sl 140 yj), (.sl 146 yk), (.sl 113 yg), (.sl 46 yE), (.int .i64)]
abbrev yng : Type := List ya × Int × Int × Bool × Int × List ya
abbrev ynh : List Ty := [(.sl 146 yk), (.int .i64), (.int .i64), .bool, (.int .i64), (.sl 146 yk)]
abbrev yv1 : Type := List ya × Int × Int × Bool × List ya
abbrev yjq : Type := Int × ByteArray × Int × Int × Bool × List ye
abbrev yni : List Ty := [(.int .i64), .str, (.int .i64), (.int .i64), .bool, (.sl 46 yE)]
abbrev ynj : Type := List y7 × Int × Int × List y7
abbrev ynk : List Ty := [(.sl 113 yg), (.int .i64), (.int .i64), (.sl 113 yg)]
abbrev yv2 : Type := Int × Bool × List y7
abbrev ynl : Type := Int × Int × Int × Int × List yd × List y0
abbrev ynm : List Ty := [(.int .i64), (.int .i64), (.int .i64), (.int .i64), (.sl 3 yh), (.sl 140 yj)]
abbrev ynn : Type := List y9 × Int × Int × Int × Int × Int × Int × Int × Int
abbrev yno : List Ty := [(.sl 64 yi), (.int .i64), (.int .i64), (.int .i64), (.int .i64), (.int .i64), (.int .i64), (.int .i64), (.int .i64)]
abbrev yv3 : Type := List yd × List y0 × Int × List yd × List y0
abbrev yv4 : List Ty := [(.sl 3 yh), (.sl 140 yj), (.int .i64), (.sl 3 yh), (.sl 140 yj)]
abbrev yv5 : Type := List yd × List y0 × List ya × List y7 × List ye × Int × Int × Int × Int × Int × Int × Bool
abbrev yv6 : List Ty := [(.sl 3 yh), (.sl 140 yj), (.sl 146 yk), (.sl 113 yg), (.sl 46 yE), (.int .i64), (.int .i64), (.int .i64), (.int .i64), (.int .i64), (.int .i64), .bool]
abbrev ynp : Type := List ya × Int × List yd
abbrev ynq : List Ty := [(.sl 146 yk), (.int .i64), (.sl 3 yh)]
abbrev ynr : Type := Int × Int × List y9 × List y9
abbrev yns : List Ty := [(.int .i64), (.int .i64), (.sl 64 yi), (.sl 64 yi)]
abbrev ynt : Type := List yd × Int × Int
abbrev ynu : List Ty := [(.sl 3 yh), (.int .i64), (.int .i64)]
abbrev ynv : Type := List yd × Bool × Int × Int × Int × Int × Int × Int × Int × Int × Int × Int × Int × List y9
abbrev ynw : List Ty := [(.sl 3 yh), .bool, (.int .i64), (.int .i64), (.int .i64), (.int .i64), (.int .i64), (.int .i64), (.int .i64), (.int .i64), (.int .i64), (.int .i64), (.int .i64), (.sl 64 yi)]
abbrev ydN : Type := Int × Int × Bool × Int × List yd × List y0 × List ya × List y7 × List ye × Int × Int × Int × List yd × List y0 × List ya × List y7 × List ye
abbrev ynx : List Ty := [(.int .i64), (.int .i64), .bool, (.int .i64), (.sl 3 yh), (.sl 140 yj), (.sl 146 yk), (.sl 113 yg), (.sl 46 yE), (.int .i64), (.int .i64), (.int .i64), (.sl 3 yh), (.sl 140 yj), (.sl 146 yk), (.sl 113 yg), (.sl 46 yE)]
abbrev ydO : Type := Int × Int × Bool × Int × List yd × List y0 × List ya × List y7 × List ye × Int × Int × List yd × List y0 × List ya × Int × List y7 × List ye
abbrev yny : List Ty := [(.int .i64), (.int .i64), .bool, (.int .i64), (.sl 3 yh), (.sl 140 yj), (.sl 146 yk), (.sl 113 yg), (.sl 46 yE), (.int .i64), (.int .i64), (.sl 3 yh), (.sl 140 yj), (.sl 146 yk), (.int .i64), (.sl 113 yg), (.sl 46 yE)]
abbrev yv7 : Type := Int × Int × Bool × List yd × List y0 × List ya × List y7 × List ye × Int × Int × Int × List yd × List y0 × List ya × List y7 × List ye
abbrev yv8 : Type := Int × Int × Bool × List yd × List y0 × List ya × List y7 × List ye × Int × Int × List yd × List y0 × List ya × Int × List y7 × List ye
abbrev ynz : Type := Int × ByteArray × ByteArray × Int × Int
abbrev yap : List Ty := [(.int .i64), .str, .str, (.int .i64), (.int .i64)]
abbrev yfR : Type := List yd × List y0 × List ya × List y7 × List ye × Int × Bool
abbrev yfS : List Ty := [(.sl 3 yh), (.sl 140 yj), (.sl 146 yk), (.sl 113 yg), (.sl 46 yE), (.int .i64), .bool]
abbrev ynA : Type := Int × Int × Int × Int × Int × Int × Int × List y9
abbrev ynB : List Ty := [(.int .i64), (.int .i64), (.int .i64), (.int .i64), (.int .i64), (.int .i64), (.int .i64), (.sl 64 yi)]
abbrev yv9 : Type := List yd × List y0 × List ya × Int × Int × Int × Int × Int × Int
abbrev yva : List Ty := [(.sl 3 yh), (.sl 140 yj), (.sl 146 yk), (.int .i64), (.int .i64), (.int .i64), (.int .i64), (.int .i64), (.int .i64)]
abbrev ynC : Type := Int × List yd × List y0 × List ya × List y7 × List ye × Int × Int × Int × Int × Int × Int
abbrev ynD : List Ty := [(.int .i64), (.sl 3 yh), (.sl 140 yj), (.sl 146 yk), (.sl 113 yg), (.sl 46 yE), (.int .i64), (.int .i64), (.int .i64), (.int .i64), (.int .i64), (.int .i64)]
abbrev yjr : Type := Int × Int × List yd × List y0 × List ya × List y7 × List ye × Int
abbrev ynE : List Ty := [(.int .i64), (.int .i64), (.sl 3 yh), (.sl 140 yj), (.sl 146 yk), (.sl 113 yg), (.sl 46 yE), (.int .i64)]
abbrev yvb : Type := List yd × List y0 × List ya × List y7 × List ye × Int × Int × Int × Int × Int × Int × Int
abbrev yvc : List Ty := [(.sl 3 yh), (.sl 140 yj), (.sl 146 yk), (.sl 113 yg), (.sl 46 yE), (.int .i64), (.int .i64), (.int .i64), (.int .i64), (.int .i64), (.int .i64), (.int .i64)]
abbrev yvd : Type := Int × Bool × List yd × List y0 × List ya × List y7 × List ye × Int
abbrev yjs : Type := Int × List yd × List y0 × List ya × List y7 × List ye × Int × List y9
abbrev ynF : List Ty := [(.int .i64), (.sl 3 yh), (.sl 140 yj), (.sl 146 yk), (.sl 113 yg), (.sl 46 yE), (.int .i64), (.sl 64 yi)]
abbrev ynG : Type := List ya × Int × Int × Int × List ya
abbrev ynH : List Ty := [(.sl 146 yk), (.int .i64), (.int .i64), (.int .i64), (.sl 146 yk)]
abbrev ynI : Type := List yd × List y0 × List ya × List y7 × List ye × Int × Int × ByteArray × ByteArray × Int × Int
abbrev ynJ : List Ty := [(.sl 3 yh), (.sl 140 yj), (.sl 146 yk), (.sl 113 yg), (.sl 46 yE), (.int .i64), (.int .i64), .str, .str, (.int .i64), (.int .i64)]
abbrev ydP : Type := Int × List Vn × Int × Int × Int × Int × List yd × List y0 × List ya × List y7 × List ye
abbrev ynK : List Ty := [(.int .i64), (.sl 5 Yt), (.int .i64), (.int .i64), (.int .i64), (.int .i64), (.sl 3 yh), (.sl 140 yj), (.sl 146 yk), (.sl 113 yg), (.sl 46 yE)]
abbrev ydQ : Type := Int × List Vn × Int × Int × Int × List yd × List y0 × List ya × Int × List y7 × List ye
abbrev ynL : List Ty := [(.int .i64), (.sl 5 Yt), (.int .i64), (.int .i64), (.int .i64), (.sl 3 yh), (.sl 140 yj), (.sl 146 yk), (.int .i64), (.sl 113 yg), (.sl 46 yE)]
abbrev yve : Type := List Vn × Int × Int × Int × Int × List yd × List y0 × List ya × List y7 × List ye
abbrev yvf : Type := List Vn × Int × Int × Int × List yd × List y0 × List ya × Int × List y7 × List ye
abbrev ynM : Type := List yd × List y0 × List ya × List y7 × List ye × Int × List Vn × Int × Int
abbrev ynN : List Ty := [(.sl 3 yh), (.sl 140 yj), (.sl 146 yk), (.sl 113 yg), (.sl 46 yE), (.int .i64), (.sl 5 Yt), (.int .i64), (.int .i64)]
abbrev yjt : Type := Int × Int × Int × Int × Int × List Vn × Int × Int
abbrev yju : List Ty := [(.int .i64), (.int .i64), (.int .i64), (.int .i64), (.int .i64), (.sl 5 Yt), (.int .i64), (.int .i64)]
abbrev ynO : Type := Int × List Vn × Int × Int × List yd × List y0
abbrev ynP : List Ty := [(.int .i64), (.sl 5 Yt), (.int .i64), (.int .i64), (.sl 3 yh), (.sl 140 yj)]
abbrev yvg : Type := List Vn × Int × Int × List yd × List y0
abbrev ynQ : Type := List yd × List y0 × List Vn × Int × Int
abbrev ynR : List Ty := [(.sl 3 yh), (.sl 140 yj), (.sl 5 Yt), (.int .i64), (.int .i64)]
abbrev ydR : Type := Int × List Vn × Int × Int × List yb
abbrev ynS : List Ty := [(.int .i64), (.sl 5 Yt), (.int .i64), (.int .i64), (.sl 58 yn)]
abbrev yvh : Type := List Vn × Int × Int × List yb
abbrev ynT : Type := List yb × List Vn × Int × Int
abbrev ynU : List Ty := [(.sl 58 yn), (.sl 5 Yt), (.int .i64), (.int .i64)]
abbrev ynV : Type := Int × List Vn × Int × Int × List y9
abbrev ynW : List Ty := [(.int .i64), (.sl 5 Yt), (.int .i64), (.int .i64), (.sl 64 yi)]
abbrev yvi : Type := List Vn × Int × Int × List y9
abbrev ynX : Type := List y9 × List Vn × Int × Int
abbrev ynY : List Ty := [(.sl 64 yi), (.sl 5 Yt), (.int .i64), (.int .i64)]
abbrev yvj : Type := Bool × List Vn × Int × Int
abbrev yvk : List Ty := [.bool, (.sl 5 Yt), (.int .i64), (.int .i64)]
abbrev yfT : Type := Int × List Vn × Int × Int × List ya
abbrev yfU : List Ty := [(.int .i64), (.sl 5 Yt), (.int .i64), (.int .i64), (.sl 146 yk)]
abbrev ynZ : Type := List Vn × Int × Int × List ya
abbrev yo0 : Type := List ya × List Vn × Int × Int
abbrev yo1 : List Ty := [(.sl 146 yk), (.sl 5 Yt), (.int .i64), (.int .i64)]
abbrev yo2 : Type := Int × List Vn × Int × Int × List y7
abbrev yo3 : List Ty := [(.int .i64), (.sl 5 Yt), (.int .i64), (.int .i64), (.sl 113 yg)]
abbrev yvl : Type := List Vn × Int × Int × List y7
abbrev yo4 : Type := List y7 × List Vn × Int × Int
abbrev yo5 : List Ty := [(.sl 113 yg), (.sl 5 Yt), (.int .i64), (.int .i64)]
abbrev yvm : Type := List Vn × Int × Int × List yd × List y0 × List ya × List y7 × List ye × Int
abbrev yvn : List Ty := [(.sl 5 Yt), (.int .i64), (.int .i64), (.sl 3 yh), (.sl 140 yj), (.sl 146 yk), (.sl 113 yg), (.sl 46 yE), (.int .i64)]
abbrev ydS : Type := Int × Int × Int × List yd × List y0 × List ya × List y7 × List ye × Int × Int × Int × List yd × List y0 × List ya × List y7 × List ye
abbrev yo6 : List Ty := [(.int .i64), (.int .i64), (.int .i64), (.sl 3 yh), (.sl 140 yj), (.sl 146 yk), (.sl 113 yg), (.sl 46 yE), (.int .i64), (.int .i64), (.int .i64), (.sl 3 yh), (.sl 140 yj), (.sl 146 yk), (.sl 113 yg), (.sl 46 yE)]
abbrev ydT : Type := Int × Int × Int × List yd × List y0 × List ya × List y7 × List ye × Int × Int × List yd × List y0 × List ya × List y7 × Int × List ye
abbrev yo7 : List Ty := [(.int .i64), (.int .i64), (.int .i64), (.sl 3 yh), (.sl 140 yj), (.sl 146 yk), (.sl 113 yg), (.sl 46 yE), (.int .i64), (.int .i64), (.sl 3 yh), (.sl 140 yj), (.sl 146 yk), (.sl 113 yg), (.int .i64), (.sl 46 yE)]
abbrev yvo : Type := Int × Int × Int × List yd × List y0 × List ya × List y7 × List ye × Int × Int × List yd × List y0 × List ya × List y7 × Int × List yd × List y0 × List ya × List y7 × List ye × List ye
abbrev yvp : Type := Int × Int × List yd × List y0 × List ya × List y7 × List ye × Int × Int × Int × List yd × List y0 × List ya × List y7 × List ye
abbrev yvq : Type := Int × Int × List yd × List y0 × List ya × List y7 × List ye × Int × Int × List yd × List y0 × List ya × List y7 × Int × List ye
def yo8 : List (Nat × TI) := [
 (3, .c (.int .i64) 8),
 (4, .c (.bool) 1),
 (5, .c (.int .u8) 1),
 (9, .c (.str) 16),
 (22, .c (.sl 5 Yt) 24),
 (24, .c (.sl 3 yh) 24),
 (25, .c (.sl 140 yj) 24),
 (27, .s [(0, 24), (1, 25)] [(.sl 3 yh), (.sl 140 yj)] 48),
 (28, .c (.sl 146 yk) 24),
 (29, .c (.sl 113 yg) 24),
 (30, .c (.sl 46 yE) 24),
 (32, .s [(0, 27), (2, 28), (3, 29), (4, 30), (5, 3)] [(.sl 3 yh), (.sl 140 yj), (.sl 146 yk), (.sl 113 yg), (.sl 46 yE), (.int .i64)] 128),
 (41, .s [(0, 3), (1, 9), (2, 9), (3, 3), (4, 3)] [(.int .i64), .str, .str, (.int .i64), (.int .i64)] 56),
 (46, .s [(0, 9), (1, 3), (2, 3), (3, 4)] [.str, (.int .i64), (.int .i64), .bool] 40),
 (58, .c (.sl 64 yi) 24),
 (64, .s [(0, 3), (1, 3), (2, 3), (3, 3), (4, 3)] [(.int .i64), (.int .i64), (.int .i64), (.int .i64), (.int .i64)] 40),
 (113, .s [(0, 3), (1, 4), (2, 3)] [(.int .i64), .bool, (.int .i64)] 24),
 (138, .c (.sl 58 yn) 24),
 (140, .s [(0, 138)] [(.sl 58 yn)] 24),
 (146, .s [(0, 3), (1, 3)] [(.int .i64), (.int .i64)] 16),
 (218, .s [(0, 22), (1, 3), (2, 3)] [(.sl 5 Yt), (.int .i64), (.int .i64)] 40),
 (221, .c (.sl 9 QC) 24),
 (235, .c (.sl 4 y4e) 24)]
def sg9 : Sig := ⟨[.v false [(.sl 5 Yt)] [false]], [⟨false, [.bool], [false]⟩], false, false⟩
def yAx : Sig := ⟨[.v false [(.sl 3 yh)] [false], .v false [(.sl 3 yh)] [false]], [⟨false, [.bool], [false]⟩], false, false⟩
def yo9 : Sig := ⟨[.v false [(.sl 64 yi)] [false], .v false [(.sl 64 yi)] [false]], [⟨false, [.bool], [false]⟩], false, false⟩
def yoa : Sig := ⟨[.v true [(.sl 58 yn)] [false], .v true [(.sl 58 yn)] [false]], [⟨false, [.bool], [false]⟩], false, false⟩
def yob : Sig := ⟨[.v true Wk [false, false], .v true Wk [false, false]], [⟨false, [.bool], [false]⟩], false, false⟩
def yoc : Sig := ⟨[.v false [(.sl 146 yk)] [false], .v false [(.sl 146 yk)] [false]], [⟨false, [.bool], [false]⟩], false, false⟩
def yod : Sig := ⟨[.v false [(.sl 113 yg)] [false], .v false [(.sl 113 yg)] [false]], [⟨false, [.bool], [false]⟩], false, false⟩
def yAy : Sig := ⟨[.v true YK (nf 6), .v true YK (nf 6)], [⟨false, [.bool], [false]⟩], false, false⟩
def yAz : Sig := ⟨[.v false [(.int .i64)] [false], .v false [(.int .i64)] [false], .v false [(.int .i64)] [false]], [⟨false, [.bool], [false]⟩], false, false⟩
def yoe : Sig := ⟨[.v true Vm (nf 5), .v true Vm (nf 5)], [⟨false, [.bool], [false]⟩], false, false⟩
def yof : Sig := ⟨[.v true Vm (nf 5), .v true Vm (nf 5)], [⟨false, [.bool], [false]⟩], false, false⟩
def yog : Sig := ⟨[.v false [(.sl 64 yi)] [false], .v true Vm (nf 5)], [⟨false, [(.sl 64 yi)], [true]⟩], false, false⟩
def yoh : Sig := ⟨[.v false [(.sl 64 yi)] [false]], [⟨false, [(.sl 64 yi)], [true]⟩], false, false⟩
def yoi : Sig := ⟨[.v false [(.sl 64 yi)] [false], .v false [(.sl 64 yi)] [false]], [⟨false, [(.sl 64 yi)], [true]⟩], false, false⟩
def yoj : Sig := ⟨[.v false [(.sl 64 yi)] [false]], [⟨false, [(.sl 64 yi)], [true]⟩], false, false⟩
def yok : Sig := ⟨[.v true [(.sl 58 yn)] [false]], [⟨false, [(.sl 64 yi)], [true]⟩], false, false⟩
def yol : Sig := ⟨[.v true Vm (nf 5)], [⟨false, [.bool], [false]⟩], false, false⟩
def yom : Sig := ⟨[.v false [(.sl 64 yi)] [false]], [⟨false, [.bool], [false]⟩], false, false⟩
def yon : Sig := ⟨[.v true [(.sl 58 yn)] [false]], [⟨false, [.bool], [false]⟩], false, false⟩
def yoo : Sig := ⟨[.v false [(.int .i64)] [false], .v false [(.int .i64)] [false]], [⟨false, [(.int .i64)], [false]⟩], false, false⟩
def yop : Sig := ⟨[.v true Wk [false, false], .v false [(.int .i64)] [false]], [⟨false, [.bool], [false]⟩], false, false⟩
def yoq : Sig := ⟨[.v true Wk [false, false]], [⟨false, [.bool], [false]⟩], false, false⟩
def yor : Sig := ⟨[.v true yhJ [false, false], .p none [(.int .i64)] [false]], [⟨false, [.bool], [false]⟩], false, false⟩
def ybt : Sig := ⟨[.v false [(.sl 146 yk)] [false], .p (some 319) [(.int .i64)] [false]], [⟨false, [(.int .i64)], [false]⟩], false, false⟩
def yos : Sig := ⟨[.v false [(.sl 146 yk)] [false], .v false [(.int .i64)] [false]], [⟨false, [(.int .i64)], [false]⟩], false, false⟩
def yot : Sig := ⟨[.v false [(.sl 146 yk)] [false]], [⟨false, [.bool], [false]⟩], false, false⟩
def yov : Sig := ⟨[.v false [(.int .i64)] [false]], [⟨false, [.bool], [false]⟩], false, false⟩
def yow : Sig := ⟨[.v false [(.sl 113 yg)] [false]], [⟨false, [.bool], [false]⟩], false, false⟩
def yox : Sig := ⟨[.v false [.str] [false]], [⟨false, [.bool], [false]⟩], false, false⟩
def yoy : Sig := ⟨[.v false [(.sl 146 yk)] [false], .v false [(.int .i64)] [false]], [⟨false, [(.sl 3 yh)], [true]⟩], false, false⟩
def yoz : Sig := ⟨[.v true yji (nf 4), .p none yji (nf 4)], [⟨false, [.bool], [false]⟩], false, false⟩
def ybu : Sig := ⟨[.v false [(.sl 46 yE)] [false], .p (some 254) yji (nf 4)], [⟨false, [(.int .i64)], [false]⟩], false, false⟩
def ybv : Sig := ⟨[.v false [(.sl 46 yE)] [false], .p (some 254) yji (nf 4)], [⟨false, [.bool], [false]⟩], false, false⟩
def yoA : Sig := ⟨[.v true YK (nf 6)], [⟨false, [.bool], [false]⟩], false, false⟩
def yAA : Sig := ⟨[.v false [(.sl 113 yg)] [false]], [⟨false, [(.int .i64)], [false]⟩], false, false⟩
def yAB : Sig := ⟨[.v true Wk [false, false]], [⟨false, [(.sl 64 yi)], [true]⟩], false, false⟩
def yoB : Sig := ⟨[.v false [(.sl 113 yg)] [false], .v false [(.int .i64)] [false], .v false [(.int .i64)] [false]], [⟨false, [(.int .i64)], [false]⟩, ⟨false, [.bool], [false]⟩], false, false⟩
def yoC : Sig := ⟨[.v true YK (nf 6)], [⟨false, [.bool], [false]⟩], false, false⟩
def yAC : Sig := ⟨[.v true YK (nf 6)], [⟨false, [.bool], [false]⟩], false, false⟩
def yoD : Sig := ⟨[.v false [(.sl 3 yh)] [false]], [⟨false, [(.sl 3 yh)], [true]⟩], false, false⟩
def yoE : Sig := ⟨[.v true [(.sl 58 yn)] [false]], [⟨true, [(.sl 58 yn)], [true]⟩], false, false⟩
def yoF : Sig := ⟨[.v true Wk [false, false]], [⟨true, Wk, [true, true]⟩], false, false⟩
def yoG : Sig := ⟨[.v false [(.sl 146 yk)] [false]], [⟨false, [(.sl 146 yk)], [true]⟩], false, false⟩
def yoH : Sig := ⟨[.v false [(.sl 113 yg)] [false]], [⟨false, [(.sl 113 yg)], [true]⟩], false, false⟩
def yAD : Sig := ⟨[.v true YK (nf 6)], [⟨true, YK, [true, true, true, true, true, false]⟩], false, false⟩
def yoI : Sig := ⟨[.v true yji (nf 4), .p none [.str] [false]], [⟨false, [.bool], [false]⟩], false, false⟩
def ybw : Sig := ⟨[.v false [(.sl 46 yE)] [false], .p (some 243) [.str] [false]], [⟨false, [(.int .i64)], [false]⟩], false, false⟩
def yoJ : Sig := ⟨[.v true YK (nf 6), .v false [.str] [false]], [⟨false, [(.int .i64)], [false]⟩], false, false⟩
def y6r : Sig := ⟨[.v false [(.sl 146 yk)] [true], .v false [(.int .i64)] [false], .v false [(.sl 146 yk)] [true]], [⟨false, [(.sl 146 yk)], [true]⟩], false, false⟩
def yoK : Sig := ⟨[.v false [(.sl 146 yk)] [false], .v false [(.int .i64)] [false], .v false [(.int .i64)] [false]], [⟨false, [(.sl 146 yk)], [true]⟩, ⟨false, [.bool], [false]⟩], false, false⟩
def yoL : Sig := ⟨[.v false [(.sl 46 yE)] [false], .v true yji (nf 4)], [⟨false, [(.sl 46 yE)], [true]⟩], false, false⟩
def yoM : Sig := ⟨[.v true YK (nf 6), .v true YK (nf 6), .v false [.bool] [false]], [⟨true, YK, (nf 6)⟩, ⟨false, [(.int .i64)], [false]⟩], false, false⟩
def yAE : Sig := ⟨[.v true YK (nf 6), .v false [.str] [false], .v false [.str] [false], .v false [.bool] [false]], [⟨true, YK, (nf 6)⟩, ⟨false, [(.int .i64)], [false]⟩], false, false⟩
def yAF : Sig := ⟨[.v false [(.sl 113 yg)] [false]], [⟨false, [(.int .i64)], [false]⟩], false, false⟩
def yAG : Sig := ⟨[.v false [(.sl 113 yg)] [false], .v false [(.int .i64)] [false]], [⟨false, [(.sl 113 yg)], [true]⟩, ⟨false, [(.int .i64)], [false]⟩, ⟨false, [.bool], [false]⟩], false, false⟩
def yoN : Sig := ⟨[.v true YK (nf 6), .v false [.str] [false], .v false [(.int .i64)] [false], .v false [.bool] [false]], [⟨false, [(.int .i64)], [false]⟩, ⟨false, [(.int .i64)], [false]⟩], false, false⟩
def yoO : Sig := ⟨[.v true Wk [false, false], .v false [(.int .i64)] [false], .v false [(.int .i64)] [false]], [⟨false, [(.int .i64)], [false]⟩], false, false⟩
def yoP : Sig := ⟨[.v true [(.sl 58 yn)] [false], .v true Vm (nf 5)], [⟨false, [(.sl 64 yi)], [true]⟩], false, false⟩
def yoQ : Sig := ⟨[.v false [(.sl 64 yi)] [false]], [⟨true, [(.sl 58 yn)], [true]⟩], false, false⟩
def yoR : Sig := ⟨[.v false [(.sl 64 yi)] [false], .v false [(.int .i64)] [false], .v false [(.int .i64)] [false]], [⟨true, Vm, (nf 5)⟩, ⟨false, [.bool], [false]⟩], false, false⟩
def yoS : Sig := ⟨[.v true [(.sl 58 yn)] [false], .v true Vm (nf 5)], [⟨true, [(.sl 58 yn)], [true]⟩, ⟨false, [.bool], [false]⟩], false, false⟩
def yoT : Sig := ⟨[.v true Wk [false, false], .v false [(.int .i64)] [false], .v false [(.int .i64)] [false], .v false [(.sl 3 yh)] [false], .v false [(.sl 140 yj)] [false]], [⟨true, Wk, [true, true]⟩], false, false⟩
def yoU : Sig := ⟨[.v true Wk [false, false]], [⟨true, Wk, [false, false]⟩], false, false⟩
def yoV : Sig := ⟨[.v true Wk [false, false], .v true Vm (nf 5)], [⟨true, Wk, [false, false]⟩, ⟨false, [.bool], [false]⟩], false, false⟩
def yoW : Sig := ⟨[.v false [(.sl 113 yg)] [false], .v false [(.int .i64)] [false]], [⟨false, [(.sl 113 yg)], [true]⟩], false, false⟩
def yoX : Sig := ⟨[.v true [(.sl 58 yn)] [false], .v false [(.int .i64)] [false], .v false [(.int .i64)] [false]], [⟨true, Vm, (nf 5)⟩, ⟨false, [.bool], [false]⟩], false, false⟩
def yoY : Sig := ⟨[.v true Wk [false, false], .v false [(.int .i64)] [false], .v false [(.int .i64)] [false]], [⟨true, Vm, (nf 5)⟩, ⟨false, [.bool], [false]⟩], false, false⟩
def yoZ : Sig := ⟨[.p none YK [false, false, false, false, true, false], .v true Vm (nf 5)], [⟨false, [.bool], [false]⟩], false, false⟩
def yAH : Sig := ⟨[.v true YK (nf 6), .v false [.str] [false], .v false [(.int .i64)] [false], .v false [(.int .i64)] [false]], [⟨true, YK, (nf 6)⟩, ⟨false, [(.int .i64)], [false]⟩], false, false⟩
def yp0 : Sig := ⟨[.v true Wk [false, false], .v false [(.int .i64)] [false]], [⟨false, [(.sl 64 yi)], [true]⟩], false, false⟩
def yp1 : Sig := ⟨[.v false [(.sl 3 yh)] [false], .v false [(.int .i64)] [false]], [⟨false, [(.int .i64)], [false]⟩], false, false⟩
def yp2 : Sig := ⟨[.v false [(.sl 3 yh)] [false], .v false [(.int .i64)] [false]], [⟨false, [.bool], [false]⟩], false, false⟩
def yp3 : Sig := ⟨[.v true Wk [false, false], .v false [(.int .i64)] [false], .v false [(.sl 3 yh)] [false]], [⟨true, Vm, (nf 5)⟩, ⟨false, [.bool], [false]⟩], false, false⟩
def yp4 : Sig := ⟨[.v false [(.sl 146 yk)] [false], .v false [(.int .i64)] [false]], [⟨false, [(.sl 3 yh)], [true]⟩], false, false⟩
def yp5 : Sig := ⟨[.v true Wk [false, false], .v false [(.sl 146 yk)] [false], .v false [(.int .i64)] [false], .v false [(.int .i64)] [false]], [⟨true, Vm, (nf 5)⟩, ⟨false, [.bool], [false]⟩], false, false⟩
def yp6 : Sig := ⟨[.v true YK (nf 6), .v false [(.int .i64)] [false], .v false [(.int .i64)] [false]], [⟨false, [(.int .i64)], [false]⟩], false, false⟩
def yAI : Sig := ⟨[.v true YK (nf 6), .v false [.str] [false], .v false [(.int .i64)] [false]], [⟨false, [(.int .i64)], [false]⟩, ⟨false, [(.int .i64)], [false]⟩], false, false⟩
def yp7 : Sig := ⟨[.v false [(.sl 5 Yt)] [false]], [⟨true, Z5, (nf 3)⟩], true, false⟩
def yp8 : Sig := ⟨[.v false [(.sl 5 Yt)] [false], .v false [(.int .i64)] [false]], [⟨false, [(.int .i64)], [false]⟩], false, false⟩
def yp9 : Sig := ⟨[.p none Z5 (nf 3)], [⟨false, [(.int .i64)], [false]⟩], false, false⟩
def ypa : Sig := ⟨[.p none Z5 (nf 3), .v false [(.int .i64)] [false]], [⟨false, [(.int .i64)], [false]⟩], false, false⟩
def yAJ : Sig := ⟨[.p none Z5 (nf 3), .v false [(.sl 3 yh)] [false]], [⟨false, [(.int .i64)], [false]⟩], false, false⟩
def ypb : Sig := ⟨[.p none Z5 (nf 3), .v false [(.sl 9 QC)] [false]], [⟨false, [.str], [false]⟩], false, false⟩
def ypc : Sig := ⟨[.p none Z5 (nf 3)], [⟨false, [.str], [false]⟩], false, false⟩
def ypd : Sig := ⟨[.p none Z5 (nf 3)], [⟨false, [(.int .i64)], [false]⟩], false, false⟩
def ype : Sig := ⟨[.p none Z5 (nf 3)], [⟨true, yap, (nf 5)⟩], false, false⟩
def ypf : Sig := ⟨[], [⟨true, Wk, [true, true]⟩], false, false⟩
def ypg : Sig := ⟨[], [⟨false, [(.sl 113 yg)], [true]⟩], false, false⟩
def yph : Sig := ⟨[], [⟨true, YK, [true, true, true, true, true, false]⟩], false, false⟩
def ypi : Sig := ⟨[.v true [(.sl 58 yn)] [false]], [⟨true, [(.sl 58 yn)], [true]⟩], false, false⟩
def ypj : Sig := ⟨[.v true Wk [false, false]], [⟨true, Wk, [true, true]⟩], false, false⟩
def ypk : Sig := ⟨[.v false [(.sl 113 yg)] [false]], [⟨false, [(.sl 113 yg)], [true]⟩], false, false⟩
def yAK : Sig := ⟨[.v true YK (nf 6)], [⟨true, YK, [true, true, true, true, true, false]⟩], false, false⟩
def yAL : Sig := ⟨[.v false [(.int .i64)] [false], .v false [(.int .i64)] [false], .v false [(.int .i64)] [false]], [⟨false, [.bool], [false]⟩], false, false⟩
def ypl : Sig := ⟨[.v false [(.sl 64 yi)] [false]], [⟨false, [(.sl 64 yi)], [true]⟩], false, false⟩
def ypm : Sig := ⟨[.v true Vm (nf 5), .v true Vm (nf 5)], [⟨false, [.bool], [false]⟩], false, false⟩
def ypn : Sig := ⟨[.v true Vm (nf 5), .v true Vm (nf 5)], [⟨false, [.bool], [false]⟩], false, false⟩
def ypo : Sig := ⟨[.v false [(.sl 64 yi)] [false], .v true Vm (nf 5)], [⟨false, [(.sl 64 yi)], [true]⟩], false, false⟩
def ypp : Sig := ⟨[.v false [(.sl 64 yi)] [false], .v false [(.sl 64 yi)] [false]], [⟨false, [(.sl 64 yi)], [true]⟩], false, false⟩
def ypq : Sig := ⟨[.v true [(.sl 58 yn)] [false]], [⟨false, [(.sl 64 yi)], [true]⟩], false, false⟩
def ypr : Sig := ⟨[.v true Wk [false, false]], [⟨false, [(.sl 64 yi)], [true]⟩], false, false⟩
def yps : Sig := ⟨[.v false [(.int .i64)] [false], .v false [(.int .i64)] [false]], [⟨false, [(.int .i64)], [false]⟩], false, false⟩
def ypt : Sig := ⟨[.v true Vm (nf 5)], [⟨false, [(.int .i64)], [false]⟩], false, false⟩
def ypu : Sig := ⟨[.v true Vm (nf 5)], [⟨false, [.bool], [false]⟩], false, false⟩
def ypv : Sig := ⟨[.v false [(.sl 64 yi)] [false]], [⟨false, [.bool], [false]⟩], false, false⟩
def ypw : Sig := ⟨[.v false [(.sl 64 yi)] [false]], [⟨false, [.bool], [false]⟩], false, false⟩
def ypx : Sig := ⟨[.v true [(.sl 58 yn)] [false]], [⟨false, [(.int .i64)], [false]⟩], false, false⟩
def ypy : Sig := ⟨[.v true [(.sl 58 yn)] [false]], [⟨false, [.bool], [false]⟩], false, false⟩
def ypz : Sig := ⟨[.v true Wk [false, false], .v false [(.int .i64)] [false]], [⟨false, [.bool], [false]⟩], false, false⟩
def ypA : Sig := ⟨[.v true Wk [false, false]], [⟨false, [.bool], [false]⟩], false, false⟩
def ypB : Sig := ⟨[.v false [(.sl 146 yk)] [false], .v false [(.int .i64)] [false]], [⟨false, [(.int .i64)], [false]⟩], false, false⟩
def ypC : Sig := ⟨[.v false [(.sl 146 yk)] [false]], [⟨false, [.bool], [false]⟩], false, false⟩
def ypD : Sig := ⟨[.v false [(.int .i64)] [false]], [⟨false, [.bool], [false]⟩], false, false⟩
def ypE : Sig := ⟨[.v false [(.sl 113 yg)] [false]], [⟨false, [.bool], [false]⟩], false, false⟩
def ypF : Sig := ⟨[.v false [.str] [false]], [⟨false, [.bool], [false]⟩], false, false⟩
def ypG : Sig := ⟨[.v false [(.sl 146 yk)] [false], .v false [(.int .i64)] [false]], [⟨false, [(.sl 3 yh)], [true]⟩], false, false⟩
def ypH : Sig := ⟨[.v true YK (nf 6)], [⟨false, [.bool], [false]⟩], false, false⟩
def ypI : Sig := ⟨[.v false [(.sl 113 yg)] [false]], [⟨false, [(.int .i64)], [false]⟩], false, false⟩
def ypJ : Sig := ⟨[.v false [(.sl 113 yg)] [false], .v false [(.int .i64)] [false], .v false [(.int .i64)] [false]], [⟨false, [(.int .i64)], [false]⟩, ⟨false, [.bool], [false]⟩], false, false⟩
def ypK : Sig := ⟨[.v true YK (nf 6)], [⟨false, [.bool], [false]⟩], false, false⟩
def yAM : Sig := ⟨[.v true YK (nf 6)], [⟨false, [.bool], [false]⟩], false, false⟩
def ypL : Sig := ⟨[.v true YK (nf 6), .v false [.str] [false]], [⟨false, [(.int .i64)], [false]⟩], false, false⟩
def ypM : Sig := ⟨[.v true YK (nf 6), .v false [.str] [false]], [⟨false, [(.int .i64)], [false]⟩], false, false⟩
def ypN : Sig := ⟨[.v false [(.sl 146 yk)] [false], .v false [(.int .i64)] [false], .v false [(.int .i64)] [false]], [⟨false, [(.sl 146 yk)], [true]⟩, ⟨false, [.bool], [false]⟩], false, false⟩
def ypO : Sig := ⟨[.v false [(.sl 46 yE)] [false], .v true yji (nf 4)], [⟨false, [(.sl 46 yE)], [true]⟩], false, false⟩
def ypP : Sig := ⟨[.v true YK (nf 6), .v true YK [false, false, false, true, true, false], .v false [.bool] [false]], [⟨true, YK, [false, false, false, true, true, false]⟩, ⟨false, [(.int .i64)], [false]⟩], false, false⟩
def yAN : Sig := ⟨[.v true YK (nf 6), .v false [.str] [false], .v false [(.int .i64)] [false]], [⟨true, YK, [false, false, false, true, true, false]⟩, ⟨false, [(.int .i64)], [false]⟩], false, false⟩
def yAO : Sig := ⟨[.v true YK (nf 6), .v false [.str] [false], .v false [.str] [false], .v false [.bool] [false]], [⟨true, YK, [false, false, false, true, true, false]⟩, ⟨false, [(.int .i64)], [false]⟩], false, false⟩
def ypQ : Sig := ⟨[.v true YK (nf 6), .v false [.str] [false]], [⟨false, [(.int .i64)], [false]⟩], false, false⟩
def yAP : Sig := ⟨[.v true YK (nf 6), .v false [.str] [false]], [⟨true, YK, [false, false, false, true, true, false]⟩, ⟨false, [(.int .i64)], [false]⟩], false, false⟩
def ypR : Sig := ⟨[.v false [(.sl 113 yg)] [false], .v false [(.int .i64)] [false]], [⟨false, [(.sl 113 yg)], [true]⟩, ⟨false, [(.int .i64)], [false]⟩, ⟨false, [.bool], [false]⟩], false, false⟩
def ypS : Sig := ⟨[.v true YK (nf 6), .v false [.str] [false], .v false [(.int .i64)] [false]], [⟨false, [(.int .i64)], [false]⟩], false, false⟩
def ypT : Sig := ⟨[.v true Wk [false, false], .v false [(.int .i64)] [false], .v false [(.int .i64)] [false]], [⟨false, [(.int .i64)], [false]⟩], false, false⟩
def ypU : Sig := ⟨[.v false [(.sl 64 yi)] [false]], [⟨true, [(.sl 58 yn)], [true]⟩], false, false⟩
def ypV : Sig := ⟨[.v false [(.sl 64 yi)] [false], .v false [(.int .i64)] [false], .v false [(.int .i64)] [false]], [⟨true, Vm, (nf 5)⟩, ⟨false, [.bool], [false]⟩], false, false⟩
def ypW : Sig := ⟨[.v true [(.sl 58 yn)] [false], .v true Vm (nf 5)], [⟨true, [(.sl 58 yn)], [true]⟩, ⟨false, [.bool], [false]⟩], false, false⟩
def ypX : Sig := ⟨[.v true Wk [true, true], .v false [(.int .i64)] [false], .v false [(.sl 3 yh)] [false], .v false [(.sl 140 yj)] [false]], [⟨true, Wk, [true, true]⟩], false, true⟩
def ypY : Sig := ⟨[.v true Wk [false, false]], [⟨false, [(.int .i64)], [false]⟩], false, false⟩
def ypZ : Sig := ⟨[.v true Wk [true, true]], [⟨true, Wk, [true, true]⟩], false, false⟩
def yq0 : Sig := ⟨[.v true Wk [false, false], .v true Vm (nf 5)], [⟨true, Wk, [true, true]⟩, ⟨false, [.bool], [false]⟩], false, false⟩
def yq1 : Sig := ⟨[.v true [(.sl 58 yn)] [false], .v false [(.int .i64)] [false], .v false [(.int .i64)] [false]], [⟨true, Vm, (nf 5)⟩, ⟨false, [.bool], [false]⟩], false, false⟩
def yq2 : Sig := ⟨[.v true Wk [false, false], .v false [(.int .i64)] [false], .v false [(.int .i64)] [false]], [⟨true, Vm, (nf 5)⟩, ⟨false, [.bool], [false]⟩], false, false⟩
def yq3 : Sig := ⟨[.v false [(.sl 113 yg)] [false], .v false [(.int .i64)] [false]], [⟨false, [(.sl 113 yg)], [true]⟩], false, false⟩
def yq4 : Sig := ⟨[.p none YK [false, false, false, true, true, false], .v true Vm (nf 5), .v false [.bool] [false]], [], false, false⟩
def yq5 : Sig := ⟨[.p none YK [false, false, false, true, true, false], .v true Vm (nf 5)], [⟨false, [.bool], [false]⟩], false, false⟩
def yAQ : Sig := ⟨[.v true YK (nf 6), .v false [.str] [false], .v false [(.int .i64)] [false], .v false [(.int .i64)] [false]], [⟨true, YK, [false, false, false, true, true, false]⟩, ⟨false, [(.int .i64)], [false]⟩], false, false⟩
def yq6 : Sig := ⟨[.v false [(.sl 146 yk)] [false], .v false [(.int .i64)] [false]], [⟨false, [(.sl 3 yh)], [true]⟩], false, false⟩
def yq7 : Sig := ⟨[.v true Wk [false, false], .v false [(.int .i64)] [false]], [⟨false, [(.sl 64 yi)], [true]⟩], false, false⟩
def yq8 : Sig := ⟨[.v false [(.sl 3 yh)] [false], .v false [(.int .i64)] [false]], [⟨false, [.bool], [false]⟩], false, false⟩
def yq9 : Sig := ⟨[.v true Wk [false, false], .v false [(.int .i64)] [false], .v false [(.sl 3 yh)] [false]], [⟨true, Vm, (nf 5)⟩, ⟨false, [.bool], [false]⟩], false, false⟩
def yqa : Sig := ⟨[.v true Wk [false, false], .v false [(.sl 146 yk)] [false], .v false [(.int .i64)] [false], .v false [(.int .i64)] [false]], [⟨true, Vm, (nf 5)⟩, ⟨false, [.bool], [false]⟩], false, false⟩
def yqb : Sig := ⟨[.p none YK [false, false, false, true, true, false], .v false [(.int .i64)] [false], .v false [(.int .i64)] [false]], [⟨false, [.bool], [false]⟩], false, false⟩
def yAR : Sig := ⟨[.v true YK (nf 6), .v false [.str] [false], .v false [(.int .i64)] [false]], [⟨true, YK, [false, false, false, true, true, false]⟩, ⟨false, [(.int .i64)], [false]⟩], false, false⟩
def yAS : Sig := ⟨[.v true YK (nf 6), .v false [.str] [false], .v false [(.int .i64)] [false]], [⟨true, YK, [false, false, false, true, true, false]⟩, ⟨false, [(.int .i64)], [false]⟩], false, false⟩
def yqc : Sig := ⟨[.v true yap (nf 5)], [⟨false, [.bool], [false]⟩], false, false⟩
def yqd : Sig := ⟨[.v true yap (nf 5)], [⟨false, [.bool], [false]⟩], false, false⟩
def yqe : Sig := ⟨[.v true [(.sl 58 yn)] [false]], [⟨true, [(.sl 58 yn)], [true]⟩], false, false⟩
def yAT : Sig := ⟨[.v true Wk [false, false], .v false [(.int .i64)] [false]], [⟨true, Wk, [true, true]⟩], false, false⟩
def yAU : Sig := ⟨[.v true YK (nf 6), .v false [(.int .i64)] [false]], [⟨true, YK, [true, true, true, true, true, false]⟩, ⟨false, [.bool], [false]⟩], false, false⟩
def yqf : Sig := ⟨[.v true YK (nf 6), .v false [(.int .i64)] [false]], [⟨true, Vm, (nf 5)⟩], false, false⟩
def yAV : Sig := ⟨[.v true YK (nf 6), .v false [(.int .i64)] [false]], [⟨true, YK, [true, true, true, true, true, false]⟩, ⟨false, [.bool], [false]⟩], false, false⟩
def yqg : Sig := ⟨[.v true Wk [false, false], .v false [(.sl 146 yk)] [false], .v false [(.int .i64)] [false], .v false [(.int .i64)] [false]], [⟨true, Vm, (nf 5)⟩, ⟨false, [.bool], [false]⟩], false, false⟩
def yqh : Sig := ⟨[.v true Wk [false, false], .v false [(.sl 146 yk)] [false], .v true Vm (nf 5), .v false [(.int .i64)] [false]], [⟨false, [.bool], [false]⟩], false, false⟩
def yAW : Sig := ⟨[.v true YK (nf 6), .v true Vm (nf 5)], [⟨false, [.bool], [false]⟩], false, false⟩
def yqi : Sig := ⟨[.v true YK (nf 6), .v false [(.int .i64)] [false]], [⟨false, [.bool], [false]⟩], false, false⟩
def yqj : Sig := ⟨[.v true YK (nf 6), .v false [(.int .i64)] [false]], [⟨false, [(.int .i64)], [false]⟩], false, false⟩
def yqk : Sig := ⟨[.v true YK (nf 6), .v true Vm (nf 5)], [⟨false, [.bool], [false]⟩], false, false⟩
def yql : Sig := ⟨[.v true YK (nf 6), .v false [(.int .i64)] [false], .v true Vm (nf 5)], [⟨false, [.bool], [false]⟩], false, false⟩
def yqm : Sig := ⟨[.v true YK (nf 6), .v false [(.int .i64)] [false]], [⟨false, [.bool], [false]⟩], false, false⟩
def yAX : Sig := ⟨[.v true YK (nf 6)], [⟨false, [(.int .i64)], [false]⟩, ⟨false, [(.int .i64)], [false]⟩], false, false⟩
def yqn : Sig := ⟨[.p none YK [false, false, false, true, true, false], .v true Vm (nf 5)], [⟨false, [.bool], [false]⟩], false, false⟩
def yqo : Sig := ⟨[.v false [(.sl 146 yk)] [false], .v false [(.int .i64)] [false]], [⟨false, [(.sl 146 yk)], [true]⟩, ⟨false, [.bool], [false]⟩], false, false⟩
def yAY : Sig := ⟨[.v true YK (nf 6)], [⟨true, YK, [false, false, false, true, true, false]⟩, ⟨false, [.bool], [false]⟩], false, false⟩
def yqp : Sig := ⟨[.v true YK (nf 6), .v true yap (nf 5)], [⟨true, YK, [false, false, false, true, true, false]⟩, ⟨false, [.bool], [false]⟩], false, false⟩
def yqq : Sig := ⟨[.v true YK (nf 6), .v true yap (nf 5)], [⟨true, YK, [false, false, false, true, true, false]⟩, ⟨false, [(.int .i64)], [false]⟩], false, false⟩
def yqr : Sig := ⟨[.p none Z5 (nf 3), .v false [(.int .i64)] [false]], [⟨true, YK, [false, false, false, true, true, false]⟩], false, false⟩
def yqs : Sig := ⟨[.p none Z5 (nf 3)], [⟨true, Vm, (nf 5)⟩], false, false⟩
def yqt : Sig := ⟨[.p none Z5 (nf 3)], [⟨true, Vm, (nf 5)⟩], false, false⟩
def yqu : Sig := ⟨[.p none Z5 (nf 3), .v false [(.int .i64)] [false]], [⟨true, Wk, [true, true]⟩], false, false⟩
def yqv : Sig := ⟨[.p none Z5 (nf 3)], [⟨true, [(.sl 58 yn)], [true]⟩], false, false⟩
def yqw : Sig := ⟨[.p none Z5 (nf 3), .v false [(.int .i64)] [false]], [⟨false, [(.sl 64 yi)], [true]⟩], false, false⟩
def yqx : Sig := ⟨[.p none Z5 (nf 3)], [⟨true, Vm, (nf 5)⟩], false, false⟩
def yqy : Sig := ⟨[.p none Z5 (nf 3), .v false [(.int .i64)] [false]], [⟨false, [(.sl 64 yi)], [true]⟩], false, false⟩
def yqz : Sig := ⟨[.p none Z5 (nf 3)], [⟨true, [(.sl 58 yn)], [true]⟩], false, false⟩
def yqA : Sig := ⟨[.p none Z5 (nf 3), .v false [(.int .i64)] [false]], [⟨true, Wk, [true, true]⟩], false, false⟩
def yqB : Sig := ⟨[.p none Z5 (nf 3), .v false [(.int .i64)] [false]], [⟨false, [.bool], [false]⟩], false, false⟩
def yqC : Sig := ⟨[.p none Z5 (nf 3)], [⟨false, [(.sl 146 yk)], [true]⟩], false, false⟩
def yqD : Sig := ⟨[.p none Z5 (nf 3)], [⟨false, [(.sl 146 yk)], [true]⟩], false, false⟩
def yqE : Sig := ⟨[.p none Z5 (nf 3)], [⟨false, [(.sl 113 yg)], [true]⟩], false, false⟩
def yqF : Sig := ⟨[.p none Z5 (nf 3)], [⟨false, [(.sl 113 yg)], [false]⟩], false, false⟩
def yqG : Sig := ⟨[.p none Z5 (nf 3), .v false [(.int .i64)] [false]], [⟨true, YK, [false, false, false, false, true, false]⟩], false, false⟩
def yAZ : Sig := ⟨[.v false [(.sl 5 Yt)] [false]], [⟨true, Z5, (nf 3)⟩, ⟨true, YK, [false, false, false, false, true, false]⟩], true, false⟩
def yqH : Sig := ⟨[.p none Z5 (nf 3)], [⟨false, [.str], [false]⟩], false, false⟩
def yB0 : Sig := ⟨[.v false [(.sl 5 Yt)] [false]], [⟨true, YK, [false, false, false, false, true, false]⟩, ⟨false, [.str], [false]⟩, ⟨false, [(.int .i64)], [false]⟩], false, false⟩
def yB1 : Sig := ⟨[.v true YK (nf 6), .v false [.str] [false], .v false [(.int .i64)] [false]], [⟨true, YK, (nf 6)⟩, ⟨false, [(.int .i64)], [false]⟩], false, false⟩
def yB2 : Sig := ⟨[.v false [(.sl 5 Yt)] [false]], [⟨true, YK, [false, false, false, false, true, false]⟩, ⟨false, [.str], [false]⟩, ⟨false, [.str], [false]⟩, ⟨false, [.bool], [false]⟩], false, false⟩
def yB3 : Sig := ⟨[.v false [(.sl 5 Yt)] [false]], [⟨true, YK, [false, false, false, false, true, false]⟩, ⟨false, [.str], [false]⟩], false, false⟩
def yB4 : Sig := ⟨[.v true YK (nf 6), .v false [.str] [false]], [⟨true, YK, (nf 6)⟩, ⟨false, [(.int .i64)], [false]⟩], false, false⟩
def yqI : Sig := ⟨[.p none Z5 (nf 3)], [⟨false, [(.int .i64)], [false]⟩], false, false⟩
def yB5 : Sig := ⟨[.v false [(.sl 5 Yt)] [false]], [⟨true, YK, [false, false, false, false, true, false]⟩, ⟨false, [.str], [false]⟩, ⟨false, [(.int .i64)], [false]⟩, ⟨false, [(.int .i64)], [false]⟩], false, false⟩
def yB6 : Sig := ⟨[.v false [(.sl 5 Yt)] [false]], [⟨true, YK, [false, false, false, false, true, false]⟩, ⟨false, [.str], [false]⟩, ⟨false, [(.int .i64)], [false]⟩], false, false⟩
def yqJ : Sig := ⟨[.v true YK (nf 6), .v false [(.int .i64)] [false], .v false [(.int .i64)] [false]], [⟨false, [(.int .i64)], [false]⟩], false, false⟩
def yB7 : Sig := ⟨[.v true YK (nf 6), .v false [.str] [false], .v false [(.int .i64)] [false]], [⟨false, [(.int .i64)], [false]⟩, ⟨false, [(.int .i64)], [false]⟩], false, false⟩
def yqK : Sig := ⟨[.v true Wk [false, false], .v false [(.sl 146 yk)] [false], .v false [(.int .i64)] [false], .v false [(.int .i64)] [false]], [⟨true, Vm, (nf 5)⟩, ⟨false, [.bool], [false]⟩], false, false⟩
def yqL : Sig := ⟨[.p none YK [false, false, false, false, true, false], .v false [(.int .i64)] [false], .v false [(.int .i64)] [false]], [⟨false, [.bool], [false]⟩], false, false⟩
def yB8 : Sig := ⟨[.v true YK (nf 6), .v false [.str] [false], .v false [(.int .i64)] [false]], [⟨true, YK, (nf 6)⟩, ⟨false, [(.int .i64)], [false]⟩], false, false⟩
def yB9 : Sig := ⟨[.v false [(.sl 5 Yt)] [false]], [⟨true, YK, [false, false, false, false, true, false]⟩, ⟨false, [.str], [false]⟩, ⟨false, [(.int .i64)], [false]⟩], false, false⟩
def yBa : Sig := ⟨[.v true YK (nf 6), .v false [.str] [false], .v false [(.int .i64)] [false]], [⟨true, YK, (nf 6)⟩, ⟨false, [(.int .i64)], [false]⟩], false, false⟩
def sg7 : Sig := ⟨[.v false [(.sl 5 Yt)] [false]], [⟨false, [.bool], [false]⟩], false, false⟩
def yCk : List (Nat × Sig) := [(9, sg9), (27, yAx), (311, yo9), (237, yoa), (107, yob), (108, yoc), (109, yod), (17, yAy), (92, yAz), (342, yoe), (343, yof), (302, yog), (303, yoh), (249, yoi), (250, yoj), (127, yok), (218, yol), (323, yom), (251, yon), (223, yoo), (252, yop), (128, yoq), (319, yor), (100000, ybt), (245, yos), (129, yot), (125, yov), (130, yow), (117, yox), (135, yoy), (254, yoz), (100002, ybu), (100001, ybv), (131, yoA), (28, yAA), (29, yAB), (247, yoB), (132, yoC), (30, yAC), (297, yoD), (298, yoE), (206, yoF), (207, yoG), (208, yoH), (91, yAD), (243, yoI), (100003, ybw), (116, yoJ), (244, y6r), (118, yoK), (119, yoL), (120, yoM), (21, yAE), (98, yAF), (99, yAG), (124, yoN), (219, yoO), (221, yoP), (224, yoQ), (301, yoR), (220, yoS), (222, yoT), (225, yoU), (100, yoV), (101, yoW), (322, yoX), (248, yoY), (126, yoZ), (25, yAH), (348, yp0), (361, yp1), (349, yp2), (320, yp3), (321, yp4), (246, yp5), (121, yp6), (26, yAI), (112, yp7), (114, yp8), (263, yp9), (145, ypa), (90, yAJ), (240, ypb), (236, ypc), (241, ypd), (115, ype), (312, ypf), (313, ypg), (238, yph), (299, ypi), (210, ypj), (211, ypk), (94, yAK), (96, yAL), (230, ypl), (307, ypm), (308, ypn), (231, ypo), (309, ypp), (232, ypq), (137, ypr), (304, yps), (233, ypt), (226, ypu), (359, ypv), (344, ypw), (345, ypx), (306, ypy), (300, ypz), (212, ypA), (262, ypB), (213, ypC), (182, ypD), (214, ypE), (178, ypF), (260, ypG), (215, ypH), (147, ypI), (285, ypJ), (216, ypK), (95, yAM), (173, ypL), (174, ypM), (175, ypN), (176, ypO), (177, ypP), (59, yAN), (61, yAO), (179, ypQ), (64, yAP), (103, ypR), (181, ypS), (227, ypT), (234, ypU), (305, ypV), (228, ypW), (229, ypX), (310, ypY), (235, ypZ), (104, yq0), (336, yq1), (283, yq2), (105, yq3), (284, yq4), (183, yq5), (66, yAQ), (324, yq6), (350, yq7), (351, yq8), (325, yq9), (257, yqa), (186, yqb), (70, yAR), (73, yAS), (346, yqc), (314, yqd), (217, yqe), (97, yAT), (12, yAU), (102, yqf), (15, yAV), (265, yqg), (149, yqh), (41, yAW), (259, yqi), (142, yqj), (258, yqk), (138, yql), (139, yqm), (33, yAX), (141, yqn), (143, yqo), (35, yAY), (315, yqp), (239, yqq), (113, yqr), (264, yqs), (146, yqt), (332, yqu), (352, yqv), (362, yqw), (363, yqx), (353, yqy), (333, yqz), (277, yqA), (144, yqB), (334, yqC), (278, yqD), (335, yqE), (279, yqF), (165, yqG), (89, yAZ), (172, yqH), (57, yB0), (58, yB1), (60, yB2), (62, yB3), (63, yB4), (180, yqI), (65, yB5), (67, yB6), (184, yqJ), (68, yB7), (255, yqK), (185, yqL), (69, yB8), (71, yB9), (72, yBa), (7, sg7)]
def yvr : List (Nat × (List Nat × List Nat)) := [
 (2700004, [0, 1, 5], [4]),
 (31100004, [0, 1, 5], [4]),
 (23700004, [2, 3, 5], [4]),
 (10700004, [2, 3, 5], [4]),
 (10800004, [0, 1, 5], [4]),
 (10900004, [0, 1, 5], [4]),
 (1700004, [2, 3, 5], [4]),
 (30200004, [3, 5, 6, 10, 11, 12, 19, 20, 21, 22], [3, 5, 6]),
 (24900003, [5, 10, 11, 12], [5]),
 (25000003, [3, 7, 8, 9], [3]),
 (12700003, [3, 8, 9, 10], [3]),
 (32300002, [0, 5, 6, 7, 16, 17, 18, 19, 20, 21, 22, 23, 24, 25, 26, 27], [0, 2]),
 (25100003, [1, 3, 7, 8, 9, 17, 18, 19, 31, 32], [1, 2, 3, 31, 32]),
 (25200002, [1, 2, 15, 16, 17, 40, 41, 42, 43, 44, 45, 46, 47, 48, 49, 50, 51, 52, 53, 54, 55], [4]),
 (25200005, [1, 2, 15, 16, 17, 21, 22, 23, 40, 41, 42, 43, 44, 45, 46, 47, 48, 49, 50, 51, 52, 53, 54, 55], [1, 2, 4, 15, 16, 17, 40, 41, 42, 43, 44, 45, 46, 47, 48, 49, 50, 51, 52, 53, 54, 55]),
 (12800005, [1, 3, 29, 30, 31, 39, 40, 41, 42, 43, 44, 45, 46, 47, 48, 49, 50, 53, 54, 55, 58, 59, 60, 61, 69, 70], [2, 3]),
 (10000000002, [0, 1, 7, 8], [1, 4]),
 (12900002, [0, 5, 6, 7, 17, 18, 19, 20, 21, 22, 23, 24, 25, 26, 27, 28, 29, 32, 33, 34, 35, 36, 37, 38, 39, 40, 41, 42, 43], [0, 2]),
 (13000002, [0, 5, 6, 7, 16, 17, 18, 19, 22, 23, 24, 25, 26, 27, 28, 29], [0, 2]),
 (11700002, [0, 3, 17, 18, 19, 20, 21, 22], [0, 2]),
 (13500005, [1, 5, 12, 13, 14], [5]),
 (10000200002, [0, 1, 7, 8], [1, 4]),
 (13100002, [1, 6, 7, 8, 18, 19, 20, 21, 22, 23, 24, 25, 26, 27, 28, 29, 30, 31, 34, 35, 36, 37, 46, 47, 48, 49, 50, 51, 52], [1, 2]),
 (2800003, [3, 6, 7, 8], [3]),
 (2900003, [3, 8, 9, 10], [3]),
 (13200004, [1, 3, 4, 12, 13, 14, 40, 41, 42, 43, 44], [1, 2, 4]),
 (3000004, [1, 28, 29, 30, 43, 44], [1, 2, 43, 44]),
 (29800003, [2, 3, 8, 9, 10], [2, 3]),
 (20600003, [2, 3, 11, 12, 13], [2, 3]),
 (10000300002, [0, 1, 7, 8], [1, 4]),
 (11800002, [0, 1, 2, 8, 15, 16, 17, 18, 19, 20, 21, 38, 39, 40], [0, 1, 2, 8, 38, 39, 40]),
 (11900004, [3, 5, 6, 10, 11, 12, 19, 20, 21, 22, 23], [3, 5, 6]),
 (9800002, [5, 6, 7], [2]),
 (21900002, [1, 2, 3, 7], [6]),
 (30100002, [1, 2, 6, 10, 11, 12, 21, 22, 23, 24], [6, 7]),
 (22500002, [1, 2, 3], [1, 2]),
 (32200002, [1, 2, 3, 6, 8], [6, 7]),
 (34800003, [1, 5, 10, 11, 12], [5]),
 (36100002, [0, 1, 7, 8], [4]),
 (32000003, [2, 6, 8, 9, 15, 16, 17, 26, 27, 28, 29, 30, 31, 32, 33, 34], [6, 8, 9]),
 (32100003, [0, 1, 5, 10, 11], [5]),
 (11200003, [0, 3, 4, 13, 14], [0, 3]),
 (29900003, [1, 2, 3, 4], [2, 3]),
 (21000003, [1, 2, 3, 4], [2, 3]),
 (23000003, [0, 3, 4], [3]),
 (23100004, [0, 3, 5, 6, 7, 18, 19, 20, 21, 22, 23, 24], [3, 5, 6]),
 (30900003, [1, 5, 6], [5]),
 (23200003, [1, 3, 4], [3]),
 (13700003, [1, 3, 4], [3]),
 (35900002, [0, 3], [2]),
 (34400002, [0, 3, 19, 20, 21], [0, 2, 19, 20, 21]),
 (34500003, [1, 3, 4], [3]),
 (30600002, [1, 3, 19, 20, 21, 22, 23, 24, 25, 32, 33, 34], [1, 2, 32, 33, 34]),
 (30000005, [1, 2, 5, 6, 61, 62, 63, 64, 65, 66, 67, 68, 69, 70, 71, 72, 73, 74, 75, 76], [4]),
 (30000008, [1, 2, 5, 6, 7, 61, 62, 63, 64, 65, 66, 67, 68, 69, 70, 71, 72, 73, 74, 75, 76], [1, 2, 4, 5, 6, 61, 62, 63, 64, 65, 66, 67, 68, 69, 70, 71, 72, 73, 74, 75, 76]),
 (21200004, [1, 3, 35, 36, 37, 38, 39, 40, 41, 42, 43, 44, 45, 46, 49, 50, 51, 52], [1, 2]),
 (26200002, [0, 1, 5], [4]),
 (21300002, [0, 3, 18, 19, 20, 21, 22, 23, 24, 25, 26, 27, 28, 29, 30, 31, 32, 33, 42, 43, 44, 45, 46, 47, 48, 49, 50, 51], [0, 2]),
 (21400002, [0, 3, 18, 19, 20, 21, 22, 23, 24, 27, 28, 29, 30, 31, 32, 33, 34, 35, 36, 37, 38, 39, 40], [0, 2]),
 (17800002, [0, 3, 17, 18, 19, 20, 21, 22], [0, 2]),
 (26000003, [0, 1, 5, 6, 22, 23], [5]),
 (21500002, [1, 3, 23, 24, 25, 26, 29, 30, 31, 32, 33, 34, 37, 38, 39, 40, 41, 42, 43, 46, 47, 48, 49, 50, 51, 52, 53, 54, 55, 56, 57, 58, 59], [1, 2]),
 (21500008, [1, 3, 4, 5, 23, 24, 25, 26, 29, 30, 31, 32, 33, 34, 37, 38, 39, 40, 41, 42, 43, 46, 47, 48, 49, 50, 51, 52, 53, 54, 55, 56, 57, 58, 59], [1, 2, 3, 23, 24, 25, 26, 29, 30, 31, 32, 33, 34, 37, 38, 39, 40, 41, 42, 43, 46, 47, 48, 49, 50, 51, 52, 53, 54, 55, 56, 57, 58, 59]),
 (14700003, [0, 3, 4], [3]),
 (21600004, [1, 3, 4, 5, 65, 66, 67, 68, 69, 70, 71, 72, 73, 74, 75], [1, 2, 4]),
 (21600014, [1, 3, 4, 5, 8, 65, 66, 67, 68, 69, 70, 71, 72, 73, 74, 75], [1, 2, 3, 4, 5, 65, 66, 67, 68, 69, 70, 71, 72, 73, 74, 75]),
 (9500002, [1, 3, 24, 25, 26, 29, 30, 31, 34, 35, 36, 39, 40, 43, 44], [1, 2, 24, 25, 26, 29, 30, 31, 34, 35, 36, 39, 40, 43, 44]),
 (17400002, [1, 2, 5], [4]),
 (17500004, [0, 1, 2, 8, 9, 10, 25, 26, 27, 28, 29, 30, 31, 59, 60, 61], [0, 1, 2, 8, 9, 59, 60, 61]),
 (17600003, [3, 5, 6, 19, 20, 21, 22, 23, 24, 25, 26, 27], [3, 5, 6]),
 (10300003, [0, 1, 7, 8, 16, 17, 20, 21], [4, 5, 6, 7]),
 (22700003, [1, 2, 3, 7, 8], [7]),
 (30500002, [0, 1, 2, 6, 8, 23, 24, 25, 26, 27, 28, 29], [6, 7]),
 (31000002, [1, 3], [2]),
 (23500002, [1, 2, 3], [1, 2]),
 (33600002, [1, 2, 3, 6, 8, 32, 33, 34], [6, 7]),
 (32400003, [0, 5, 6, 14, 15, 16, 17, 18], [5]),
 (35000004, [1, 5, 6, 7], [5]),
 (35100002, [0, 1, 5], [4]),
 (32500005, [2, 6, 8, 9, 10, 11, 30, 31, 32, 33, 34, 35, 36, 37, 38, 39, 40, 41], [6, 8, 9]),
 (7300010, [2, 3, 6, 8, 10, 11, 12, 43], [2, 3, 6, 8, 10, 11]),
 (10200003, [1, 4, 5, 6, 23, 24, 25, 26, 27, 28, 29], [4]),
 (4100002, [2, 3, 5, 23, 24, 25, 26, 27, 28, 29, 30, 31, 32, 33, 34], [4]),
 (25900002, [1, 2, 5], [4]),
 (13900003, [1, 2, 5, 6, 27, 28, 29, 30, 31, 32], [1, 2, 4, 27, 28, 29, 30, 31, 32]),
 (3300005, [1, 4, 5], [1, 2, 3]),
 (3300008, [1, 4, 5, 6], [1, 2, 3, 4, 5]),
 (3300013, [1, 7], [2, 3]),
 (14300006, [0, 1, 6, 7, 8], [7]),
 (11300003, [0, 4, 5, 6], [0, 4, 5]),
 (33200003, [0, 4, 5, 6], [0, 4, 5]),
 (35200003, [0, 2, 3, 4], [0, 2, 3]),
 (36200003, [0, 5, 6], [0, 5]),
 (33400003, [0, 3, 4, 17, 18, 19], [0, 3]),
 (27800010, [0, 3, 4], [0, 3]),
 (33500003, [0, 3, 4], [0, 3]),
 (7200008, [2, 3, 6, 8, 10, 11], [2, 3, 6, 7, 8, 10])]
def yBb : List (Nat × List Nat × Nat) := [(318, [319], 100000), (253, [254], 100001), (242, [254], 100002), (242, [243], 100003)]
def yvs : List (Nat × List Nat) := [(298, [18]), (206, [21]), (225, [40, 1000039000000026, 1000040000040000]), (100, [2000000000011000010, 1000038000999999, 1000080000999999, 1000084000999999, 85, 1000085000081000, 1000085000085000]), (25, [66]), (299, [22]), (210, [25]), (235, [2000000000006000001, 2000000000007000001, 1000033000000027, 1000046000000041, 1000048000000025, 49, 1000049000049000, 1000050000000046]), (104, [2000000000010000011, 49, 1000037000999999, 1000049000038000, 1000050000000047, 1000050000000049, 1000082000999999, 1000086000999999, 87, 1000087000083000, 1000087000087000]), (66, [60]), (257, [21]), (113, [1000019000000900]), (332, [1000019000000900]), (352, [1000015000000900]), (333, [1000013000000900, 14, 1000014000014000, 1000022000000900, 1000025000000900, 27, 1000027000000023, 1000027000000026]), (277, [1000019000000900, 1000022000000021, 1000022000000900, 1000029000000900, 30, 1000030000030000, 1000041000000900, 1000043000000900]), (165, [1000032000000031, 1000032000000900, 1000034000000900, 1000038000000037, 1000038000000900, 1000057000000900, 1000069000000900]), (57, [1000014000010500, 1000017000000016, 1000017000010500]), (60, [1000019000012500, 1000021000012500]), (62, [1000013000009500]), (63, [200032, 200037]), (65, [1000015000011500, 1000017000011500, 1000020000000019, 1000020000011500]), (67, [1000014000010500, 1000016000010500]), (255, [20]), (71, [1000014000010500, 1000017000000016, 1000017000010500])]
def C : Ctx := { info := y9P yo8, sig := y9P yCk, live := fun f i => y9P yvr (100000 * f + i), key := JZ yBb, fid := ymr yBb, hint := yhw yvs }
theorem tok : TOk C Tryz.prog := ymG (l := yo8) rfl (by kernel_rfl)
theorem ydU : Tryz.prog.follows .mixedOrders = true := by kernel_rfl
abbrev QF := Qf C Tryz.prog
abbrev EV (l : List QF) (lp : Lp) (n : Nat) (fn : Func) (sg : Sig) (ins outs : List Ty) (F : z6 ins → Option (z6 outs)) : Prop := ∀ x, yf5 C (yjg l) lp n fn (qj fn) sg ins outs x = F x
abbrev LF (l : List QF) (lp : Lp) (n i : Nat) (fn : Func) (k : Nat) {T V : Type} (e : T → St) (g : Gk T) (inj : V → T) : Prop := LC C (yjg l) lp n i (cL fn k) e g inj
abbrev LK (l : List QF) (lp : Lp) (n : Nat) (fn : Func) (k : Nat) : Prop := y2M C (yjg l) lp n (cL fn k)
theorem okN {l : List QF} {lp : Lp} {f g : Nat} {fn : Func} {sg : Sig} {n : Nat} (hfn : Tryz.prog.funcs[g]? = some fn) (hl : ymF (y2M C (yjg l) lp f) (jj (qj fn)) n 0) {F : z6 (C.ins f) → Option (z6 (C.outs f))} (hF : ∀ x, yf5 C (yjg l) lp f fn (qj fn) sg (C.ins f) (C.outs f) x = F x) (hsig : C.sig f = some sg := by kernel_rfl) (hB : fnB C f g fn sg n = true := by kernel_rfl) : jY C Tryz.prog f F := yuz tok ydU hfn hsig hB hl hF
theorem lkN {call : C.Sem} {lp : Lp} {f i : Nat} {c : Code} {T : Type} {e : T → St} {u : St → Option T} {g : Gk T} (hu : ∀ s t, u s = some t → e t = s) (hc : LC C call lp f i c e @g (fun t => t)) (hl : laB C f i c = true := by kernel_rfl) (hb : LB lp i u @g := by intro R κ s; kernel_rfl) : y2M C call lp f c := yfC hl hu hb hc
end Go.Proofs.YthgdjjdigalckaaGreat.XB
