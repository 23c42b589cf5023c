/- The context of the evaluator for C: types, signatures, slots that live at loops; by a program (dec.py). No condition. -/
import Derived.Test.YthgdjjdigalckaaGreatProg
import Derived.Test.YthgdjjdigalckaaGreatRRow
import Derived.KernelRfl
set_option linter.all false
namespace Go.Proofs.YthgdjjdigalckaaGreat.XC
open Go.Proofs.YthgdjjdigalckaaGreat.R
set_option maxRecDepth 100000
abbrev Yo : List Ty := [(.int .u8)]
abbrev Vh : Type := Int
abbrev yn2 (xs : List Vh) (i : Int) : Vh := rdE Yo xs i
def y5c (x : List Vh) : A := .val (.sl 5 Yo) x
abbrev yg : List Ty := [(.int .i64)]
abbrev ye : Type := Int
abbrev y5j : ye := VY yg
abbrev zl (xs : List ye) (i : Int) : ye := rdE yg xs i
def yU (x : List ye) : A := .val (.sl 3 yg) x
abbrev yi : List Ty := [(.int .i64), (.int .i64), (.int .i64), (.int .i64), (.int .i64)]
abbrev y9 : Type := Int × Int × Int × Int × Int
abbrev z6 : y9 := VY yi
abbrev y0 (xs : List y9) (i : Int) : y9 := rdE yi xs i
def qf (x : List y9) : A := .val (.sl 64 yi) x
abbrev yn : List Ty := [(.sl 64 yi)]
abbrev ya : Type := List y9
abbrev yX : ya := VY yn
abbrev yo (xs : List ya) (i : Int) : ya := rdE yn xs i
def Yd (x : List ya) : A := .val (.sl 58 yn) x
abbrev yj : List Ty := [(.sl 58 yn)]
abbrev y8 : Type := List ya
abbrev yB : y8 := VY yj
abbrev yh (xs : List y8) (i : Int) : y8 := rdE yj xs i
def yt (x : List y8) : A := .val (.sl 140 yj) x
abbrev yk : List Ty := [(.int .i64), (.int .i64)]
abbrev yd : Type := Int × Int
abbrev Y0 : yd := VY yk
abbrev yC (xs : List yd) (i : Int) : yd := rdE yk xs i
def za (x : List yd) : A := .val (.sl 146 yk) x
abbrev yf : List Ty := [(.int .i64), .bool, (.int .i64)]
abbrev yb : Type := Int × Bool × Int
abbrev ZB : yb := VY yf
abbrev yA (xs : List yb) (i : Int) : yb := rdE yf xs i
def yL (x : List yb) : A := .val (.sl 113 yf) x
abbrev yz : List Ty := [.str, (.int .i64), (.int .i64), .bool]
abbrev yl : Type := ByteArray × Int × Int × Bool
abbrev w8 : yl := VY yz
abbrev yq (xs : List yl) (i : Int) : yl := rdE yz xs i
def zP (x : List yl) : A := .val (.sl 46 yz) x
abbrev QJ : List Ty := [.str]
abbrev qR : Type := ByteArray
abbrev ygi : qR := VY QJ
abbrev yed (xs : List qR) (i : Int) : qR := rdE QJ xs i
abbrev y4C : List Ty := [.bool]
abbrev yc8 : Type := Bool
abbrev yee : yc8 := VY y4C
abbrev yef (xs : List yc8) (i : Int) : yc8 := rdE y4C xs i
abbrev Qz0 : Type := List ye × List ye × Int
abbrev qz0 : List Ty := [(.sl 3 yg), (.sl 3 yg), (.int .i64)]
abbrev Qz1 : Type := List ye × List ye
abbrev qz1 : List Ty := [(.sl 3 yg), (.sl 3 yg)]
abbrev Qz2 : Type := List y9 × List y9 × Int
abbrev qz2 : List Ty := [(.sl 64 yi), (.sl 64 yi), (.int .i64)]
abbrev Qz3 : Type := List y9 × List y9
abbrev qz3 : List Ty := [(.sl 64 yi), (.sl 64 yi)]
abbrev Qz4 : Type := Int × List ya × List ya
abbrev qz4 : List Ty := [(.int .i64), (.sl 58 yn), (.sl 58 yn)]
abbrev Qz5 : Type := List ya × List ya
abbrev qz5 : List Ty := [(.sl 58 yn), (.sl 58 yn)]
abbrev Qz6 : Type := Int × List ye × List y8 × List ye × List y8
abbrev qz6 : List Ty := [(.int .i64), (.sl 3 yg), (.sl 140 yj), (.sl 3 yg), (.sl 140 yj)]
abbrev Qz7 : Type := List ye × List y8 × List ye × List y8
abbrev qz7 : List Ty := [(.sl 3 yg), (.sl 140 yj), (.sl 3 yg), (.sl 140 yj)]
abbrev Qz8 : Type := List yd × List yd × Int
abbrev qz8 : List Ty := [(.sl 146 yk), (.sl 146 yk), (.int .i64)]
abbrev Qz9 : Type := List yd × List yd
abbrev qz9 : List Ty := [(.sl 146 yk), (.sl 146 yk)]
abbrev yAh : Type := List yb × List yb × Int
abbrev yAi : List Ty := [(.sl 113 yf), (.sl 113 yf), (.int .i64)]
abbrev yCK : Type := List yb × List yb
abbrev yCL : List Ty := [(.sl 113 yf), (.sl 113 yf)]
abbrev yvC : Type := Int × List ye × List y8 × List yd × List yb × List yl × Int × List ye × List y8 × List yd × List yb × List yl × Int
abbrev yAj : List Ty := [(.int .i64), (.sl 3 yg), (.sl 140 yj), (.sl 146 yk), (.sl 113 yf), (.sl 46 yz), (.int .i64), (.sl 3 yg), (.sl 140 yj), (.sl 146 yk), (.sl 113 yf), (.sl 46 yz), (.int .i64)]
abbrev yAk : Type := List ye × List y8 × List yd × List yb × List yl × Int × List ye × List y8 × List yd × List yb × List yl × Int
abbrev yCM : List Ty := [(.sl 3 yg), (.sl 140 yj), (.sl 146 yk), (.sl 113 yf), (.sl 46 yz), (.int .i64), (.sl 3 yg), (.sl 140 yj), (.sl 146 yk), (.sl 113 yf), (.sl 46 yz), (.int .i64)]
abbrev yhZ : Type := Int × List ya
abbrev yuX : List Ty := [(.int .i64), (.sl 58 yn)]
abbrev yn3 : Type := Int × List ye × List y8 × List ye
abbrev yAl : List Ty := [(.int .i64), (.sl 3 yg), (.sl 140 yj), (.sl 3 yg)]
abbrev y4D : Type := List ye × List y8
abbrev W8 : List Ty := [(.sl 3 yg), (.sl 140 yj)]
abbrev Qv : Type := List ye × List y8 × List yd × List yb × List yl × Int
abbrev zY : List Ty := [(.sl 3 yg), (.sl 140 yj), (.sl 146 yk), (.sl 113 yf), (.sl 46 yz), (.int .i64)]
abbrev yAm : Type := ByteArray × Int × List ye × List y8 × List yd × List yb × List yl × Int
abbrev yAn : List Ty := [.str, (.int .i64), (.sl 3 yg), (.sl 140 yj), (.sl 146 yk), (.sl 113 yf), (.sl 46 yz), (.int .i64)]
abbrev yuY : Type := List ye × List y8 × List yd × List yb × List yl × Int × ByteArray
abbrev yuZ : List Ty := [(.sl 3 yg), (.sl 140 yj), (.sl 146 yk), (.sl 113 yf), (.sl 46 yz), (.int .i64), .str]
abbrev yvD : Type := Int × Int × Int
abbrev yvE : List Ty := [(.int .i64), (.int .i64), (.int .i64)]
abbrev yv0 : Type := List y9 × Int × List y9
abbrev yv1 : List Ty := [(.sl 64 yi), (.int .i64), (.sl 64 yi)]
abbrev yv2 : Type := Int × Int × Int × Int × Int × Int × Int × Int × Int × Int
abbrev yv3 : List Ty := [(.int .i64), (.int .i64), (.int .i64), (.int .i64), (.int .i64), (.int .i64), (.int .i64), (.int .i64), (.int .i64), (.int .i64)]
abbrev yAo : Type := List y9 × Bool × Int × Int × Int × Int × Int × Int × List y9
abbrev yAp : List Ty := [(.sl 64 yi), .bool, (.int .i64), (.int .i64), (.int .i64), (.int .i64), (.int .i64), (.int .i64), (.sl 64 yi)]
abbrev yAq : Type := Bool × Int × Int × Int × Int × Int × List y9
abbrev yAr : Type := List y9 × Int × Int × Int × Int × Int
abbrev yAs : List Ty := [(.sl 64 yi), (.int .i64), (.int .i64), (.int .i64), (.int .i64), (.int .i64)]
abbrev yAt : Type := Int × List ya × List y9
abbrev yAu : List Ty := [(.int .i64), (.sl 58 yn), (.sl 64 yi)]
abbrev yAv : Type := Int × List ye × List y8 × List y9
abbrev yAw : List Ty := [(.int .i64), (.sl 3 yg), (.sl 140 yj), (.sl 64 yi)]
abbrev yfy : Type := Int × Int
abbrev yjJ : List Ty := [(.int .i64), (.int .i64)]
abbrev yfz : Type := Int × Int × Int × Int × Int
abbrev KW : List Ty := [(.int .i64), (.int .i64), (.int .i64), (.int .i64), (.int .i64)]
abbrev yn4 : Type := List y9 × Int
abbrev yn5 : List Ty := [(.sl 64 yi), (.int .i64)]
abbrev yAx : Type := List y9 × Bool
abbrev yAy : Type := Int × Int × List ya
abbrev yAz : List Ty := [(.int .i64), (.int .i64), (.sl 58 yn)]
abbrev yCN : Type := Bool × List ya
abbrev yAA : Type := Int × Int × Int × List ye × List y8 × List ya
abbrev yAB : List Ty := [(.int .i64), (.int .i64), (.int .i64), (.sl 3 yg), (.sl 140 yj), (.sl 58 yn)]
abbrev yCO : Type := Int × Bool × Int × List ye × List y8 × List ya
abbrev yvF : Type := Int × Int × List ye × List y8 × List ya
abbrev yAC : List Ty := [(.int .i64), (.int .i64), (.sl 3 yg), (.sl 140 yj), (.sl 58 yn)]
abbrev yn6 : Type := List ye × List y8 × Int
abbrev yn7 : List Ty := [(.sl 3 yg), (.sl 140 yj), (.int .i64)]
abbrev yan : Type := Int × List ye × List y8
abbrev yfA : List Ty := [(.int .i64), (.sl 3 yg), (.sl 140 yj)]
abbrev yCP : Type := Bool × List ye × List y8
abbrev yvG : Type := List yd × Int × Int
abbrev yvH : List Ty := [(.sl 146 yk), (.int .i64), (.int .i64)]
abbrev yeg : Type := List yd × Int
abbrev yeh : List Ty := [(.sl 146 yk), (.int .i64)]
abbrev yn8 : Type := List yd × Bool
abbrev yvI : List Ty := [(.sl 146 yk), .bool]
abbrev yn9 : Type := List yb × Int
abbrev yna : List Ty := [(.sl 113 yf), (.int .i64)]
abbrev yAD : Type := List yb × Bool
abbrev yv4 : Type := ByteArray × Int
abbrev yv5 : List Ty := [.str, (.int .i64)]
abbrev yAE : Type := ByteArray × Bool
abbrev yAF : Type := List yd × Int × Int × List ye
abbrev yAG : List Ty := [(.sl 146 yk), (.int .i64), (.int .i64), (.sl 3 yg)]
abbrev yAH : Type := Int × Int × List ye × List y8 × List yd × List yb × List yl × Int × ByteArray × Int × Int × Bool
abbrev yAI : List Ty := [(.int .i64), (.int .i64), (.sl 3 yg), (.sl 140 yj), (.sl 146 yk), (.sl 113 yf), (.sl 46 yz), (.int .i64), .str, (.int .i64), (.int .i64), .bool]
abbrev yvJ : Type := Bool × Int × List ye × List y8 × List yd × List yb × List yl × Int
abbrev yei : Type := Int × List ye × List y8 × List yd × List yb × List yl × Int
abbrev ymI : List Ty := [(.int .i64), (.sl 3 yg), (.sl 140 yj), (.sl 146 yk), (.sl 113 yf), (.sl 46 yz), (.int .i64)]
abbrev ygj : Type := Bool × List ye × List y8 × List yd × List yb × List yl × Int
abbrev ynb : List Ty := [.bool, (.sl 3 yg), (.sl 140 yj), (.sl 146 yk), (.sl 113 yf), (.sl 46 yz), (.int .i64)]
abbrev yv6 : Type := List yb × Int × Int
abbrev yv7 : List Ty := [(.sl 113 yf), (.int .i64), (.int .i64)]
abbrev yAJ : Type := Int × Bool
abbrev yAK : List Ty := [(.int .i64), .bool]
abbrev ync : Type := Int × Int × Int × List ye × List y8 × List yd × List yb × List yl × Int × List y9
abbrev yv8 : List Ty := [(.int .i64), (.int .i64), (.int .i64), (.sl 3 yg), (.sl 140 yj), (.sl 146 yk), (.sl 113 yf), (.sl 46 yz), (.int .i64), (.sl 64 yi)]
abbrev yCQ : Type := Bool × Int × Int × List ye × List y8 × List yd × List yb × List yl × Int × List y9
abbrev yfB : Type := Int × Int × List ye × List y8 × List yd × List yb × List yl × Int × List y9
abbrev yi0 : List Ty := [(.int .i64), (.int .i64), (.sl 3 yg), (.sl 140 yj), (.sl 146 yk), (.sl 113 yf), (.sl 46 yz), (.int .i64), (.sl 64 yi)]
abbrev yCR : Type := List ye × List y8 × List yd × List yb × List yl × Int × List ye × List y8 × List yd × List yb × List yl × Int × Bool
abbrev yCS : List Ty := [(.sl 3 yg), (.sl 140 yj), (.sl 146 yk), (.sl 113 yf), (.sl 46 yz), (.int .i64), (.sl 3 yg), (.sl 140 yj), (.sl 146 yk), (.sl 113 yf), (.sl 46 yz), (.int .i64), .bool]
abbrev yao : Type := List ye × List y8 × List yd × List yb × List yl × Int × Int
abbrev yap : List Ty := [(.sl 3 yg), (.sl 140 yj), (.sl 146 yk), (.sl 113 yf), (.sl 46 yz), (.int .i64), (.int .i64)]
abbrev y9g : Type := List Vh × Int × Int
abbrev qg : List Ty := [(.sl 5 Yo), (.int .i64), (.int .i64)]
abbrev yAL : Type := List Vh × Int
abbrev yCT : List Ty := [(.sl 5 Yo), (.int .i64)]
abbrev ygk : Type := Int × List Vh × Int × Int
abbrev ymJ : List Ty := [(.int .i64), (.sl 5 Yo), (.int .i64), (.int .i64)]
abbrev yi1 : Type := List Vh × Int × Int × Int
abbrev yi2 : List Ty := [(.sl 5 Yo), (.int .i64), (.int .i64), (.int .i64)]
abbrev yCU : Type := List Vh × Int × Int × List ye
abbrev yCV : List Ty := [(.sl 5 Yo), (.int .i64), (.int .i64), (.sl 3 yg)]
abbrev yCW : Type := List Vh × Int × Int × List qR
abbrev yCX : List Ty := [(.sl 5 Yo), (.int .i64), (.int .i64), (.sl 9 QJ)]
abbrev yAM : Type := ByteArray × List Vh × Int × Int
abbrev yAN : List Ty := [.str, (.sl 5 Yo), (.int .i64), (.int .i64)]
abbrev yCY : Type := Int × ByteArray × ByteArray × Int × Int × List Vh × Int × Int
abbrev yCZ : List Ty := [(.int .i64), .str, .str, (.int .i64), (.int .i64), (.sl 5 Yo), (.int .i64), (.int .i64)]
abbrev yAO : Type := List yd × Int × Int × Bool × Int × List yd
abbrev yAP : List Ty := [(.sl 146 yk), (.int .i64), (.int .i64), .bool, (.int .i64), (.sl 146 yk)]
abbrev yD0 : Type := List yd × Int × Int × Bool × List yd
abbrev yvK : Type := Int × ByteArray × Int × Int × Bool × List yl
abbrev yAQ : List Ty := [(.int .i64), .str, (.int .i64), (.int .i64), .bool, (.sl 46 yz)]
abbrev yvL : Type := List yl × ByteArray × Int × Int × Bool
abbrev yvM : List Ty := [(.sl 46 yz), .str, (.int .i64), (.int .i64), .bool]
abbrev yv9 : Type := List ye × List y8 × List yd × List yb × List yl × Int × ByteArray × Int
abbrev yva : List Ty := [(.sl 3 yg), (.sl 140 yj), (.sl 146 yk), (.sl 113 yf), (.sl 46 yz), (.int .i64), .str, (.int .i64)]
abbrev yD1 : Type := List ye × List y8 × List yd × List yb × List yl × Int × ByteArray × ByteArray × Bool
abbrev yD2 : List Ty := [(.sl 3 yg), (.sl 140 yj), (.sl 146 yk), (.sl 113 yf), (.sl 46 yz), (.int .i64), .str, .str, .bool]
abbrev yAR : Type := List yb × Int × Int × List yb
abbrev yAS : List Ty := [(.sl 113 yf), (.int .i64), (.int .i64), (.sl 113 yf)]
abbrev yD3 : Type := Int × Bool × List yb
abbrev yD4 : Type := List yb × Int × Bool
abbrev yD5 : List Ty := [(.sl 113 yf), (.int .i64), .bool]
abbrev yAT : Type := Int × Int × Int × Int × List ye × List y8
abbrev yAU : List Ty := [(.int .i64), (.int .i64), (.int .i64), (.int .i64), (.sl 3 yg), (.sl 140 yj)]
abbrev yvb : Type := List ye × List y8 × Int × Int
abbrev yvc : List Ty := [(.sl 3 yg), (.sl 140 yj), (.int .i64), (.int .i64)]
abbrev yAV : Type := List y9 × Int × Int × Int × Int × Int × Int × Int × Int
abbrev yAW : List Ty := [(.sl 64 yi), (.int .i64), (.int .i64), (.int .i64), (.int .i64), (.int .i64), (.int .i64), (.int .i64), (.int .i64)]
abbrev yvd : Type := Bool × Int × Int × Int × Int × Int
abbrev yAX : Type := List y9 × Int × Int
abbrev yAY : List Ty := [(.sl 64 yi), (.int .i64), (.int .i64)]
abbrev ydt : Type := Int × Int × Int × Int × Int × Bool
abbrev ydu : List Ty := [(.int .i64), (.int .i64), (.int .i64), (.int .i64), (.int .i64), .bool]
abbrev yvN : Type := List ya × Int × Int × Int × Int × Int
abbrev yvO : List Ty := [(.sl 58 yn), (.int .i64), (.int .i64), (.int .i64), (.int .i64), (.int .i64)]
abbrev yAZ : Type := List ya × Bool
abbrev yB0 : List Ty := [(.sl 58 yn), .bool]
abbrev yD6 : Type := List ye × List y8 × Int × List ye × List y8
abbrev yD7 : List Ty := [(.sl 3 yg), (.sl 140 yj), (.int .i64), (.sl 3 yg), (.sl 140 yj)]
abbrev yB1 : Type := List ye × List y8 × Int × Int × Int × Int × Int
abbrev yB2 : List Ty := [(.sl 3 yg), (.sl 140 yj), (.int .i64), (.int .i64), (.int .i64), (.int .i64), (.int .i64)]
abbrev yB3 : Type := List ye × List y8 × Bool
abbrev yB4 : List Ty := [(.sl 3 yg), (.sl 140 yj), .bool]
abbrev yve : Type := Int × Int × Int × List ya × Int × Int × Int × Int × Int
abbrev yvf : List Ty := [(.int .i64), (.int .i64), (.int .i64), (.sl 58 yn), (.int .i64), (.int .i64), (.int .i64), (.int .i64), (.int .i64)]
abbrev yjK : Type := List ya × Int × Int
abbrev yvg : List Ty := [(.sl 58 yn), (.int .i64), (.int .i64)]
abbrev yD8 : Type := List ye × List y8 × List yd × List yb × List yl × Int × Int × Int × Int × Int × Int × Bool
abbrev yD9 : List Ty := [(.sl 3 yg), (.sl 140 yj), (.sl 146 yk), (.sl 113 yf), (.sl 46 yz), (.int .i64), (.int .i64), (.int .i64), (.int .i64), (.int .i64), (.int .i64), .bool]
abbrev yjL : Type := List ye × List y8 × List yd × List yb × List yl × Int × Int × Int × Int × Int × Int
abbrev yjM : List Ty := [(.sl 3 yg), (.sl 140 yj), (.sl 146 yk), (.sl 113 yf), (.sl 46 yz), (.int .i64), (.int .i64), (.int .i64), (.int .i64), (.int .i64), (.int .i64)]
abbrev yDa : Type := List ye × List y8 × List yd × List yb × List yl × Int × ByteArray × Int × Int
abbrev yDb : List Ty := [(.sl 3 yg), (.sl 140 yj), (.sl 146 yk), (.sl 113 yf), (.sl 46 yz), (.int .i64), .str, (.int .i64), (.int .i64)]
abbrev yB5 : Type := List yd × Int × List ye
abbrev yB6 : List Ty := [(.sl 146 yk), (.int .i64), (.sl 3 yg)]
abbrev yB7 : Type := Int × Int × List y9 × List y9
abbrev yB8 : List Ty := [(.int .i64), (.int .i64), (.sl 64 yi), (.sl 64 yi)]
abbrev yB9 : Type := List ye × Int × Int
abbrev yBa : List Ty := [(.sl 3 yg), (.int .i64), (.int .i64)]
abbrev yvP : Type := List ye × Int
abbrev yvQ : List Ty := [(.sl 3 yg), (.int .i64)]
abbrev yBb : Type := List ye × Bool × Int × Int × Int × Int × Int × Int × Int × Int × Int × Int × Int × List y9
abbrev yBc : List Ty := [(.sl 3 yg), .bool, (.int .i64), (.int .i64), (.int .i64), (.int .i64), (.int .i64), (.int .i64), (.int .i64), (.int .i64), (.int .i64), (.int .i64), (.int .i64), (.sl 64 yi)]
abbrev yBd : Type := Bool × Int × Int × Int × Int × Int × Int × Int × Int × Int × Int
abbrev yBe : Type := List ye × List y8 × Int × List ye
abbrev yBf : List Ty := [(.sl 3 yg), (.sl 140 yj), (.int .i64), (.sl 3 yg)]
abbrev yvh : Type := List ye × List y8 × List yd × Int × Int
abbrev yvi : List Ty := [(.sl 3 yg), (.sl 140 yj), (.sl 146 yk), (.int .i64), (.int .i64)]
abbrev ynd : Type := List ye × List y8 × List yd × List yb × List yl × Int × Int × Int
abbrev yne : List Ty := [(.sl 3 yg), (.sl 140 yj), (.sl 146 yk), (.sl 113 yf), (.sl 46 yz), (.int .i64), (.int .i64), (.int .i64)]
abbrev yej : Type := Int × Int × Bool × Int × List ye × List y8 × List yd × List yb × List yl × Int × Int × Int × List ye × List y8 × List yd × List yb × List yl
abbrev ynf : List Ty := [(.int .i64), (.int .i64), .bool, (.int .i64), (.sl 3 yg), (.sl 140 yj), (.sl 146 yk), (.sl 113 yf), (.sl 46 yz), (.int .i64), (.int .i64), (.int .i64), (.sl 3 yg), (.sl 140 yj), (.sl 146 yk), (.sl 113 yf), (.sl 46 yz)]
abbrev yek : Type := Int × Int × Bool × Int × List ye × List y8 × List yd × List yb × List yl × Int × Int × List ye × List y8 × List yd × Int × List yb × List yl
abbrev yng : List Ty := [(.int .i64), (.int .i64), .bool, (.int .i64), (.sl 3 yg), (.sl 140 yj), (.sl 146 yk), (.sl 113 yf), (.sl 46 yz), (.int .i64), (.int .i64), (.sl 3 yg), (.sl 140 yj), (.sl 146 yk), (.int .i64), (.sl 113 yf), (.sl 46 yz)]
abbrev yvR : Type := Int × Int × Bool × List ye × List y8 × List yd × List yb × List yl × Int × Int × Int × List ye × List y8 × List yd × List yb × List yl
abbrev yvS : Type := Int × Int × Bool × List ye × List y8 × List yd × List yb × List yl × Int × Int × List ye × List y8 × List yd × Int × List yb × List yl
abbrev ynh : Type := Int × ByteArray × ByteArray × Int × Int
abbrev yaY : List Ty := [(.int .i64), .str, .str, (.int .i64), (.int .i64)]
abbrev yel : Type := List ye × List y8 × List yd × List yb × List yl × Int × Bool
abbrev yem : List Ty := [(.sl 3 yg), (.sl 140 yj), (.sl 146 yk), (.sl 113 yf), (.sl 46 yz), (.int .i64), .bool]
abbrev yni : Type := Int × Int × Int × Int × Int × Int × Int × List y9
abbrev ynj : List Ty := [(.int .i64), (.int .i64), (.int .i64), (.int .i64), (.int .i64), (.int .i64), (.int .i64), (.sl 64 yi)]
abbrev ynk : Type := List ye × List y8 × List yd × Int × Int × Int × Int × Int × Int
abbrev ynl : List Ty := [(.sl 3 yg), (.sl 140 yj), (.sl 146 yk), (.int .i64), (.int .i64), (.int .i64), (.int .i64), (.int .i64), (.int .i64)]
abbrev ynm : Type := Int × List ye × List y8 × List yd × List yb × List yl × Int × Int × Int × Int × Int × Int
abbrev ynn : List Ty := [(.int .i64), (.sl 3 yg), (.sl 140 yj), (.sl 146 yk), (.sl 113 yf), (.sl 46 yz), (.int .i64), (.int .i64), (.int .i64), (.int .i64), (.int .i64), (.int .i64)]
abbrev y9h : Type := Int × Int × List ye × List y8 × List yd × List yb × List yl × Int
abbrev ygl : List Ty := [(.int .i64), (.int .i64), (.sl 3 yg), (.sl 140 yj), (.sl 146 yk), (.sl 113 yf), (.sl 46 yz), (.int .i64)]
abbrev yno : Type := List ye × List y8 × List yd × List yb × List yl × Int × Int × Int × Int × Int × Int × Int
abbrev ynp : List Ty := [(.sl 3 yg), (.sl 140 yj), (.sl 146 yk), (.sl 113 yf), (.sl 46 yz), (.int .i64), (.int .i64), (.int .i64), (.int .i64), (.int .i64), (.int .i64), (.int .i64)]
abbrev yvT : Type := Int × Bool × List ye × List y8 × List yd × List yb × List yl × Int
abbrev yjN : Type := Int × List ye × List y8 × List yd × List yb × List yl × Int × List y9
abbrev ynq : List Ty := [(.int .i64), (.sl 3 yg), (.sl 140 yj), (.sl 146 yk), (.sl 113 yf), (.sl 46 yz), (.int .i64), (.sl 64 yi)]
abbrev ynr : Type := List yd × Int × Int × Int × List yd
abbrev yns : List Ty := [(.sl 146 yk), (.int .i64), (.int .i64), (.int .i64), (.sl 146 yk)]
abbrev ynt : Type := List ye × List y8 × List yd × List yb × List yl × Int × Int × ByteArray × ByteArray × Int × Int
abbrev ynu : List Ty := [(.sl 3 yg), (.sl 140 yj), (.sl 146 yk), (.sl 113 yf), (.sl 46 yz), (.int .i64), (.int .i64), .str, .str, (.int .i64), (.int .i64)]
abbrev yen : Type := Int × List Vh × Int × Int × Int × Int × List ye × List y8 × List yd × List yb × List yl
abbrev ynv : List Ty := [(.int .i64), (.sl 5 Yo), (.int .i64), (.int .i64), (.int .i64), (.int .i64), (.sl 3 yg), (.sl 140 yj), (.sl 146 yk), (.sl 113 yf), (.sl 46 yz)]
abbrev yeo : Type := Int × List Vh × Int × Int × Int × List ye × List y8 × List yd × Int × List yb × List yl
abbrev ynw : List Ty := [(.int .i64), (.sl 5 Yo), (.int .i64), (.int .i64), (.int .i64), (.sl 3 yg), (.sl 140 yj), (.sl 146 yk), (.int .i64), (.sl 113 yf), (.sl 46 yz)]
abbrev yvU : Type := List Vh × Int × Int × Int × Int × List ye × List y8 × List yd × List yb × List yl
abbrev yvV : Type := List Vh × Int × Int × Int × List ye × List y8 × List yd × Int × List yb × List yl
abbrev ynx : Type := List ye × List y8 × List yd × List yb × List yl × Int × List Vh × Int × Int
abbrev yny : List Ty := [(.sl 3 yg), (.sl 140 yj), (.sl 146 yk), (.sl 113 yf), (.sl 46 yz), (.int .i64), (.sl 5 Yo), (.int .i64), (.int .i64)]
abbrev yjO : Type := Int × Int × Int × Int × Int × List Vh × Int × Int
abbrev yjP : List Ty := [(.int .i64), (.int .i64), (.int .i64), (.int .i64), (.int .i64), (.sl 5 Yo), (.int .i64), (.int .i64)]
abbrev ynz : Type := Int × List Vh × Int × Int × List ye × List y8
abbrev ynA : List Ty := [(.int .i64), (.sl 5 Yo), (.int .i64), (.int .i64), (.sl 3 yg), (.sl 140 yj)]
abbrev yvW : Type := List Vh × Int × Int × List ye × List y8
abbrev ynB : Type := List ye × List y8 × List Vh × Int × Int
abbrev ynC : List Ty := [(.sl 3 yg), (.sl 140 yj), (.sl 5 Yo), (.int .i64), (.int .i64)]
abbrev yep : Type := Int × List Vh × Int × Int × List ya
abbrev ynD : List Ty := [(.int .i64), (.sl 5 Yo), (.int .i64), (.int .i64), (.sl 58 yn)]
abbrev yvX : Type := List Vh × Int × Int × List ya
abbrev ynE : Type := List ya × List Vh × Int × Int
abbrev ynF : List Ty := [(.sl 58 yn), (.sl 5 Yo), (.int .i64), (.int .i64)]
abbrev ynG : Type := Int × List Vh × Int × Int × List y9
abbrev ynH : List Ty := [(.int .i64), (.sl 5 Yo), (.int .i64), (.int .i64), (.sl 64 yi)]
abbrev yvY : Type := List Vh × Int × Int × List y9
abbrev ynI : Type := List y9 × List Vh × Int × Int
abbrev ynJ : List Ty := [(.sl 64 yi), (.sl 5 Yo), (.int .i64), (.int .i64)]
abbrev yvZ : Type := Bool × List Vh × Int × Int
abbrev yw0 : List Ty := [.bool, (.sl 5 Yo), (.int .i64), (.int .i64)]
abbrev ygm : Type := Int × List Vh × Int × Int × List yd
abbrev ygn : List Ty := [(.int .i64), (.sl 5 Yo), (.int .i64), (.int .i64), (.sl 146 yk)]
abbrev ynK : Type := List Vh × Int × Int × List yd
abbrev ynL : Type := List yd × List Vh × Int × Int
abbrev ynM : List Ty := [(.sl 146 yk), (.sl 5 Yo), (.int .i64), (.int .i64)]
abbrev ynN : Type := Int × List Vh × Int × Int × List yb
abbrev ynO : List Ty := [(.int .i64), (.sl 5 Yo), (.int .i64), (.int .i64), (.sl 113 yf)]
abbrev yw1 : Type := List Vh × Int × Int × List yb
abbrev ynP : Type := List yb × List Vh × Int × Int
abbrev ynQ : List Ty := [(.sl 113 yf), (.sl 5 Yo), (.int .i64), (.int .i64)]
abbrev yeq : Type := Int × Int × List Vh × Int × Int × List ye × List y8 × List yd × List yb × Int × List yl
abbrev ynR : List Ty := [(.int .i64), (.int .i64), (.sl 5 Yo), (.int .i64), (.int .i64), (.sl 3 yg), (.sl 140 yj), (.sl 146 yk), (.sl 113 yf), (.int .i64), (.sl 46 yz)]
abbrev yer : Type := Int × Int × List Vh × Int × Int × List ye × List y8 × List yd × Int × List yb × List yl
abbrev ynS : List Ty := [(.int .i64), (.int .i64), (.sl 5 Yo), (.int .i64), (.int .i64), (.sl 3 yg), (.sl 140 yj), (.sl 146 yk), (.int .i64), (.sl 113 yf), (.sl 46 yz)]
abbrev yw2 : Type := Int × List ye × List y8 × List yd × List yb × Int × List yl
abbrev yaZ : Type := Int × List ye × List y8 × List yd × Int × List yb × List yl
abbrev ynT : List Ty := [(.int .i64), (.sl 3 yg), (.sl 140 yj), (.sl 146 yk), (.int .i64), (.sl 113 yf), (.sl 46 yz)]
abbrev ynU : Type := Bool × List y9 × Int × Int × Int × Int × Int × Int × Int × List y9
abbrev ynV : List Ty := [.bool, (.sl 64 yi), (.int .i64), (.int .i64), (.int .i64), (.int .i64), (.int .i64), (.int .i64), (.int .i64), (.sl 64 yi)]
abbrev ygo : Type := List y9 × Int × Int × List y9
abbrev ygp : List Ty := [(.sl 64 yi), (.int .i64), (.int .i64), (.sl 64 yi)]
abbrev ynW : Type := List ya × Int × Int × List y9
abbrev ynX : List Ty := [(.sl 58 yn), (.int .i64), (.int .i64), (.sl 64 yi)]
abbrev ynY : Type := List y8 × Int × Int × List y9
abbrev ynZ : List Ty := [(.sl 140 yj), (.int .i64), (.int .i64), (.sl 64 yi)]
abbrev yo0 : Type := List y9 × List y9 × Int × Int
abbrev yo1 : List Ty := [(.sl 64 yi), (.sl 64 yi), (.int .i64), (.int .i64)]
abbrev yo2 : Type := Int × List ya × Int × Int × List ya
abbrev yo3 : List Ty := [(.int .i64), (.sl 58 yn), (.int .i64), (.int .i64), (.sl 58 yn)]
abbrev yw3 : Type := Bool × Int × List ya
abbrev yo4 : Type := Int × List ya × Int × Int × List y9 × Int × Int × List ye × List y8
abbrev yo5 : List Ty := [(.int .i64), (.sl 58 yn), (.int .i64), (.int .i64), (.sl 64 yi), (.int .i64), (.int .i64), (.sl 3 yg), (.sl 140 yj)]
abbrev yw4 : Type := Int × Bool × List ya × Int × Int × List ye × List y8
abbrev yjQ : Type := Int × List ya × Int × Int × List ye × List y8
abbrev yo6 : List Ty := [(.int .i64), (.sl 58 yn), (.int .i64), (.int .i64), (.sl 3 yg), (.sl 140 yj)]
abbrev yo7 : Type := Int × List y8 × Int × Int × List ye × List y8
abbrev yo8 : List Ty := [(.int .i64), (.sl 140 yj), (.int .i64), (.int .i64), (.sl 3 yg), (.sl 140 yj)]
abbrev ygq : Type := Bool × Int
abbrev yjR : List Ty := [.bool, (.int .i64)]
abbrev yo9 : Type := List yd × Int × Int × Int
abbrev yoa : List Ty := [(.sl 146 yk), (.int .i64), (.int .i64), (.int .i64)]
abbrev yob : Type := List yd × List yd × Int × Int
abbrev yoc : List Ty := [(.sl 146 yk), (.sl 146 yk), (.int .i64), (.int .i64)]
abbrev yod : Type := List yb × List yb × Int × Int
abbrev yoe : List Ty := [(.sl 113 yf), (.sl 113 yf), (.int .i64), (.int .i64)]
abbrev yof : Type := Int × List yd × Int × Int × List ye
abbrev yog : List Ty := [(.int .i64), (.sl 146 yk), (.int .i64), (.int .i64), (.sl 3 yg)]
abbrev yw5 : Type := ByteArray × Int × Int × Bool × ByteArray × Int × Int × Bool
abbrev yw6 : List Ty := [.str, (.int .i64), (.int .i64), .bool, .str, (.int .i64), (.int .i64), .bool]
abbrev yoh : Type := Bool × ByteArray × Int × Int × Bool
abbrev yoi : List Ty := [.bool, .str, (.int .i64), (.int .i64), .bool]
abbrev yoj : Type := List yl × Int × Int × ByteArray × Int × Int × Bool
abbrev yok : List Ty := [(.sl 46 yz), (.int .i64), (.int .i64), .str, (.int .i64), (.int .i64), .bool]
abbrev yol : Type := Int × ByteArray × Int × Int × Bool
abbrev yw7 : List Ty := [(.int .i64), .str, (.int .i64), (.int .i64), .bool]
abbrev yw8 : Type := ByteArray × Int × Int × Bool
abbrev ydf : List Ty := [.str, (.int .i64), (.int .i64), .bool]
abbrev yom : Type := List yl × Int × Int × List ye × List y8 × List yd × List yb × List yl × Int
abbrev yon : List Ty := [(.sl 46 yz), (.int .i64), (.int .i64), (.sl 3 yg), (.sl 140 yj), (.sl 146 yk), (.sl 113 yf), (.sl 46 yz), (.int .i64)]
abbrev yoo : Type := Int × List yb × Int × Int
abbrev yop : List Ty := [(.int .i64), (.sl 113 yf), (.int .i64), (.int .i64)]
abbrev yoq : Type := Int × Int × Int × List ye × List y8 × List yd × List yb × List yl × Int × List yc8 × List y9
abbrev yor : List Ty := [(.int .i64), (.int .i64), (.int .i64), (.sl 3 yg), (.sl 140 yj), (.sl 146 yk), (.sl 113 yf), (.sl 46 yz), (.int .i64), (.sl 4 y4C), (.sl 64 yi)]
abbrev yos : Type := List yd × Int × Int × List ye × List y8 × List yd × List yb × List yl × Int
abbrev yot : List Ty := [(.sl 146 yk), (.int .i64), (.int .i64), (.sl 3 yg), (.sl 140 yj), (.sl 146 yk), (.sl 113 yf), (.sl 46 yz), (.int .i64)]
abbrev yov : Type := Int × Int × Int × List y9 × List y9
abbrev yow : List Ty := [(.int .i64), (.int .i64), (.int .i64), (.sl 64 yi), (.sl 64 yi)]
abbrev yox : Type := List ye × Int × Int × Int
abbrev yoy : List Ty := [(.sl 3 yg), (.int .i64), (.int .i64), (.int .i64)]
abbrev yoz : Type := List ye × Bool × Int × Int × Int × Int × Int × Int × Int × Int × Int × Int × Int × Int × List y9
abbrev yoA : List Ty := [(.sl 3 yg), .bool, (.int .i64), (.int .i64), (.int .i64), (.int .i64), (.int .i64), (.int .i64), (.int .i64), (.int .i64), (.int .i64), (.int .i64), (.int .i64), (.int .i64), (.sl 64 yi)]
abbrev yoB : Type := List yd × Int × Int × Int × List ye
abbrev yoC : List Ty := [(.sl 146 yk), (.int .i64), (.int .i64), (.int .i64), (.sl 3 yg)]
abbrev yoD : Type := List yl × Int × Int × List ye × List y8 × List yd × List yb × List yl × Int × Int × Int × Int × Int × Int
abbrev yoE : List Ty := [(.sl 46 yz), (.int .i64), (.int .i64), (.sl 3 yg), (.sl 140 yj), (.sl 146 yk), (.sl 113 yf), (.sl 46 yz), (.int .i64), (.int .i64), (.int .i64), (.int .i64), (.int .i64), (.int .i64)]
abbrev yw9 : Type := ByteArray × Int × Int × Bool × Int
abbrev ywa : List Ty := [.str, (.int .i64), (.int .i64), .bool, (.int .i64)]
abbrev yoF : Type := List yl × Int × Int × Int
abbrev yoG : List Ty := [(.sl 46 yz), (.int .i64), (.int .i64), (.int .i64)]
abbrev yoH : Type := List yl × Int
abbrev yoI : List Ty := [(.sl 46 yz), (.int .i64)]
abbrev yoJ : Type := Int × Int × Int × List ye × List y8
abbrev yoK : List Ty := [(.int .i64), (.int .i64), (.int .i64), (.sl 3 yg), (.sl 140 yj)]
abbrev yoL : Type := Int × Int × List y9 × Int × Int × Int × Int × Int × Int × Int
abbrev yoM : List Ty := [(.int .i64), (.int .i64), (.sl 64 yi), (.int .i64), (.int .i64), (.int .i64), (.int .i64), (.int .i64), (.int .i64), (.int .i64)]
abbrev yoN : Type := Int × List y9 × Int × Int
abbrev yoO : List Ty := [(.int .i64), (.sl 64 yi), (.int .i64), (.int .i64)]
abbrev yoP : Type := Int × Int × Int × Int × Int × List ye × List y8 × List yd × List yb × List yl × Int × List y9 × List ye
abbrev yoQ : List Ty := [(.int .i64), (.int .i64), (.int .i64), (.int .i64), (.int .i64), (.sl 3 yg), (.sl 140 yj), (.sl 146 yk), (.sl 113 yf), (.sl 46 yz), (.int .i64), (.sl 64 yi), (.sl 3 yg)]
abbrev ywb : Type := Int × Int × Int × Int × List ye × List y8 × List yd × List yb × List yl × Int × List y9 × List ye
abbrev yjS : Type := Int × Int × List ye × List y8 × List yd × List yb × List yl × Int × List y9 × List ye
abbrev yoR : List Ty := [(.int .i64), (.int .i64), (.sl 3 yg), (.sl 140 yj), (.sl 146 yk), (.sl 113 yf), (.sl 46 yz), (.int .i64), (.sl 64 yi), (.sl 3 yg)]
abbrev ywc : Type := List ye × List y8 × List yd × List yb × List yl × Int × List y9
abbrev yoS : Type := List yd × Int × Int × List ye × List y8 × List yd × List yb × List yl × Int × List y9
abbrev yoT : List Ty := [(.sl 146 yk), (.int .i64), (.int .i64), (.sl 3 yg), (.sl 140 yj), (.sl 146 yk), (.sl 113 yf), (.sl 46 yz), (.int .i64), (.sl 64 yi)]
abbrev yes : Type := List ya × Int × Int × List ya
abbrev yoU : List Ty := [(.sl 58 yn), (.int .i64), (.int .i64), (.sl 58 yn)]
abbrev yet : Type := List y8 × Int × Int × List ye
abbrev yoV : List Ty := [(.sl 140 yj), (.int .i64), (.int .i64), (.sl 3 yg)]
abbrev yeu : Type := List y8 × Int × Int × List ye × List y8
abbrev yoW : List Ty := [(.sl 140 yj), (.int .i64), (.int .i64), (.sl 3 yg), (.sl 140 yj)]
abbrev ywd : Type := List ye × List y8 × Int × Int × List ye × List y8
abbrev ywe : List Ty := [(.sl 3 yg), (.sl 140 yj), (.int .i64), (.int .i64), (.sl 3 yg), (.sl 140 yj)]
abbrev yoX : Type := List yd × Int × Int × Int × Int × List yd
abbrev yoY : List Ty := [(.sl 146 yk), (.int .i64), (.int .i64), (.int .i64), (.int .i64), (.sl 146 yk)]
abbrev ywf : Type := Int × List yd
abbrev y5k : Type := Int × Int × Int × List ye × List y8 × List yd × List yb × List yl
abbrev ygr : List Ty := [(.int .i64), (.int .i64), (.int .i64), (.sl 3 yg), (.sl 140 yj), (.sl 146 yk), (.sl 113 yf), (.sl 46 yz)]
abbrev yev : Type := Int × Int × List ye × List y8 × List yd × Int × List yb × List yl
abbrev yoZ : List Ty := [(.int .i64), (.int .i64), (.sl 3 yg), (.sl 140 yj), (.sl 146 yk), (.int .i64), (.sl 113 yf), (.sl 46 yz)]
abbrev yb0 : Type := Int × Int × List ye × List y8 × List yd × List yb × List yl
abbrev yp0 : List Ty := [(.int .i64), (.int .i64), (.sl 3 yg), (.sl 140 yj), (.sl 146 yk), (.sl 113 yf), (.sl 46 yz)]
abbrev ywg : Type := List Vh × Int × Int × List ye × List y8 × List yd × List yb × List yl × Int
abbrev ywh : List Ty := [(.sl 5 Yo), (.int .i64), (.int .i64), (.sl 3 yg), (.sl 140 yj), (.sl 146 yk), (.sl 113 yf), (.sl 46 yz), (.int .i64)]
def yp1 : List (Nat × TI) := [
 (3, .c (.int .i64) 8),
 (4, .c (.bool) 1),
 (5, .c (.int .u8) 1),
 (9, .c (.str) 16),
 (22, .c (.sl 5 Yo) 24),
 (24, .c (.sl 3 yg) 24),
 (25, .c (.sl 140 yj) 24),
 (27, .s [(0, 24), (1, 25)] [(.sl 3 yg), (.sl 140 yj)] 48),
 (28, .c (.sl 146 yk) 24),
 (29, .c (.sl 113 yf) 24),
 (30, .c (.sl 46 yz) 24),
 (32, .s [(0, 27), (2, 28), (3, 29), (4, 30), (5, 3)] [(.sl 3 yg), (.sl 140 yj), (.sl 146 yk), (.sl 113 yf), (.sl 46 yz), (.int .i64)] 128),
 (41, .s [(0, 3), (1, 9), (2, 9), (3, 3), (4, 3)] [(.int .i64), .str, .str, (.int .i64), (.int .i64)] 56),
 (46, .s [(0, 9), (1, 3), (2, 3), (3, 4)] [.str, (.int .i64), (.int .i64), .bool] 40),
 (58, .c (.sl 64 yi) 24),
 (64, .s [(0, 3), (1, 3), (2, 3), (3, 3), (4, 3)] [(.int .i64), (.int .i64), (.int .i64), (.int .i64), (.int .i64)] 40),
 (113, .s [(0, 3), (1, 4), (2, 3)] [(.int .i64), .bool, (.int .i64)] 24),
 (138, .c (.sl 58 yn) 24),
 (140, .s [(0, 138)] [(.sl 58 yn)] 24),
 (146, .s [(0, 3), (1, 3)] [(.int .i64), (.int .i64)] 16),
 (218, .s [(0, 22), (1, 3), (2, 3)] [(.sl 5 Yo), (.int .i64), (.int .i64)] 40),
 (221, .c (.sl 9 QJ) 24),
 (235, .c (.sl 4 y4C) 24)]
def sg9 : Sig := ⟨[.v false [(.sl 5 Yo)] [false]], [⟨false, [.bool], [false]⟩], false, false⟩
def yBg : Sig := ⟨[.v false [(.sl 3 yg)] [false], .v false [(.sl 3 yg)] [false]], [⟨false, [.bool], [false]⟩], false, false⟩
def yp2 : Sig := ⟨[.v false [(.sl 64 yi)] [false], .v false [(.sl 64 yi)] [false]], [⟨false, [.bool], [false]⟩], false, false⟩
def yp3 : Sig := ⟨[.v true [(.sl 58 yn)] [false], .v true [(.sl 58 yn)] [false]], [⟨false, [.bool], [false]⟩], false, false⟩
def yp4 : Sig := ⟨[.v true W8 [false, false], .v true W8 [false, false]], [⟨false, [.bool], [false]⟩], false, false⟩
def yp5 : Sig := ⟨[.v false [(.sl 146 yk)] [false], .v false [(.sl 146 yk)] [false]], [⟨false, [.bool], [false]⟩], false, false⟩
def yp6 : Sig := ⟨[.v false [(.sl 113 yf)] [false], .v false [(.sl 113 yf)] [false]], [⟨false, [.bool], [false]⟩], false, false⟩
def yBh : Sig := ⟨[.v true zY (nf 6), .v true zY (nf 6)], [⟨false, [.bool], [false]⟩], false, false⟩
def yp7 : Sig := ⟨[.v true [(.sl 58 yn)] [false]], [⟨true, [(.sl 58 yn)], [true]⟩], false, false⟩
def yp8 : Sig := ⟨[.v true W8 [false, false]], [⟨true, W8, [true, true]⟩], false, false⟩
def yp9 : Sig := ⟨[.v false [(.sl 113 yf)] [false]], [⟨false, [(.sl 113 yf)], [true]⟩], false, false⟩
def yBi : Sig := ⟨[.v true zY (nf 6)], [⟨true, zY, [true, true, true, true, true, false]⟩], false, false⟩
def ypa : Sig := ⟨[.v true zY (nf 6), .v false [.str] [false]], [⟨false, [(.int .i64)], [false]⟩], false, false⟩
def yBj : Sig := ⟨[.v false [(.int .i64)] [false], .v false [(.int .i64)] [false], .v false [(.int .i64)] [false]], [⟨false, [.bool], [false]⟩], false, false⟩
def ypb : Sig := ⟨[.v false [(.sl 64 yi)] [false]], [⟨false, [(.sl 64 yi)], [true]⟩], false, false⟩
def ypc : Sig := ⟨[.v true KW (nf 5), .v true KW (nf 5)], [⟨false, [.bool], [false]⟩], false, false⟩
def ypd : Sig := ⟨[.v true KW (nf 5), .v true KW (nf 5)], [⟨false, [.bool], [false]⟩], false, false⟩
def ype : Sig := ⟨[.v false [(.sl 64 yi)] [false], .v true KW (nf 5)], [⟨false, [(.sl 64 yi)], [true]⟩], false, false⟩
def ypf : Sig := ⟨[.v false [(.sl 64 yi)] [false], .v false [(.sl 64 yi)] [false]], [⟨false, [(.sl 64 yi)], [true]⟩], false, false⟩
def ypg : Sig := ⟨[.v true [(.sl 58 yn)] [false]], [⟨false, [(.sl 64 yi)], [true]⟩], false, false⟩
def yph : Sig := ⟨[.v true W8 [false, false]], [⟨false, [(.sl 64 yi)], [true]⟩], false, false⟩
def ypi : Sig := ⟨[.v false [(.int .i64)] [false], .v false [(.int .i64)] [false]], [⟨false, [(.int .i64)], [false]⟩], false, false⟩
def ypj : Sig := ⟨[.v true KW (nf 5)], [⟨false, [(.int .i64)], [false]⟩], false, false⟩
def ypk : Sig := ⟨[.v true KW (nf 5)], [⟨false, [.bool], [false]⟩], false, false⟩
def ypl : Sig := ⟨[.v false [(.sl 64 yi)] [false]], [⟨false, [.bool], [false]⟩], false, false⟩
def ypm : Sig := ⟨[.v false [(.sl 64 yi)] [false]], [⟨false, [.bool], [false]⟩], false, false⟩
def ypn : Sig := ⟨[.v true [(.sl 58 yn)] [false]], [⟨false, [(.int .i64)], [false]⟩], false, false⟩
def ypo : Sig := ⟨[.v true [(.sl 58 yn)] [false]], [⟨false, [.bool], [false]⟩], false, false⟩
def ypp : Sig := ⟨[.v true W8 [false, false], .v false [(.int .i64)] [false]], [⟨false, [.bool], [false]⟩], false, false⟩
def ypq : Sig := ⟨[.v true W8 [false, false]], [⟨false, [.bool], [false]⟩], false, false⟩
def ypr : Sig := ⟨[.v false [(.sl 146 yk)] [false], .v false [(.int .i64)] [false]], [⟨false, [(.int .i64)], [false]⟩], false, false⟩
def yps : Sig := ⟨[.v false [(.sl 146 yk)] [false]], [⟨false, [.bool], [false]⟩], false, false⟩
def ypt : Sig := ⟨[.v false [(.int .i64)] [false]], [⟨false, [.bool], [false]⟩], false, false⟩
def ypu : Sig := ⟨[.v false [(.sl 113 yf)] [false]], [⟨false, [.bool], [false]⟩], false, false⟩
def ypv : Sig := ⟨[.v false [.str] [false]], [⟨false, [.bool], [false]⟩], false, false⟩
def ypw : Sig := ⟨[.v false [(.sl 146 yk)] [false], .v false [(.int .i64)] [false]], [⟨false, [(.sl 3 yg)], [true]⟩], false, false⟩
def ypx : Sig := ⟨[.v true zY (nf 6)], [⟨false, [.bool], [false]⟩], false, false⟩
def ypy : Sig := ⟨[.v false [(.sl 113 yf)] [false]], [⟨false, [(.int .i64)], [false]⟩], false, false⟩
def ypz : Sig := ⟨[.v false [(.sl 113 yf)] [false], .v false [(.int .i64)] [false], .v false [(.int .i64)] [false]], [⟨false, [(.int .i64)], [false]⟩, ⟨false, [.bool], [false]⟩], false, false⟩
def ypA : Sig := ⟨[.v true zY (nf 6)], [⟨false, [.bool], [false]⟩], false, false⟩
def yBk : Sig := ⟨[.v true zY (nf 6)], [⟨false, [.bool], [false]⟩], false, false⟩
def ypB : Sig := ⟨[.v true zY (nf 6), .v true zY [false, false, false, true, true, false], .v false [.bool] [false]], [⟨true, zY, [false, false, false, true, true, false]⟩, ⟨false, [(.int .i64)], [false]⟩], false, false⟩
def ypC : Sig := ⟨[.v true zY (nf 6), .v false [.str] [false]], [⟨false, [(.int .i64)], [false]⟩], false, false⟩
def ypD : Sig := ⟨[.v true zY (nf 6), .v false [.str] [false]], [⟨false, [(.int .i64)], [false]⟩], false, false⟩
def yBl : Sig := ⟨[.v true zY (nf 6), .v false [.str] [false]], [⟨true, zY, [false, false, false, true, true, false]⟩, ⟨false, [(.int .i64)], [false]⟩], false, false⟩
def ypE : Sig := ⟨[.v false [(.sl 5 Yo)] [false]], [⟨true, qg, (nf 3)⟩], true, false⟩
def ypF : Sig := ⟨[.v false [(.sl 5 Yo)] [false], .v false [(.int .i64)] [false]], [⟨false, [(.int .i64)], [false]⟩], false, false⟩
def ypG : Sig := ⟨[.p none qg (nf 3)], [⟨false, [(.int .i64)], [false]⟩], false, false⟩
def ypH : Sig := ⟨[.p none qg (nf 3), .v false [(.int .i64)] [false]], [⟨false, [(.int .i64)], [false]⟩], false, false⟩
def yBm : Sig := ⟨[.p none qg (nf 3), .v false [(.sl 3 yg)] [false]], [⟨false, [(.int .i64)], [false]⟩], false, false⟩
def ypI : Sig := ⟨[.p none qg (nf 3), .v false [(.sl 9 QJ)] [false]], [⟨false, [.str], [false]⟩], false, false⟩
def ypJ : Sig := ⟨[.p none qg (nf 3)], [⟨false, [.str], [false]⟩], false, false⟩
def ypK : Sig := ⟨[.p none qg (nf 3)], [⟨false, [(.int .i64)], [false]⟩], false, false⟩
def ypL : Sig := ⟨[.p none qg (nf 3)], [⟨true, yaY, (nf 5)⟩], false, false⟩
def ypM : Sig := ⟨[], [⟨true, W8, [true, true]⟩], false, false⟩
def ypN : Sig := ⟨[], [⟨false, [(.sl 113 yf)], [true]⟩], false, false⟩
def ypO : Sig := ⟨[], [⟨true, zY, [true, true, true, true, true, false]⟩], false, false⟩
def ypP : Sig := ⟨[.v false [(.sl 146 yk)] [false], .v false [(.int .i64)] [false], .v false [(.int .i64)] [false]], [⟨false, [(.sl 146 yk)], [true]⟩, ⟨false, [.bool], [false]⟩], false, false⟩
def ypQ : Sig := ⟨[.v false [(.sl 46 yz)] [false], .v true ydf (nf 4)], [⟨false, [(.sl 46 yz)], [true]⟩], false, false⟩
def yBn : Sig := ⟨[.v true zY (nf 6), .v false [.str] [false], .v false [(.int .i64)] [false]], [⟨true, zY, [false, false, false, true, true, false]⟩, ⟨false, [(.int .i64)], [false]⟩], false, false⟩
def yBo : Sig := ⟨[.v true zY (nf 6), .v false [.str] [false], .v false [.str] [false], .v false [.bool] [false]], [⟨true, zY, [false, false, false, true, true, false]⟩, ⟨false, [(.int .i64)], [false]⟩], false, false⟩
def ypR : Sig := ⟨[.v false [(.sl 113 yf)] [false], .v false [(.int .i64)] [false]], [⟨false, [(.sl 113 yf)], [true]⟩, ⟨false, [(.int .i64)], [false]⟩, ⟨false, [.bool], [false]⟩], false, false⟩
def ypS : Sig := ⟨[.v true zY (nf 6), .v false [.str] [false], .v false [(.int .i64)] [false]], [⟨false, [(.int .i64)], [false]⟩], false, false⟩
def ypT : Sig := ⟨[.v true W8 [false, false], .v false [(.int .i64)] [false], .v false [(.int .i64)] [false]], [⟨false, [(.int .i64)], [false]⟩], false, false⟩
def ypU : Sig := ⟨[.v false [(.sl 64 yi)] [false]], [⟨true, [(.sl 58 yn)], [true]⟩], false, false⟩
def ypV : Sig := ⟨[.v false [(.sl 64 yi)] [false], .v false [(.int .i64)] [false], .v false [(.int .i64)] [false]], [⟨true, KW, (nf 5)⟩, ⟨false, [.bool], [false]⟩], false, false⟩
def ypW : Sig := ⟨[.v true [(.sl 58 yn)] [false], .v true KW (nf 5)], [⟨true, [(.sl 58 yn)], [true]⟩, ⟨false, [.bool], [false]⟩], false, false⟩
def ypX : Sig := ⟨[.v true W8 [true, true], .v false [(.int .i64)] [false], .v false [(.sl 3 yg)] [false], .v false [(.sl 140 yj)] [false]], [⟨true, W8, [true, true]⟩], false, true⟩
def ypY : Sig := ⟨[.v true W8 [false, false]], [⟨false, [(.int .i64)], [false]⟩], false, false⟩
def ypZ : Sig := ⟨[.v true W8 [true, true]], [⟨true, W8, [true, true]⟩], false, false⟩
def yq0 : Sig := ⟨[.v true W8 [false, false], .v true KW (nf 5)], [⟨true, W8, [true, true]⟩, ⟨false, [.bool], [false]⟩], false, false⟩
def yq1 : Sig := ⟨[.v true [(.sl 58 yn)] [false], .v false [(.int .i64)] [false], .v false [(.int .i64)] [false]], [⟨true, KW, (nf 5)⟩, ⟨false, [.bool], [false]⟩], false, false⟩
def yq2 : Sig := ⟨[.v true W8 [false, false], .v false [(.int .i64)] [false], .v false [(.int .i64)] [false]], [⟨true, KW, (nf 5)⟩, ⟨false, [.bool], [false]⟩], false, false⟩
def yq3 : Sig := ⟨[.v false [(.sl 113 yf)] [false], .v false [(.int .i64)] [false]], [⟨false, [(.sl 113 yf)], [true]⟩], false, false⟩
def yq4 : Sig := ⟨[.p none zY [false, false, false, true, true, false], .v true KW (nf 5), .v false [.bool] [false]], [], false, false⟩
def yq5 : Sig := ⟨[.p none zY [false, false, false, true, true, false], .v true KW (nf 5)], [⟨false, [.bool], [false]⟩], false, false⟩
def yBp : Sig := ⟨[.v true zY (nf 6), .v false [.str] [false], .v false [(.int .i64)] [false], .v false [(.int .i64)] [false]], [⟨true, zY, [false, false, false, true, true, false]⟩, ⟨false, [(.int .i64)], [false]⟩], false, false⟩
def yq6 : Sig := ⟨[.v false [(.sl 146 yk)] [false], .v false [(.int .i64)] [false]], [⟨false, [(.sl 3 yg)], [true]⟩], false, false⟩
def yq7 : Sig := ⟨[.v true W8 [false, false], .v false [(.int .i64)] [false]], [⟨false, [(.sl 64 yi)], [true]⟩], false, false⟩
def yq8 : Sig := ⟨[.v false [(.sl 3 yg)] [false], .v false [(.int .i64)] [false]], [⟨false, [.bool], [false]⟩], false, false⟩
def yq9 : Sig := ⟨[.v true W8 [false, false], .v false [(.int .i64)] [false], .v false [(.sl 3 yg)] [false]], [⟨true, KW, (nf 5)⟩, ⟨false, [.bool], [false]⟩], false, false⟩
def yqa : Sig := ⟨[.v true W8 [false, false], .v false [(.sl 146 yk)] [false], .v false [(.int .i64)] [false], .v false [(.int .i64)] [false]], [⟨true, KW, (nf 5)⟩, ⟨false, [.bool], [false]⟩], false, false⟩
def yqb : Sig := ⟨[.p none zY [false, false, false, true, true, false], .v false [(.int .i64)] [false], .v false [(.int .i64)] [false]], [⟨false, [.bool], [false]⟩], false, false⟩
def yBq : Sig := ⟨[.v true zY (nf 6), .v false [.str] [false], .v false [(.int .i64)] [false]], [⟨true, zY, [false, false, false, true, true, false]⟩, ⟨false, [(.int .i64)], [false]⟩], false, false⟩
def yBr : Sig := ⟨[.v true zY (nf 6), .v false [.str] [false], .v false [(.int .i64)] [false]], [⟨true, zY, [false, false, false, true, true, false]⟩, ⟨false, [(.int .i64)], [false]⟩], false, false⟩
def yqc : Sig := ⟨[.v true yaY (nf 5)], [⟨false, [.bool], [false]⟩], false, false⟩
def yqd : Sig := ⟨[.v true yaY (nf 5)], [⟨false, [.bool], [false]⟩], false, false⟩
def yqe : Sig := ⟨[.v true [(.sl 58 yn)] [false]], [⟨true, [(.sl 58 yn)], [true]⟩], false, false⟩
def yBs : Sig := ⟨[.v true W8 [false, false], .v false [(.int .i64)] [false]], [⟨true, W8, [true, true]⟩], false, false⟩
def yBt : Sig := ⟨[.v true zY (nf 6), .v false [(.int .i64)] [false]], [⟨true, zY, [true, true, true, true, true, false]⟩, ⟨false, [.bool], [false]⟩], false, false⟩
def yqf : Sig := ⟨[.v true zY (nf 6), .v false [(.int .i64)] [false]], [⟨true, KW, (nf 5)⟩], false, false⟩
def yBu : Sig := ⟨[.v true zY (nf 6), .v false [(.int .i64)] [false]], [⟨true, zY, [true, true, true, true, true, false]⟩, ⟨false, [.bool], [false]⟩], false, false⟩
def yqg : Sig := ⟨[.v true W8 [false, false], .v false [(.sl 146 yk)] [false], .v false [(.int .i64)] [false], .v false [(.int .i64)] [false]], [⟨true, KW, (nf 5)⟩, ⟨false, [.bool], [false]⟩], false, false⟩
def yqh : Sig := ⟨[.v true W8 [false, false], .v false [(.sl 146 yk)] [false], .v true KW (nf 5), .v false [(.int .i64)] [false]], [⟨false, [.bool], [false]⟩], false, false⟩
def yBv : Sig := ⟨[.v true zY (nf 6), .v true KW (nf 5)], [⟨false, [.bool], [false]⟩], false, false⟩
def yqi : Sig := ⟨[.v true zY (nf 6), .v false [(.int .i64)] [false]], [⟨false, [.bool], [false]⟩], false, false⟩
def yqj : Sig := ⟨[.v true zY (nf 6), .v false [(.int .i64)] [false]], [⟨false, [(.int .i64)], [false]⟩], false, false⟩
def yqk : Sig := ⟨[.v true zY (nf 6), .v true KW (nf 5)], [⟨false, [.bool], [false]⟩], false, false⟩
def yql : Sig := ⟨[.v true zY (nf 6), .v false [(.int .i64)] [false], .v true KW (nf 5)], [⟨false, [.bool], [false]⟩], false, false⟩
def yqm : Sig := ⟨[.v true zY (nf 6), .v false [(.int .i64)] [false]], [⟨false, [.bool], [false]⟩], false, false⟩
def yBw : Sig := ⟨[.v true zY (nf 6)], [⟨false, [(.int .i64)], [false]⟩, ⟨false, [(.int .i64)], [false]⟩], false, false⟩
def yqn : Sig := ⟨[.p none zY [false, false, false, true, true, false], .v true KW (nf 5)], [⟨false, [.bool], [false]⟩], false, false⟩
def yqo : Sig := ⟨[.v false [(.sl 146 yk)] [false], .v false [(.int .i64)] [false]], [⟨false, [(.sl 146 yk)], [true]⟩, ⟨false, [.bool], [false]⟩], false, false⟩
def yBx : Sig := ⟨[.v true zY (nf 6)], [⟨true, zY, [false, false, false, true, true, false]⟩, ⟨false, [.bool], [false]⟩], false, false⟩
def yqp : Sig := ⟨[.v true zY (nf 6), .v true yaY (nf 5)], [⟨true, zY, [false, false, false, true, true, false]⟩, ⟨false, [.bool], [false]⟩], false, false⟩
def yqq : Sig := ⟨[.v true zY (nf 6), .v true yaY (nf 5)], [⟨true, zY, [false, false, false, true, true, false]⟩, ⟨false, [(.int .i64)], [false]⟩], false, false⟩
def yqr : Sig := ⟨[.p none qg (nf 3), .v false [(.int .i64)] [false]], [⟨true, zY, [false, false, false, true, true, false]⟩], false, false⟩
def yqs : Sig := ⟨[.p none qg (nf 3)], [⟨true, KW, (nf 5)⟩], false, false⟩
def yqt : Sig := ⟨[.p none qg (nf 3)], [⟨true, KW, (nf 5)⟩], false, false⟩
def yqu : Sig := ⟨[.p none qg (nf 3), .v false [(.int .i64)] [false]], [⟨true, W8, [true, true]⟩], false, false⟩
def yqv : Sig := ⟨[.p none qg (nf 3)], [⟨true, [(.sl 58 yn)], [true]⟩], false, false⟩
def yqw : Sig := ⟨[.p none qg (nf 3), .v false [(.int .i64)] [false]], [⟨false, [(.sl 64 yi)], [true]⟩], false, false⟩
def yqx : Sig := ⟨[.p none qg (nf 3)], [⟨true, KW, (nf 5)⟩], false, false⟩
def yqy : Sig := ⟨[.p none qg (nf 3), .v false [(.int .i64)] [false]], [⟨false, [(.sl 64 yi)], [true]⟩], false, false⟩
def yqz : Sig := ⟨[.p none qg (nf 3)], [⟨true, [(.sl 58 yn)], [true]⟩], false, false⟩
def yqA : Sig := ⟨[.p none qg (nf 3), .v false [(.int .i64)] [false]], [⟨true, W8, [true, true]⟩], false, false⟩
def yqB : Sig := ⟨[.p none qg (nf 3), .v false [(.int .i64)] [false]], [⟨false, [.bool], [false]⟩], false, false⟩
def yqC : Sig := ⟨[.p none qg (nf 3)], [⟨false, [(.sl 146 yk)], [true]⟩], false, false⟩
def yqD : Sig := ⟨[.p none qg (nf 3)], [⟨false, [(.sl 146 yk)], [true]⟩], false, false⟩
def yqE : Sig := ⟨[.p none qg (nf 3)], [⟨false, [(.sl 113 yf)], [true]⟩], false, false⟩
def yqF : Sig := ⟨[.p none qg (nf 3)], [⟨false, [(.sl 113 yf)], [false]⟩], false, false⟩
def yqG : Sig := ⟨[.p none qg (nf 3), .v false [(.int .i64)] [false]], [⟨true, zY, [false, false, false, false, true, false]⟩], false, false⟩
def yqH : Sig := ⟨[.v false [(.sl 5 Yo)] [false]], [⟨true, zY, [false, false, false, false, true, false]⟩], false, false⟩
def yBy : Sig := ⟨[.v false [(.sl 5 Yo)] [false]], [⟨true, zY, [false, false, false, false, true, false]⟩], false, false⟩
def yqI : Sig := ⟨[.v true KW (nf 5), .v true KW (nf 5)], [⟨false, [.bool], [false]⟩], false, false⟩
def yqJ : Sig := ⟨[.v true KW (nf 5), .v true KW (nf 5)], [⟨false, [.bool], [false]⟩], false, false⟩
def yqK : Sig := ⟨[.v false [(.sl 64 yi)] [false], .v true KW (nf 5)], [⟨false, [(.sl 64 yi)], [true]⟩], false, false⟩
def yqL : Sig := ⟨[.v false [(.sl 64 yi)] [false]], [⟨false, [(.sl 64 yi)], [true]⟩], false, false⟩
def yqM : Sig := ⟨[.v false [(.sl 64 yi)] [false], .v false [(.sl 64 yi)] [false]], [⟨false, [(.sl 64 yi)], [true]⟩], false, false⟩
def yqN : Sig := ⟨[.v false [(.sl 64 yi)] [false]], [⟨false, [(.sl 64 yi)], [true]⟩], false, false⟩
def yqO : Sig := ⟨[.v true [(.sl 58 yn)] [false]], [⟨false, [(.sl 64 yi)], [true]⟩], false, false⟩
def yBz : Sig := ⟨[.v true W8 [false, false]], [⟨false, [(.sl 64 yi)], [true]⟩], false, false⟩
def yBA : Sig := ⟨[.v false [(.int .i64)] [false], .v false [(.int .i64)] [false], .v false [(.int .i64)] [false]], [⟨false, [.bool], [false]⟩], false, false⟩
def yqP : Sig := ⟨[.v true KW (nf 5)], [⟨false, [.bool], [false]⟩], false, false⟩
def yqQ : Sig := ⟨[.v false [(.sl 64 yi)] [false]], [⟨false, [.bool], [false]⟩], false, false⟩
def yqR : Sig := ⟨[.v true [(.sl 58 yn)] [false]], [⟨false, [.bool], [false]⟩], false, false⟩
def yqS : Sig := ⟨[.v false [(.int .i64)] [false], .v false [(.int .i64)] [false]], [⟨false, [(.int .i64)], [false]⟩], false, false⟩
def yqT : Sig := ⟨[.v true W8 [false, false], .v false [(.int .i64)] [false]], [⟨false, [.bool], [false]⟩], false, false⟩
def yqU : Sig := ⟨[.v true W8 [false, false]], [⟨false, [.bool], [false]⟩], false, false⟩
def yqV : Sig := ⟨[.v true yjJ [false, false], .p none [(.int .i64)] [false]], [⟨false, [.bool], [false]⟩], false, false⟩
def yc9 : Sig := ⟨[.v false [(.sl 146 yk)] [false], .p (some 319) [(.int .i64)] [false]], [⟨false, [(.int .i64)], [false]⟩], false, false⟩
def yqW : Sig := ⟨[.v false [(.sl 146 yk)] [false], .v false [(.int .i64)] [false]], [⟨false, [(.int .i64)], [false]⟩], false, false⟩
def yqX : Sig := ⟨[.v false [(.sl 146 yk)] [false]], [⟨false, [.bool], [false]⟩], false, false⟩
def yqY : Sig := ⟨[.v false [(.int .i64)] [false]], [⟨false, [.bool], [false]⟩], false, false⟩
def yqZ : Sig := ⟨[.v false [(.sl 113 yf)] [false]], [⟨false, [.bool], [false]⟩], false, false⟩
def yr0 : Sig := ⟨[.v false [.str] [false]], [⟨false, [.bool], [false]⟩], false, false⟩
def yr1 : Sig := ⟨[.v false [(.sl 146 yk)] [false], .v false [(.int .i64)] [false]], [⟨false, [(.sl 3 yg)], [true]⟩], false, false⟩
def yr2 : Sig := ⟨[.v true ydf (nf 4), .p none ydf (nf 4)], [⟨false, [.bool], [false]⟩], false, false⟩
def yca : Sig := ⟨[.v false [(.sl 46 yz)] [false], .p (some 254) ydf (nf 4)], [⟨false, [(.int .i64)], [false]⟩], false, false⟩
def ycb : Sig := ⟨[.v false [(.sl 46 yz)] [false], .p (some 254) ydf (nf 4)], [⟨false, [.bool], [false]⟩], false, false⟩
def yr3 : Sig := ⟨[.v true zY (nf 6)], [⟨false, [.bool], [false]⟩], false, false⟩
def yBB : Sig := ⟨[.v false [(.sl 113 yf)] [false]], [⟨false, [(.int .i64)], [false]⟩], false, false⟩
def yr4 : Sig := ⟨[.v false [(.sl 113 yf)] [false], .v false [(.int .i64)] [false], .v false [(.int .i64)] [false]], [⟨false, [(.int .i64)], [false]⟩, ⟨false, [.bool], [false]⟩], false, false⟩
def yr5 : Sig := ⟨[.v true zY (nf 6)], [⟨false, [.bool], [false]⟩], false, false⟩
def yBC : Sig := ⟨[.v true zY (nf 6)], [⟨false, [.bool], [false]⟩], false, false⟩
def yr6 : Sig := ⟨[.v true W8 [false, false], .v false [(.int .i64)] [false]], [⟨false, [(.sl 64 yi)], [true]⟩], false, false⟩
def yr7 : Sig := ⟨[.v false [(.sl 3 yg)] [false], .v false [(.int .i64)] [false]], [⟨false, [(.int .i64)], [false]⟩], false, false⟩
def yr8 : Sig := ⟨[.v false [(.sl 3 yg)] [false], .v false [(.int .i64)] [false]], [⟨false, [.bool], [false]⟩], false, false⟩
def yr9 : Sig := ⟨[.v true W8 [false, false], .v false [(.int .i64)] [false], .v false [(.sl 3 yg)] [false]], [⟨true, KW, (nf 5)⟩, ⟨false, [.bool], [false]⟩], false, false⟩
def yra : Sig := ⟨[.v false [(.sl 146 yk)] [false], .v false [(.int .i64)] [false]], [⟨false, [(.sl 3 yg)], [true]⟩], false, false⟩
def yrb : Sig := ⟨[.v true W8 [false, false], .v false [(.sl 146 yk)] [false], .v false [(.int .i64)] [false], .v false [(.int .i64)] [false]], [⟨true, KW, (nf 5)⟩, ⟨false, [.bool], [false]⟩], false, false⟩
def yrc : Sig := ⟨[.v true W8 [false, false], .v false [(.sl 146 yk)] [false], .v true KW (nf 5), .v false [(.int .i64)] [false]], [⟨false, [.bool], [false]⟩], false, false⟩
def yBD : Sig := ⟨[.v true zY (nf 6), .v true KW (nf 5)], [⟨false, [.bool], [false]⟩], false, false⟩
def yrd : Sig := ⟨[.v true ydf (nf 4), .p none [(.int .i64)] [false]], [⟨false, [.bool], [false]⟩], false, false⟩
def ycc : Sig := ⟨[.v false [(.sl 46 yz)] [false], .p (some 256) [(.int .i64)] [false]], [⟨false, [(.int .i64)], [false]⟩], false, false⟩
def ycd : Sig := ⟨[.v false [(.sl 46 yz)] [false], .p (some 256) [(.int .i64)] [false]], [⟨false, [.bool], [false]⟩], false, false⟩
def yre : Sig := ⟨[.v true zY (nf 6), .v false [(.int .i64)] [false]], [⟨false, [.bool], [false]⟩], false, false⟩
def yrf : Sig := ⟨[.v true W8 [false, false], .v false [(.int .i64)] [false], .v false [(.int .i64)] [false]], [⟨false, [(.int .i64)], [false]⟩], false, false⟩
def yrg : Sig := ⟨[.v false [(.sl 64 yi)] [false], .v false [(.int .i64)] [false], .v false [(.int .i64)] [false]], [⟨true, KW, (nf 5)⟩, ⟨false, [.bool], [false]⟩], false, false⟩
def yrh : Sig := ⟨[.v true [(.sl 58 yn)] [false], .v false [(.int .i64)] [false], .v false [(.int .i64)] [false]], [⟨true, KW, (nf 5)⟩, ⟨false, [.bool], [false]⟩], false, false⟩
def yri : Sig := ⟨[.v true W8 [false, false], .v false [(.int .i64)] [false], .v false [(.int .i64)] [false]], [⟨true, KW, (nf 5)⟩, ⟨false, [.bool], [false]⟩], false, false⟩
def yrj : Sig := ⟨[.v true W8 [false, false], .v false [(.sl 146 yk)] [false], .v false [(.int .i64)] [false], .v false [(.int .i64)] [false]], [⟨true, KW, (nf 5)⟩, ⟨false, [.bool], [false]⟩], false, false⟩
def yrk : Sig := ⟨[.v true zY (nf 6), .v false [(.int .i64)] [false], .v true KW (nf 5)], [⟨false, [.bool], [false]⟩], false, false⟩
def yrl : Sig := ⟨[.v false [(.sl 64 yi)] [false], .v false [(.int .i64)] [false]], [⟨false, [.bool], [false]⟩], false, false⟩
def yBE : Sig := ⟨[.v true zY (nf 6)], [⟨false, [(.int .i64)], [false]⟩, ⟨false, [(.int .i64)], [false]⟩], false, false⟩
def yrm : Sig := ⟨[.v false [(.sl 3 yg)] [false]], [⟨false, [(.sl 3 yg)], [true]⟩], false, false⟩
def yrn : Sig := ⟨[.v true [(.sl 58 yn)] [false]], [⟨true, [(.sl 58 yn)], [true]⟩], false, false⟩
def yro : Sig := ⟨[.v true W8 [false, false]], [⟨true, W8, [true, true]⟩], false, false⟩
def yrp : Sig := ⟨[.v false [(.sl 146 yk)] [false]], [⟨false, [(.sl 146 yk)], [true]⟩], false, false⟩
def yrq : Sig := ⟨[.v false [(.sl 113 yf)] [false]], [⟨false, [(.sl 113 yf)], [true]⟩], false, false⟩
def yBF : Sig := ⟨[.v true zY (nf 6)], [⟨true, zY, [true, true, true, true, true, false]⟩], false, false⟩
def yrr : Sig := ⟨[.v true [(.sl 58 yn)] [false], .v true KW (nf 5)], [⟨false, [(.sl 64 yi)], [true]⟩], false, false⟩
def yrs : Sig := ⟨[.v false [(.sl 64 yi)] [false]], [⟨true, [(.sl 58 yn)], [true]⟩], false, false⟩
def yrt : Sig := ⟨[.v true [(.sl 58 yn)] [false], .v true KW (nf 5)], [⟨true, [(.sl 58 yn)], [true]⟩, ⟨false, [.bool], [false]⟩], false, false⟩
def yru : Sig := ⟨[.v true W8 [false, false], .v false [(.int .i64)] [false], .v false [(.int .i64)] [false], .v false [(.sl 3 yg)] [false], .v false [(.sl 140 yj)] [false]], [⟨true, W8, [true, true]⟩], false, false⟩
def yrv : Sig := ⟨[.v true W8 [false, false]], [⟨true, W8, [false, false]⟩], false, false⟩
def yrw : Sig := ⟨[.v true W8 [false, false], .v true KW (nf 5)], [⟨true, W8, [false, false]⟩, ⟨false, [.bool], [false]⟩], false, false⟩
def yrx : Sig := ⟨[.v false [(.sl 113 yf)] [false], .v false [(.int .i64)] [false]], [⟨false, [(.sl 113 yf)], [true]⟩], false, false⟩
def yry : Sig := ⟨[.p none zY (nf 6), .v true KW (nf 5)], [⟨false, [.bool], [false]⟩], false, false⟩
def yew : Sig := ⟨[.v false [(.sl 146 yk)] [true], .v false [(.int .i64)] [false], .v false [(.int .i64)] [false]], [⟨false, [(.sl 146 yk)], [true]⟩], false, false⟩
def yrz : Sig := ⟨[.v false [(.sl 146 yk)] [false], .v false [(.int .i64)] [false]], [⟨false, [(.sl 146 yk)], [true]⟩, ⟨false, [.bool], [false]⟩], false, false⟩
def yrA : Sig := ⟨[.p none zY (nf 6), .v false [(.int .i64)] [false], .v false [(.int .i64)] [false]], [⟨false, [.bool], [false]⟩], false, false⟩
def yBG : Sig := ⟨[.v true zY (nf 6)], [⟨true, zY, (nf 6)⟩, ⟨false, [.bool], [false]⟩], false, false⟩
def yBH : Sig := ⟨[.v true zY (nf 6)], [⟨true, zY, (nf 6)⟩], false, false⟩
def yBI : Sig := ⟨[.v false [(.sl 5 Yo)] [false]], [⟨true, zY, (nf 6)⟩], false, false⟩
def yBJ : Sig := ⟨[.v false [(.sl 5 Yo)] [false]], [⟨true, qg, (nf 3)⟩, ⟨true, zY, [false, false, false, false, true, false]⟩], true, false⟩
def yBK : Sig := ⟨[.v false [(.sl 5 Yo)] [false]], [⟨true, zY, [false, false, false, false, true, false]⟩, ⟨true, KW, (nf 5)⟩], false, false⟩
def yBL : Sig := ⟨[.v true zY (nf 6)], [⟨false, [(.int .i64)], [false]⟩], false, false⟩
def yBM : Sig := ⟨[.v true zY (nf 6)], [⟨false, [.bool], [false]⟩], false, false⟩
def yBN : Sig := ⟨[.v true zY (nf 6)], [⟨false, [(.int .i64)], [false]⟩], false, false⟩
def yBO : Sig := ⟨[.v true zY (nf 6)], [⟨false, [.bool], [false]⟩], false, false⟩
def yrB : Sig := ⟨[.v true zY (nf 6)], [⟨true, zY, (nf 6)⟩, ⟨false, [(.int .i64)], [false]⟩], false, false⟩
def yBP : Sig := ⟨[.v true zY (nf 6)], [⟨false, [(.int .i64)], [false]⟩], false, false⟩
def yBQ : Sig := ⟨[.v true zY (nf 6)], [⟨false, [(.int .i64)], [false]⟩], false, false⟩
def yBR : Sig := ⟨[.v true zY (nf 6)], [⟨false, [(.int .i64)], [false]⟩], false, false⟩
def yBS : Sig := ⟨[.v true zY (nf 6)], [⟨false, [(.int .i64)], [false]⟩], false, false⟩
def yBT : Sig := ⟨[.v true zY (nf 6)], [⟨true, zY, (nf 6)⟩], false, false⟩
def sg5 : Sig := ⟨[.v false [(.sl 5 Yo)] [false]], [⟨false, [.bool], [false]⟩], false, false⟩
def yDc : List (Nat × Sig) := [(9, sg9), (27, yBg), (311, yp2), (237, yp3), (107, yp4), (108, yp5), (109, yp6), (17, yBh), (299, yp7), (210, yp8), (211, yp9), (94, yBi), (174, ypa), (96, yBj), (230, ypb), (307, ypc), (308, ypd), (231, ype), (309, ypf), (232, ypg), (137, yph), (304, ypi), (233, ypj), (226, ypk), (359, ypl), (344, ypm), (345, ypn), (306, ypo), (300, ypp), (212, ypq), (262, ypr), (213, yps), (182, ypt), (214, ypu), (178, ypv), (260, ypw), (215, ypx), (147, ypy), (285, ypz), (216, ypA), (95, yBk), (177, ypB), (173, ypC), (179, ypD), (64, yBl), (112, ypE), (114, ypF), (263, ypG), (145, ypH), (90, yBm), (240, ypI), (236, ypJ), (241, ypK), (115, ypL), (312, ypM), (313, ypN), (238, ypO), (175, ypP), (176, ypQ), (59, yBn), (61, yBo), (103, ypR), (181, ypS), (227, ypT), (234, ypU), (305, ypV), (228, ypW), (229, ypX), (310, ypY), (235, ypZ), (104, yq0), (336, yq1), (283, yq2), (105, yq3), (284, yq4), (183, yq5), (66, yBp), (324, yq6), (350, yq7), (351, yq8), (325, yq9), (257, yqa), (186, yqb), (70, yBq), (73, yBr), (346, yqc), (314, yqd), (217, yqe), (97, yBs), (12, yBt), (102, yqf), (15, yBu), (265, yqg), (149, yqh), (41, yBv), (259, yqi), (142, yqj), (258, yqk), (138, yql), (139, yqm), (33, yBw), (141, yqn), (143, yqo), (35, yBx), (315, yqp), (239, yqq), (113, yqr), (264, yqs), (146, yqt), (332, yqu), (352, yqv), (362, yqw), (363, yqx), (353, yqy), (333, yqz), (277, yqA), (144, yqB), (334, yqC), (278, yqD), (335, yqE), (279, yqF), (165, yqG), (106, yqH), (31, yBy), (342, yqI), (343, yqJ), (302, yqK), (303, yqL), (249, yqM), (250, yqN), (127, yqO), (29, yBz), (92, yBA), (218, yqP), (323, yqQ), (251, yqR), (223, yqS), (252, yqT), (128, yqU), (319, yqV), (100000, yc9), (245, yqW), (129, yqX), (125, yqY), (130, yqZ), (117, yr0), (135, yr1), (254, yr2), (100002, yca), (100001, ycb), (131, yr3), (28, yBB), (247, yr4), (132, yr5), (30, yBC), (348, yr6), (361, yr7), (349, yr8), (320, yr9), (321, yra), (246, yrb), (148, yrc), (40, yBD), (256, yrd), (100004, ycc), (100003, ycd), (134, yre), (219, yrf), (301, yrg), (322, yrh), (248, yri), (255, yrj), (133, yrk), (136, yrl), (32, yBE), (297, yrm), (298, yrn), (206, yro), (207, yrp), (208, yrq), (91, yBF), (221, yrr), (224, yrs), (220, yrt), (222, yru), (225, yrv), (100, yrw), (101, yrx), (126, yry), (326, yew), (261, yrz), (140, yrA), (34, yBG), (49, yBH), (36, yBI), (89, yBJ), (37, yBK), (44, yBL), (38, yBM), (45, yBN), (39, yBO), (150, yrB), (42, yBP), (43, yBQ), (46, yBR), (47, yBS), (48, yBT), (5, sg5)]
def ywi : List (Nat × (List Nat × List Nat)) := [
 (2700004, [0, 1, 5], [4]),
 (31100004, [0, 1, 5], [4]),
 (23700004, [2, 3, 5], [4]),
 (10700004, [2, 3, 5], [4]),
 (10800004, [0, 1, 5], [4]),
 (10900004, [0, 1, 5], [4]),
 (1700004, [2, 3, 5], [4]),
 (29900003, [1, 2, 3, 4], [2, 3]),
 (21000003, [1, 2, 3, 4], [2, 3]),
 (17400002, [1, 2, 5], [4]),
 (23000003, [0, 3, 4], [3]),
 (23100004, [0, 3, 5, 6, 7, 18, 19, 20, 21, 22, 23, 24], [3, 5, 6]),
 (30900003, [1, 5, 6], [5]),
 (23200003, [1, 3, 4], [3]),
 (13700003, [1, 3, 4], [3]),
 (35900002, [0, 3], [2]),
 (34400002, [0, 3, 19, 20, 21], [0, 2, 19, 20, 21]),
 (34500003, [1, 3, 4], [3]),
 (30600002, [1, 3, 19, 20, 21, 22, 23, 24, 25, 32, 33, 34], [1, 2, 32, 33, 34]),
 (30000005, [1, 2, 5, 6, 61, 62, 63, 64, 65, 66, 67, 68, 69, 70, 71, 72, 73, 74, 75, 76], [4]),
 (30000008, [1, 2, 5, 6, 7, 61, 62, 63, 64, 65, 66, 67, 68, 69, 70, 71, 72, 73, 74, 75, 76], [1, 2, 4, 5, 6, 61, 62, 63, 64, 65, 66, 67, 68, 69, 70, 71, 72, 73, 74, 75, 76]),
 (21200004, [1, 3, 35, 36, 37, 38, 39, 40, 41, 42, 43, 44, 45, 46, 49, 50, 51, 52], [1, 2]),
 (26200002, [0, 1, 5], [4]),
 (21300002, [0, 3, 18, 19, 20, 21, 22, 23, 24, 25, 26, 27, 28, 29, 30, 31, 32, 33, 42, 43, 44, 45, 46, 47, 48, 49, 50, 51], [0, 2]),
 (21400002, [0, 3, 18, 19, 20, 21, 22, 23, 24, 27, 28, 29, 30, 31, 32, 33, 34, 35, 36, 37, 38, 39, 40], [0, 2]),
 (17800002, [0, 3, 17, 18, 19, 20, 21, 22], [0, 2]),
 (26000003, [0, 1, 5, 6, 22, 23], [5]),
 (21500002, [1, 3, 23, 24, 25, 26, 29, 30, 31, 32, 33, 34, 37, 38, 39, 40, 41, 42, 43, 46, 47, 48, 49, 50, 51, 52, 53, 54, 55, 56, 57, 58, 59], [1, 2]),
 (21500008, [1, 3, 4, 5, 23, 24, 25, 26, 29, 30, 31, 32, 33, 34, 37, 38, 39, 40, 41, 42, 43, 46, 47, 48, 49, 50, 51, 52, 53, 54, 55, 56, 57, 58, 59], [1, 2, 3, 23, 24, 25, 26, 29, 30, 31, 32, 33, 34, 37, 38, 39, 40, 41, 42, 43, 46, 47, 48, 49, 50, 51, 52, 53, 54, 55, 56, 57, 58, 59]),
 (14700003, [0, 3, 4], [3]),
 (21600004, [1, 3, 4, 5, 65, 66, 67, 68, 69, 70, 71, 72, 73, 74, 75], [1, 2, 4]),
 (21600014, [1, 3, 4, 5, 8, 65, 66, 67, 68, 69, 70, 71, 72, 73, 74, 75], [1, 2, 3, 4, 5, 65, 66, 67, 68, 69, 70, 71, 72, 73, 74, 75]),
 (9500002, [1, 3, 24, 25, 26, 29, 30, 31, 34, 35, 36, 39, 40, 43, 44], [1, 2, 24, 25, 26, 29, 30, 31, 34, 35, 36, 39, 40, 43, 44]),
 (11200003, [0, 3, 4, 13, 14], [0, 3]),
 (17500004, [0, 1, 2, 8, 9, 10, 25, 26, 27, 28, 29, 30, 31, 59, 60, 61], [0, 1, 2, 8, 9, 59, 60, 61]),
 (17600003, [3, 5, 6, 19, 20, 21, 22, 23, 24, 25, 26, 27], [3, 5, 6]),
 (10300003, [0, 1, 7, 8, 16, 17, 20, 21], [4, 5, 6, 7]),
 (22700003, [1, 2, 3, 7, 8], [7]),
 (30500002, [0, 1, 2, 6, 8, 23, 24, 25, 26, 27, 28, 29], [6, 7]),
 (31000002, [1, 3], [2]),
 (23500002, [1, 2, 3], [1, 2]),
 (33600002, [1, 2, 3, 6, 8, 32, 33, 34], [6, 7]),
 (32400003, [0, 5, 6, 14, 15, 16, 17, 18], [5]),
 (35000004, [1, 5, 6, 7], [5]),
 (35100002, [0, 1, 5], [4]),
 (32500005, [2, 6, 8, 9, 10, 11, 30, 31, 32, 33, 34, 35, 36, 37, 38, 39, 40, 41], [6, 8, 9]),
 (7300010, [2, 3, 6, 8, 10, 11, 12, 43], [2, 3, 6, 8, 10, 11]),
 (10200003, [1, 4, 5, 6, 23, 24, 25, 26, 27, 28, 29], [4]),
 (4100002, [2, 3, 5, 23, 24, 25, 26, 27, 28, 29, 30, 31, 32, 33, 34], [4]),
 (25900002, [1, 2, 5], [4]),
 (13900003, [1, 2, 5, 6, 27, 28, 29, 30, 31, 32], [1, 2, 4, 27, 28, 29, 30, 31, 32]),
 (3300005, [1, 4, 5], [1, 2, 3]),
 (3300008, [1, 4, 5, 6], [1, 2, 3, 4, 5]),
 (3300013, [1, 7], [2, 3]),
 (14300006, [0, 1, 6, 7, 8], [7]),
 (11300003, [0, 4, 5, 6], [0, 4, 5]),
 (33200003, [0, 4, 5, 6], [0, 4, 5]),
 (35200003, [0, 2, 3, 4], [0, 2, 3]),
 (36200003, [0, 5, 6], [0, 5]),
 (33400003, [0, 3, 4, 17, 18, 19], [0, 3]),
 (27800010, [0, 3, 4], [0, 3]),
 (33500003, [0, 3, 4], [0, 3]),
 (10600004, [2, 3, 4, 5], [2, 4]),
 (30200004, [3, 5, 6, 10, 11, 12, 19, 20, 21, 22], [3, 5, 6]),
 (24900003, [5, 10, 11, 12], [5]),
 (25000003, [3, 7, 8, 9], [3]),
 (12700003, [3, 8, 9, 10], [3]),
 (2900003, [3, 8, 9, 10], [3]),
 (32300002, [0, 5, 6, 7, 16, 17, 18, 19, 20, 21, 22, 23, 24, 25, 26, 27], [0, 2]),
 (25100003, [1, 3, 7, 8, 9, 17, 18, 19, 31, 32], [1, 2, 3, 31, 32]),
 (25200002, [1, 2, 15, 16, 17, 40, 41, 42, 43, 44, 45, 46, 47, 48, 49, 50, 51, 52, 53, 54, 55], [4]),
 (25200005, [1, 2, 15, 16, 17, 21, 22, 23, 40, 41, 42, 43, 44, 45, 46, 47, 48, 49, 50, 51, 52, 53, 54, 55], [1, 2, 4, 15, 16, 17, 40, 41, 42, 43, 44, 45, 46, 47, 48, 49, 50, 51, 52, 53, 54, 55]),
 (12800005, [1, 3, 29, 30, 31, 39, 40, 41, 42, 43, 44, 45, 46, 47, 48, 49, 50, 53, 54, 55, 58, 59, 60, 61, 69, 70], [2, 3]),
 (10000000002, [0, 1, 7, 8], [1, 4]),
 (12900002, [0, 5, 6, 7, 17, 18, 19, 20, 21, 22, 23, 24, 25, 26, 27, 28, 29, 32, 33, 34, 35, 36, 37, 38, 39, 40, 41, 42, 43], [0, 2]),
 (13000002, [0, 5, 6, 7, 16, 17, 18, 19, 22, 23, 24, 25, 26, 27, 28, 29], [0, 2]),
 (11700002, [0, 3, 17, 18, 19, 20, 21, 22], [0, 2]),
 (13500005, [1, 5, 12, 13, 14], [5]),
 (10000200002, [0, 1, 7, 8], [1, 4]),
 (13100002, [1, 6, 7, 8, 18, 19, 20, 21, 22, 23, 24, 25, 26, 27, 28, 29, 30, 31, 34, 35, 36, 37, 46, 47, 48, 49, 50, 51, 52], [1, 2]),
 (2800003, [3, 6, 7, 8], [3]),
 (13200004, [1, 3, 4, 12, 13, 14, 40, 41, 42, 43, 44], [1, 2, 4]),
 (3000004, [1, 28, 29, 30, 43, 44], [1, 2, 43, 44]),
 (34800003, [1, 5, 10, 11, 12], [5]),
 (36100002, [0, 1, 7, 8], [4]),
 (32000003, [2, 6, 8, 9, 15, 16, 17, 26, 27, 28, 29, 30, 31, 32, 33, 34], [6, 8, 9]),
 (32100003, [0, 1, 5, 10, 11], [5]),
 (4000002, [2, 3, 8, 9, 10, 20, 21, 22, 23, 24, 25, 26, 27], [4]),
 (10000400002, [0, 1, 7, 8], [1, 4]),
 (21900002, [1, 2, 3, 7], [6]),
 (30100002, [1, 2, 6, 10, 11, 12, 21, 22, 23, 24], [6, 7]),
 (32200002, [1, 2, 3, 6, 8], [6, 7]),
 (13600002, [1, 7, 8, 9], [4]),
 (3200005, [1, 4, 17, 18, 19, 51, 52, 53, 54, 55, 56, 57, 60, 61, 62, 63, 64], [1, 2, 3, 4, 51, 52, 53, 54, 55, 56, 57, 60, 61, 62, 63, 64]),
 (3200008, [1, 4, 6, 17, 18, 19, 23, 24, 25, 51, 52, 53, 54, 55, 56, 57, 60, 61, 62, 63, 64], [1, 2, 3, 4, 17, 18, 19, 51, 52, 53, 54, 55, 56, 57, 60, 61, 62, 63, 64]),
 (3200015, [1, 4, 39, 40, 41, 51, 52, 53, 54, 55, 56, 57, 60, 61, 62, 63, 64], [2, 3]),
 (29800003, [2, 3, 8, 9, 10], [2, 3]),
 (20600003, [2, 3, 11, 12, 13], [2, 3]),
 (22500002, [1, 2, 3], [1, 2]),
 (26100006, [0, 1, 6, 7, 23, 24], [6, 7]),
 (4900003, [2, 3, 4], [2, 3]),
 (4400003, [1, 3, 8, 9, 10, 18, 19, 20], [3]),
 (4500004, [1, 3, 4, 5, 22, 23, 24, 25, 26, 27], [3]),
 (15000003, [2, 4, 10], [2, 3, 4]),
 (4300003, [3, 4], [2])]
def yBU : List (Nat × List Nat × Nat) := [(318, [319], 100000), (253, [254], 100001), (242, [254], 100002), (253, [256], 100003), (242, [256], 100004)]
def ywj : List (Nat × List Nat) := [(299, [22]), (210, [25]), (235, [2000000000006000001, 2000000000007000001, 1000033000000027, 1000046000000041, 1000048000000025, 49, 1000049000049000, 1000050000000046]), (104, [2000000000010000011, 49, 1000037000999999, 1000049000038000, 1000050000000047, 1000050000000049, 1000082000999999, 1000086000999999, 87, 1000087000083000, 1000087000087000]), (66, [60]), (257, [21]), (113, [1000019000000900]), (332, [1000019000000900]), (352, [1000015000000900]), (333, [1000013000000900, 14, 1000014000014000, 1000022000000900, 1000025000000900, 27, 1000027000000023, 1000027000000026]), (277, [1000019000000900, 1000022000000021, 1000022000000900, 1000029000000900, 30, 1000030000030000, 1000041000000900, 1000043000000900]), (165, [1000032000000031, 1000032000000900, 1000034000000900, 1000038000000037, 1000038000000900, 1000057000000900, 1000069000000900]), (106, [1000022000008500]), (255, [20]), (298, [18]), (206, [21]), (225, [40, 1000039000000026, 1000040000040000]), (100, [2000000000011000010, 1000038000999999, 1000080000999999, 1000084000999999, 85, 1000085000081000, 1000085000085000]), (37, [1000002000000002, 1000028000010500, 1000033000010500])]
def C : Ctx := { info := yaq yp1, sig := yaq yDc, live := fun f i => yaq ywi (100000 * f + i), key := Yt yBU, fid := ymM yBU, hint := yhN ywj }
theorem tok : TOk C Tryz.prog := yn1 (l := yp1) rfl (by kernel_rfl)
theorem ywk : Tryz.prog.follows .mixedOrders = true := by kernel_rfl
abbrev QF := Qf C Tryz.prog
abbrev EV (l : List QF) (lp : Lp) (n : Nat) (fn : Func) (sg : Sig) (ins outs : List Ty) (F : zc ins → Option (zc outs)) : Prop := ∀ x, yfH C (yjH l) lp n fn (qe fn) sg ins outs x = F x
abbrev LF (l : List QF) (lp : Lp) (n i : Nat) (fn : Func) (k : Nat) {T V : Type} (e : T → St) (g : Gk T) (inj : V → T) : Prop := LC C (yjH l) lp n i (cL fn k) e g inj
abbrev LK (l : List QF) (lp : Lp) (n : Nat) (fn : Func) (k : Nat) : Prop := y2Y C (yjH l) lp n (cL fn k)
theorem okN {l : List QF} {lp : Lp} {f g : Nat} {fn : Func} {sg : Sig} {n : Nat} (hfn : Tryz.prog.funcs[g]? = some fn) (hl : yn0 (y2Y C (yjH l) lp f) (jh (qe fn)) n 0) {F : zc (C.ins f) → Option (zc (C.outs f))} (hF : ∀ x, yfH C (yjH l) lp f fn (qe fn) sg (C.ins f) (C.outs f) x = F x) (hsig : C.sig f = some sg := by kernel_rfl) (hB : fnB C f g fn sg n = true := by kernel_rfl) : jJ C Tryz.prog f F := yvy tok ywk hfn hsig hB hl hF
theorem lkN {call : C.Sem} {lp : Lp} {f i : Nat} {c : Code} {T : Type} {e : T → St} {u : St → Option T} {g : Gk T} (hu : ∀ s t, u s = some t → e t = s) (hc : LC C call lp f i c e @g (fun t => t)) (hl : laB C f i c = true := by kernel_rfl) (hb : LB lp i u @g := by intro R κ s; kernel_rfl) : y2Y C call lp f c := yge hl hu hb hc
end Go.Proofs.YthgdjjdigalckaaGreat.XC
