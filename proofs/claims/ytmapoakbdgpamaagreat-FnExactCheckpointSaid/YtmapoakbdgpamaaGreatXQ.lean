/- The context of the evaluator for Q: types, signatures, slots that live at loops; by a program (dec.py). No condition. -/
import Derived.Test.YtmapoakbdgpamaaGreatProg
import Derived.Test.YtmapoakbdgpamaaGreatRRow
import Derived.KernelRfl
set_option linter.all false
namespace Go.Proofs.YtmapoakbdgpamaaGreat.XQ
open Go.Proofs.YtmapoakbdgpamaaGreat.R
set_option maxRecDepth 100000
abbrev ye : List Ty := [(.int .i64)]
abbrev yp : Type := Int
abbrev yfs : yp := ZI ye
abbrev zy (xs : List yp) (i : Int) : yp := rdE ye xs i
def zi (x : List yp) : A := .val (.sl 3 ye) x
abbrev Q9 : List Ty := [(.int .i64), (.int .i64), (.int .i64), (.int .i64), (.int .i64)]
abbrev y37 : Type := Int × Int × Int × Int × Int
abbrev y4O (xs : List y37) (i : Int) : y37 := rdE Q9 xs i
def yo3 (x : List y37) : A := .val (.sl 279 Q9) x
abbrev Ye : List Ty := [(.sl 279 Q9)]
abbrev z4 : Type := List y37
abbrev ycP : z4 := ZI Ye
abbrev y04 (xs : List z4) (i : Int) : z4 := rdE Ye xs i
def ycQ (x : List z4) : A := .val (.sl 267 Ye) x
abbrev zD : List Ty := [(.sl 267 Ye)]
abbrev zF : Type := List z4
abbrev yft : zF := ZI zD
abbrev y21 (xs : List zF) (i : Int) : zF := rdE zD xs i
def yfu (x : List zF) : A := .val (.sl 216 zD) x
abbrev jv : List Ty := [(.int .i64), (.int .i64)]
abbrev WV : Type := Int × Int
abbrev yfv (xs : List WV) (i : Int) : WV := rdE jv xs i
def yo4 (x : List WV) : A := .val (.sl 166 jv) x
abbrev Yz : List Ty := [(.int .i64), .bool, (.int .i64)]
abbrev je : Type := Int × Bool × Int
abbrev y7h (xs : List je) (i : Int) : je := rdE Yz xs i
def ylh (x : List je) : A := .val (.sl 168 Yz) x
abbrev Zx : List Ty := [.str, (.int .i64), (.int .i64), .bool]
abbrev jw : Type := ByteArray × Int × Int × Bool
abbrev ya5 : jw := ZI Zx
abbrev Kv (xs : List jw) (i : Int) : jw := rdE Zx xs i
def yjt (x : List jw) : A := .val (.sl 158 Zx) x
abbrev yu : List Ty := [(.int .u8)]
abbrev z0 : Type := Int
abbrev yDn : z0 := ZI yu
abbrev ya6 (xs : List z0) (i : Int) : z0 := rdE yu xs i
def yeJ (x : List z0) : A := .val (.sl 5 yu) x
abbrev yg : List Ty := [(.int .i64), (.int .i64), (.int .i64), (.int .i64), (.int .i64)]
abbrev y8 : Type := Int × Int × Int × Int × Int
abbrev zv : y8 := ZI yg
abbrev y0 (xs : List y8) (i : Int) : y8 := rdE yg xs i
def qE (x : List y8) : A := .val (.sl 106 yg) x
abbrev yj : List Ty := [(.sl 106 yg)]
abbrev y9 : Type := List y8
abbrev yT : y9 := ZI yj
abbrev yh (xs : List y9) (i : Int) : y9 := rdE yj xs i
def zC (x : List y9) : A := .val (.sl 100 yj) x
abbrev yf : List Ty := [(.sl 100 yj)]
abbrev y7 : Type := List y9
abbrev zg : y7 := ZI yf
abbrev ym (xs : List y7) (i : Int) : y7 := rdE yf xs i
def yC (x : List y7) : A := .val (.sl 98 yf) x
abbrev yB : List Ty := [(.int .i64), (.int .i64)]
abbrev yo : Type := Int × Int
abbrev WU : yo := ZI yB
abbrev z6 (xs : List yo) (i : Int) : yo := rdE yB xs i
def zr (x : List yo) : A := .val (.sl 89 yB) x
abbrev yk : List Ty := [(.int .i64), .bool, (.int .i64)]
abbrev yb : Type := Int × Bool × Int
abbrev wI : yb := ZI yk
abbrev yl (xs : List yb) (i : Int) : yb := rdE yk xs i
def yU (x : List yb) : A := .val (.sl 95 yk) x
abbrev yK : List Ty := [.str, (.int .i64), (.int .i64), .bool]
abbrev yA : Type := ByteArray × Int × Int × Bool
abbrev qg : yA := ZI yK
abbrev yn (xs : List yA) (i : Int) : yA := rdE yK xs i
def Y4 (x : List yA) : A := .val (.sl 91 yK) x
abbrev yc : List Ty := [(.sl 5 yu)]
abbrev y6 : Type := List z0
abbrev WW : y6 := ZI yc
abbrev zh (xs : List y6) (i : Int) : y6 := rdE yc xs i
def Yf (x : List y6) : A := .val (.sl 32 yc) x
abbrev wJ : List Ty := [(.int .i64), (.sl 5 yu)]
abbrev wK : Type := Int × List z0
abbrev yfw : wK := ZI wJ
abbrev y38 (xs : List wK) (i : Int) : wK := rdE wJ xs i
def yo5 (x : List wK) : A := .val (.sl 181 wJ) x
abbrev z5 : List Ty := [(.int .i64), (.sl 5 yu)]
abbrev yQ : Type := Int × List z0
abbrev y22 : yQ := ZI z5
abbrev yV (xs : List yQ) (i : Int) : yQ := rdE z5 xs i
def y10 (x : List yQ) : A := .val (.sl 186 z5) x
abbrev y4P : List Ty := [.bool]
abbrev ycR : Type := Bool
abbrev yfx : ycR := ZI y4P
abbrev yfy (xs : List ycR) (i : Int) : ycR := rdE y4P xs i
abbrev Qz0 : Type := List yp × List yp × Int
abbrev qz0 : List Ty := [(.sl 3 ye), (.sl 3 ye), (.int .i64)]
abbrev Qz1 : Type := List yp × List yp
abbrev qz1 : List Ty := [(.sl 3 ye), (.sl 3 ye)]
abbrev Qz2 : Type := Int × Int × Int × Int × Int × Int × Int × Int × Int × Int
abbrev qz2 : List Ty := [(.int .i64), (.int .i64), (.int .i64), (.int .i64), (.int .i64), (.int .i64), (.int .i64), (.int .i64), (.int .i64), (.int .i64)]
abbrev Qz3 : Type := List y8 × List y8 × Int
abbrev qz3 : List Ty := [(.sl 106 yg), (.sl 106 yg), (.int .i64)]
abbrev Qz4 : Type := List y8 × List y8
abbrev qz4 : List Ty := [(.sl 106 yg), (.sl 106 yg)]
abbrev Qz5 : Type := List y9 × List y9 × Int
abbrev qz5 : List Ty := [(.sl 100 yj), (.sl 100 yj), (.int .i64)]
abbrev Qz6 : Type := List y9 × List y9
abbrev qz6 : List Ty := [(.sl 100 yj), (.sl 100 yj)]
abbrev Qz7 : Type := List y7 × List y7 × Int
abbrev qz7 : List Ty := [(.sl 98 yf), (.sl 98 yf), (.int .i64)]
abbrev Qz8 : Type := List y7 × List y7
abbrev qz8 : List Ty := [(.sl 98 yf), (.sl 98 yf)]
abbrev Qz9 : Type := List yp × List y7 × List yp × List y7
abbrev qz9 : List Ty := [(.sl 3 ye), (.sl 98 yf), (.sl 3 ye), (.sl 98 yf)]
abbrev yDo : Type := Int × Int × Int × Int
abbrev yDp : List Ty := [(.int .i64), (.int .i64), (.int .i64), (.int .i64)]
abbrev yAP : Type := List yo × List yo × Int
abbrev yAQ : List Ty := [(.sl 89 yB), (.sl 89 yB), (.int .i64)]
abbrev yDq : Type := List yo × List yo
abbrev yDr : List Ty := [(.sl 89 yB), (.sl 89 yB)]
abbrev yDs : Type := Int × Bool × Int × Int × Bool × Int
abbrev yDt : List Ty := [(.int .i64), .bool, (.int .i64), (.int .i64), .bool, (.int .i64)]
abbrev yAR : Type := List yb × List yb × Int
abbrev yAS : List Ty := [(.sl 95 yk), (.sl 95 yk), (.int .i64)]
abbrev yDu : Type := List yb × List yb
abbrev yDv : List Ty := [(.sl 95 yk), (.sl 95 yk)]
abbrev yAT : Type := ByteArray × Int × Int × Bool × ByteArray × Int × Int × Bool
abbrev yAU : List Ty := [.str, (.int .i64), (.int .i64), .bool, .str, (.int .i64), (.int .i64), .bool]
abbrev yAV : Type := List yA × List yA × Int
abbrev yAW : List Ty := [(.sl 91 yK), (.sl 91 yK), (.int .i64)]
abbrev yDw : Type := List yA × List yA
abbrev yDx : List Ty := [(.sl 91 yK), (.sl 91 yK)]
abbrev yDy : Type := List yp × List y7 × List yo × List yb × List yA × Int × List yp × List y7 × List yo × List yb × List yA × Int
abbrev yDz : List Ty := [(.sl 3 ye), (.sl 98 yf), (.sl 89 yB), (.sl 95 yk), (.sl 91 yK), (.int .i64), (.sl 3 ye), (.sl 98 yf), (.sl 89 yB), (.sl 95 yk), (.sl 91 yK), (.int .i64)]
abbrev yAX : Type := List z0 × List z0 × Int
abbrev yAY : List Ty := [(.sl 5 yu), (.sl 5 yu), (.int .i64)]
abbrev yDA : Type := List z0 × List z0
abbrev yDB : List Ty := [(.sl 5 yu), (.sl 5 yu)]
abbrev yAZ : Type := List y6 × List y6 × Int
abbrev yB0 : List Ty := [(.sl 32 yc), (.sl 32 yc), (.int .i64)]
abbrev yDC : Type := List y6 × List y6
abbrev yDD : List Ty := [(.sl 32 yc), (.sl 32 yc)]
abbrev yDE : Type := Int × List z0 × Int × List z0
abbrev yDF : List Ty := [(.int .i64), (.sl 5 yu), (.int .i64), (.sl 5 yu)]
abbrev yB1 : Type := List yQ × List yQ × Int
abbrev yB2 : List Ty := [(.sl 186 z5), (.sl 186 z5), (.int .i64)]
abbrev yDG : Type := List yQ × List yQ
abbrev yDH : List Ty := [(.sl 186 z5), (.sl 186 z5)]
abbrev yDI : Type := List y6 × List yQ × Int × Bool × List y6 × List yQ × Int × Bool
abbrev yDJ : List Ty := [(.sl 32 yc), (.sl 186 z5), (.int .i64), .bool, (.sl 32 yc), (.sl 186 z5), (.int .i64), .bool]
abbrev yDK : Type := List y6 × List yQ × Int × Bool × List yp × List y7 × List yo × List yb × List yA × Int × Int × Int × Int × List y6 × List yQ × Int × Bool × List yp × List y7 × List yo × List yb × List yA × Int × Int × Int × Int
abbrev yDL : List Ty := [(.sl 32 yc), (.sl 186 z5), (.int .i64), .bool, (.sl 3 ye), (.sl 98 yf), (.sl 89 yB), (.sl 95 yk), (.sl 91 yK), (.int .i64), (.int .i64), (.int .i64), (.int .i64), (.sl 32 yc), (.sl 186 z5), (.int .i64), .bool, (.sl 3 ye), (.sl 98 yf), (.sl 89 yB), (.sl 95 yk), (.sl 91 yK), (.int .i64), (.int .i64), (.int .i64), (.int .i64)]
abbrev yB3 : Type := Int × Int × List yp
abbrev yB4 : List Ty := [(.int .i64), (.int .i64), (.sl 3 ye)]
abbrev yB5 : Type := Int × List yp
abbrev yDM : List Ty := [(.int .i64), (.sl 3 ye)]
abbrev ywg : Type := List yp × Int
abbrev ywh : List Ty := [(.sl 3 ye), (.int .i64)]
abbrev yB6 : Type := Int × Int × List y8
abbrev yB7 : List Ty := [(.int .i64), (.int .i64), (.sl 106 yg)]
abbrev yB8 : Type := Int × List y8
abbrev yDN : List Ty := [(.int .i64), (.sl 106 yg)]
abbrev ynH : Type := List y8 × Int
abbrev ynI : List Ty := [(.sl 106 yg), (.int .i64)]
abbrev yvS : Type := Int × Int × List y9
abbrev yvT : List Ty := [(.int .i64), (.int .i64), (.sl 100 yj)]
abbrev yh4 : Type := Int × List y9
abbrev yo6 : List Ty := [(.int .i64), (.sl 100 yj)]
abbrev yB9 : Type := List y9 × Int
abbrev yBa : List Ty := [(.sl 100 yj), (.int .i64)]
abbrev yBb : Type := Int × Int × List y7
abbrev yBc : List Ty := [(.int .i64), (.int .i64), (.sl 98 yf)]
abbrev yBd : Type := Int × List y7
abbrev yDO : List Ty := [(.int .i64), (.sl 98 yf)]
abbrev yBe : Type := List y7 × Int
abbrev yBf : List Ty := [(.sl 98 yf), (.int .i64)]
abbrev yvU : Type := List yp × List y7 × Int
abbrev yvV : List Ty := [(.sl 3 ye), (.sl 98 yf), (.int .i64)]
abbrev ywi : Type := Int × List yp × List y7
abbrev ywj : List Ty := [(.int .i64), (.sl 3 ye), (.sl 98 yf)]
abbrev yBg : Type := Int × Int × List yo
abbrev yBh : List Ty := [(.int .i64), (.int .i64), (.sl 89 yB)]
abbrev yBi : Type := Int × List yo
abbrev yDP : List Ty := [(.int .i64), (.sl 89 yB)]
abbrev yhL : Type := List yo × Int
abbrev yhM : List Ty := [(.sl 89 yB), (.int .i64)]
abbrev yBj : Type := Int × Int × List yb
abbrev yBk : List Ty := [(.int .i64), (.int .i64), (.sl 95 yk)]
abbrev yBl : Type := Int × List yb
abbrev yDQ : List Ty := [(.int .i64), (.sl 95 yk)]
abbrev yvW : Type := List yb × Int
abbrev yvX : List Ty := [(.sl 95 yk), (.int .i64)]
abbrev yBm : Type := Int × ByteArray
abbrev yBn : List Ty := [(.int .i64), .str]
abbrev yBo : Type := Int × Int × List yA
abbrev yBp : List Ty := [(.int .i64), (.int .i64), (.sl 91 yK)]
abbrev yBq : Type := Int × List yA
abbrev yDR : List Ty := [(.int .i64), (.sl 91 yK)]
abbrev yBr : Type := List yA × Int
abbrev yBs : List Ty := [(.sl 91 yK), (.int .i64)]
abbrev yBt : Type := List yp × List y7 × List yo × List yb × List yA × Int × Int
abbrev yBu : List Ty := [(.sl 3 ye), (.sl 98 yf), (.sl 89 yB), (.sl 95 yk), (.sl 91 yK), (.int .i64), (.int .i64)]
abbrev yDS : Type := Int × List yp × List y7 × List yo × List yb × List yA
abbrev yDT : List Ty := [(.int .i64), (.sl 3 ye), (.sl 98 yf), (.sl 89 yB), (.sl 95 yk), (.sl 91 yK)]
abbrev yBv : Type := Int × Int × List z0
abbrev yBw : List Ty := [(.int .i64), (.int .i64), (.sl 5 yu)]
abbrev yvY : Type := Int × List z0
abbrev yju : List Ty := [(.int .i64), (.sl 5 yu)]
abbrev yli : Type := List z0 × Int
abbrev ylj : List Ty := [(.sl 5 yu), (.int .i64)]
abbrev yBx : Type := Int × Int × List y6
abbrev yBy : List Ty := [(.int .i64), (.int .i64), (.sl 32 yc)]
abbrev yBz : Type := Int × List y6
abbrev yDU : List Ty := [(.int .i64), (.sl 32 yc)]
abbrev ywk : Type := List y6 × Int
abbrev ywl : List Ty := [(.sl 32 yc), (.int .i64)]
abbrev yBA : Type := Int × Int × List yQ
abbrev yBB : List Ty := [(.int .i64), (.int .i64), (.sl 186 z5)]
abbrev yBC : Type := Int × List yQ
abbrev yDV : List Ty := [(.int .i64), (.sl 186 z5)]
abbrev yBD : Type := List yQ × Int
abbrev yBE : List Ty := [(.sl 186 z5), (.int .i64)]
abbrev yBF : Type := List y6 × List yQ × Int × Bool × Int
abbrev yBG : List Ty := [(.sl 32 yc), (.sl 186 z5), (.int .i64), .bool, (.int .i64)]
abbrev yDW : Type := Int × List y6 × List yQ
abbrev yDX : List Ty := [(.int .i64), (.sl 32 yc), (.sl 186 z5)]
abbrev ywm : Type := List y6 × List yQ × Int × Bool × List yp × List y7 × List yo × List yb × List yA × Int × Int × Int × Int × Int
abbrev ywn : List Ty := [(.sl 32 yc), (.sl 186 z5), (.int .i64), .bool, (.sl 3 ye), (.sl 98 yf), (.sl 89 yB), (.sl 95 yk), (.sl 91 yK), (.int .i64), (.int .i64), (.int .i64), (.int .i64), (.int .i64)]
abbrev yDY : Type := Int × List y6 × List yQ × List yp × List y7 × List yo × List yb × List yA
abbrev yDZ : List Ty := [(.int .i64), (.sl 32 yc), (.sl 186 z5), (.sl 3 ye), (.sl 98 yf), (.sl 89 yB), (.sl 95 yk), (.sl 91 yK)]
abbrev yBH : Type := List yp × Int × Int
abbrev yBI : List Ty := [(.sl 3 ye), (.int .i64), (.int .i64)]
abbrev y4Q : Type := Int × Int
abbrev yeK : List Ty := [(.int .i64), (.int .i64)]
abbrev yBJ : Type := List y8 × Int × Int
abbrev yBK : List Ty := [(.sl 106 yg), (.int .i64), (.int .i64)]
abbrev ylk : Type := List y9 × Int × Int
abbrev yvZ : List Ty := [(.sl 100 yj), (.int .i64), (.int .i64)]
abbrev yBL : Type := List y7 × Int × Int
abbrev yBM : List Ty := [(.sl 98 yf), (.int .i64), (.int .i64)]
abbrev yw0 : Type := List yo × Int × Int
abbrev yw1 : List Ty := [(.sl 89 yB), (.int .i64), (.int .i64)]
abbrev ynJ : Type := List yb × Int × Int
abbrev ynK : List Ty := [(.sl 95 yk), (.int .i64), (.int .i64)]
abbrev yBN : Type := List yA × Int × Int
abbrev yBO : List Ty := [(.sl 91 yK), (.int .i64), (.int .i64)]
abbrev yo7 : Type := List z0 × Int × Int
abbrev yw2 : List Ty := [(.sl 5 yu), (.int .i64), (.int .i64)]
abbrev yw3 : Type := List y6 × Int × Int
abbrev yw4 : List Ty := [(.sl 32 yc), (.int .i64), (.int .i64)]
abbrev yBP : Type := List yQ × Int × Int
abbrev yBQ : List Ty := [(.sl 186 z5), (.int .i64), (.int .i64)]
abbrev yE0 : Type := List y37 × Int
abbrev yE1 : List Ty := [(.sl 279 Q9), (.int .i64)]
abbrev yBR : Type := List z4 × Int × Int
abbrev yBS : List Ty := [(.sl 267 Ye), (.int .i64), (.int .i64)]
abbrev yBT : Type := List z4 × Int
abbrev yBU : List Ty := [(.sl 267 Ye), (.int .i64)]
abbrev yBV : Type := List zF × Int × Int
abbrev yBW : List Ty := [(.sl 216 zD), (.int .i64), (.int .i64)]
abbrev yE2 : Type := List zF × Int
abbrev yE3 : List Ty := [(.sl 216 zD), (.int .i64)]
abbrev yE4 : Type := List yp × List zF × Int
abbrev yE5 : List Ty := [(.sl 3 ye), (.sl 216 zD), (.int .i64)]
abbrev yE6 : Type := List WV × Int
abbrev yE7 : List Ty := [(.sl 166 jv), (.int .i64)]
abbrev yE8 : Type := List je × Int
abbrev yE9 : List Ty := [(.sl 168 Yz), (.int .i64)]
abbrev yEa : Type := ByteArray × Int × Int × Bool × Int
abbrev yEb : List Ty := [.str, (.int .i64), (.int .i64), .bool, (.int .i64)]
abbrev yBX : Type := List jw × Int × Int
abbrev yBY : List Ty := [(.sl 158 Zx), (.int .i64), (.int .i64)]
abbrev yEc : Type := List jw × Int
abbrev yEd : List Ty := [(.sl 158 Zx), (.int .i64)]
abbrev yEe : Type := List yp × List zF × List WV × List je × List jw × Int × Int
abbrev yEf : List Ty := [(.sl 3 ye), (.sl 216 zD), (.sl 166 jv), (.sl 168 Yz), (.sl 158 Zx), (.int .i64), (.int .i64)]
abbrev yEg : Type := Int × List z0 × Int
abbrev yEh : List Ty := [(.int .i64), (.sl 5 yu), (.int .i64)]
abbrev yBZ : Type := List wK × Int × Int
abbrev yC0 : List Ty := [(.sl 181 wJ), (.int .i64), (.int .i64)]
abbrev yEi : Type := List wK × Int
abbrev yEj : List Ty := [(.sl 181 wJ), (.int .i64)]
abbrev yEk : Type := List y6 × List wK × Int × Bool × Int
abbrev yEl : List Ty := [(.sl 32 yc), (.sl 181 wJ), (.int .i64), .bool, (.int .i64)]
abbrev yEm : Type := List y6 × List wK × Int × Bool × List yp × List zF × List WV × List je × List jw × Int × Int × Int × Int × Int
abbrev yEn : List Ty := [(.sl 32 yc), (.sl 181 wJ), (.int .i64), .bool, (.sl 3 ye), (.sl 216 zD), (.sl 166 jv), (.sl 168 Yz), (.sl 158 Zx), (.int .i64), (.int .i64), (.int .i64), (.int .i64), (.int .i64)]
abbrev yC1 : Type := List yp × Int × List yp
abbrev yC2 : List Ty := [(.sl 3 ye), (.int .i64), (.sl 3 ye)]
abbrev yhN : Type := Int × Int × Int × Int × Int
abbrev y16 : List Ty := [(.int .i64), (.int .i64), (.int .i64), (.int .i64), (.int .i64)]
abbrev yC3 : Type := List y37 × Int × List y8
abbrev yC4 : List Ty := [(.sl 279 Q9), (.int .i64), (.sl 106 yg)]
abbrev yC5 : Type := List z4 × Int × List y9
abbrev yC6 : List Ty := [(.sl 267 Ye), (.int .i64), (.sl 100 yj)]
abbrev yo8 : Type := List zF × Int × List y7
abbrev yo9 : List Ty := [(.sl 216 zD), (.int .i64), (.sl 98 yf)]
abbrev ywo : Type := List yp × List zF
abbrev yll : List Ty := [(.sl 3 ye), (.sl 216 zD)]
abbrev y3o : Type := List yp × List y7
abbrev vi : List Ty := [(.sl 3 ye), (.sl 98 yf)]
abbrev yoa : Type := List WV × Int × List yo
abbrev yob : List Ty := [(.sl 166 jv), (.int .i64), (.sl 89 yB)]
abbrev yoc : Type := Int × Bool × Int
abbrev yeb : List Ty := [(.int .i64), .bool, (.int .i64)]
abbrev yod : Type := List je × Int × List yb
abbrev yoe : List Ty := [(.sl 168 Yz), (.int .i64), (.sl 95 yk)]
abbrev ylm : Type := ByteArray × Int × Int × Bool
abbrev y4R : List Ty := [.str, (.int .i64), (.int .i64), .bool]
abbrev yof : Type := List jw × Int × List yA
abbrev yog : List Ty := [(.sl 158 Zx), (.int .i64), (.sl 91 yK)]
abbrev ywp : Type := List yp × List zF × List WV × List je × List jw × Int
abbrev yln : List Ty := [(.sl 3 ye), (.sl 216 zD), (.sl 166 jv), (.sl 168 Yz), (.sl 158 Zx), (.int .i64)]
abbrev y05 : Type := List yp × List y7 × List yo × List yb × List yA × Int
abbrev wC : List Ty := [(.sl 3 ye), (.sl 98 yf), (.sl 89 yB), (.sl 95 yk), (.sl 91 yK), (.int .i64)]
abbrev yoh : Type := List z0 × Int × List z0
abbrev yoi : List Ty := [(.sl 5 yu), (.int .i64), (.sl 5 yu)]
abbrev yoj : Type := List y6 × Int × List y6
abbrev yok : List Ty := [(.sl 32 yc), (.int .i64), (.sl 32 yc)]
abbrev yol : Type := List wK × Int × List yQ
abbrev yom : List Ty := [(.sl 181 wJ), (.int .i64), (.sl 186 z5)]
abbrev ywq : Type := List y6 × List wK × Int × Bool
abbrev ylo : List Ty := [(.sl 32 yc), (.sl 181 wJ), (.int .i64), .bool]
abbrev y1v : Type := List y6 × List yQ × Int × Bool
abbrev wk : List Ty := [(.sl 32 yc), (.sl 186 z5), (.int .i64), .bool]
abbrev yon : Type := List y6 × List wK × Int × Bool × List yp × List zF × List WV × List je × List jw × Int × Int × Int × Int
abbrev yfz : List Ty := [(.sl 32 yc), (.sl 181 wJ), (.int .i64), .bool, (.sl 3 ye), (.sl 216 zD), (.sl 166 jv), (.sl 168 Yz), (.sl 158 Zx), (.int .i64), (.int .i64), (.int .i64), (.int .i64)]
abbrev y06 : Type := List y6 × List yQ × Int × Bool × List yp × List y7 × List yo × List yb × List yA × Int × Int × Int × Int
abbrev jg : List Ty := [(.sl 32 yc), (.sl 186 z5), (.int .i64), .bool, (.sl 3 ye), (.sl 98 yf), (.sl 89 yB), (.sl 95 yk), (.sl 91 yK), (.int .i64), (.int .i64), (.int .i64), (.int .i64)]
abbrev yfA : Type := Int × List y9 × List y9
abbrev yoo : List Ty := [(.int .i64), (.sl 100 yj), (.sl 100 yj)]
abbrev yfB : Type := Int × List yp × List y7 × List yp
abbrev yop : List Ty := [(.int .i64), (.sl 3 ye), (.sl 98 yf), (.sl 3 ye)]
abbrev yfC : Type := Int × List yp × List y7 × List yp × List y7
abbrev yoq : List Ty := [(.int .i64), (.sl 3 ye), (.sl 98 yf), (.sl 3 ye), (.sl 98 yf)]
abbrev y5C : Type := Int × List y6 × List yQ × Int × Bool × Int × Bool × Int × Bool
abbrev yhO : List Ty := [(.int .i64), (.sl 32 yc), (.sl 186 z5), (.int .i64), .bool, (.int .i64), .bool, (.int .i64), .bool]
abbrev y23 : Type := Int × List y6 × List yQ × Int × Bool × Int × Bool × Int × Bool × List y6
abbrev yhP : List Ty := [(.int .i64), (.sl 32 yc), (.sl 186 z5), (.int .i64), .bool, (.int .i64), .bool, (.int .i64), .bool, (.sl 32 yc)]
abbrev yor : Type := List y6 × List yQ × Int × Bool × Int × Bool × Int × Bool
abbrev yos : Type := List y6 × List yQ × Int × Bool × Int × Bool × Int × Bool × List y6
abbrev ybf : Type := Int × List y6 × List yQ × Int × Bool × Int × Bool × Int × Bool × List yQ
abbrev yot : List Ty := [(.int .i64), (.sl 32 yc), (.sl 186 z5), (.int .i64), .bool, (.int .i64), .bool, (.int .i64), .bool, (.sl 186 z5)]
abbrev y7i : Type := Int × List y6 × List yQ × Int × Bool × Int × Bool × Int × Bool × List y6 × List yQ
abbrev yov : List Ty := [(.int .i64), (.sl 32 yc), (.sl 186 z5), (.int .i64), .bool, (.int .i64), .bool, (.int .i64), .bool, (.sl 32 yc), (.sl 186 z5)]
abbrev yow : Type := Int × Bool × Int × Bool
abbrev yox : Type := Int × Bool × Int × Bool × List yQ
abbrev yoy : Type := Int × Bool × Int × Bool × List y6
abbrev yhQ : Type := Int × Bool × Int × Bool × List y6 × List yQ
abbrev ylp : Type := Int × Int × Int
abbrev ylq : List Ty := [(.int .i64), (.int .i64), (.int .i64)]
abbrev yhR : Type := List y8 × Int × List y8
abbrev yhS : List Ty := [(.sl 106 yg), (.int .i64), (.sl 106 yg)]
abbrev yoz : Type := List y8 × Bool × Int × Int × Int × Int × Int × Int × List y8
abbrev yoA : List Ty := [(.sl 106 yg), .bool, (.int .i64), (.int .i64), (.int .i64), (.int .i64), (.int .i64), (.int .i64), (.sl 106 yg)]
abbrev yoB : Type := Bool × Int × Int × Int × Int × Int × List y8
abbrev yoC : Type := List y8 × Int × Int × Int × Int × Int
abbrev yoD : List Ty := [(.sl 106 yg), (.int .i64), (.int .i64), (.int .i64), (.int .i64), (.int .i64)]
abbrev yoE : Type := Int × List y9 × List y8
abbrev yoF : List Ty := [(.int .i64), (.sl 100 yj), (.sl 106 yg)]
abbrev yoG : Type := Int × List yp × List y7 × List y8
abbrev yoH : List Ty := [(.int .i64), (.sl 3 ye), (.sl 98 yf), (.sl 106 yg)]
abbrev yoI : Type := List y8 × Bool
abbrev ywr : Type := Bool × List y9
abbrev yoJ : Type := Int × Int × Int × List yp × List y7 × List y9
abbrev yoK : List Ty := [(.int .i64), (.int .i64), (.int .i64), (.sl 3 ye), (.sl 98 yf), (.sl 100 yj)]
abbrev yws : Type := Int × Bool × Int × List yp × List y7 × List y9
abbrev ylr : Type := Int × Int × List yp × List y7 × List y9
abbrev yoL : List Ty := [(.int .i64), (.int .i64), (.sl 3 ye), (.sl 98 yf), (.sl 100 yj)]
abbrev ywt : Type := Bool × List yp × List y7
abbrev yoM : Type := List yo × Bool
abbrev yoN : Type := List yb × Bool
abbrev yhT : Type := ByteArray × Int
abbrev yhU : List Ty := [.str, (.int .i64)]
abbrev yoO : Type := ByteArray × Bool
abbrev yoP : Type := List yo × Int × Int × List yp
abbrev yoQ : List Ty := [(.sl 89 yB), (.int .i64), (.int .i64), (.sl 3 ye)]
abbrev yoR : Type := Int × Int × List yp × List y7 × List yo × List yb × List yA × Int × ByteArray × Int × Int × Bool
abbrev yoS : List Ty := [(.int .i64), (.int .i64), (.sl 3 ye), (.sl 98 yf), (.sl 89 yB), (.sl 95 yk), (.sl 91 yK), (.int .i64), .str, (.int .i64), (.int .i64), .bool]
abbrev yls : Type := Bool × Int × List yp × List y7 × List yo × List yb × List yA × Int
abbrev ybg : Type := Int × List yp × List y7 × List yo × List yb × List yA × Int
abbrev yhV : List Ty := [(.int .i64), (.sl 3 ye), (.sl 98 yf), (.sl 89 yB), (.sl 95 yk), (.sl 91 yK), (.int .i64)]
abbrev yhW : Type := Bool × List yp × List y7 × List yo × List yb × List yA × Int
abbrev yoT : Type := Int × Bool
abbrev yoU : List Ty := [(.int .i64), .bool]
abbrev yoV : Type := Int × Int × Int × List yp × List y7 × List yo × List yb × List yA × Int × List y8
abbrev yoW : List Ty := [(.int .i64), (.int .i64), (.int .i64), (.sl 3 ye), (.sl 98 yf), (.sl 89 yB), (.sl 95 yk), (.sl 91 yK), (.int .i64), (.sl 106 yg)]
abbrev ywu : Type := Bool × Int × Int × List yp × List y7 × List yo × List yb × List yA × Int × List y8
abbrev ylt : Type := Int × Int × List yp × List y7 × List yo × List yb × List yA × Int × List y8
abbrev yoX : List Ty := [(.int .i64), (.int .i64), (.sl 3 ye), (.sl 98 yf), (.sl 89 yB), (.sl 95 yk), (.sl 91 yK), (.int .i64), (.sl 106 yg)]
abbrev yhX : Type := Int × List y6 × List yQ × Int × Bool
abbrev yhY : List Ty := [(.int .i64), (.sl 32 yc), (.sl 186 z5), (.int .i64), .bool]
abbrev ylu : Type := Bool × List y6 × List yQ × Int × Bool
abbrev yoY : Type := List z0 × ByteArray
abbrev yoZ : List Ty := [(.sl 5 yu), .str]
abbrev yp0 : Type := List z0 × Int × Int × Int × Int × Int
abbrev yp1 : List Ty := [(.sl 5 yu), (.int .i64), (.int .i64), (.int .i64), (.int .i64), (.int .i64)]
abbrev yp2 : Type := List y8 × Int × List z0
abbrev yp3 : List Ty := [(.sl 106 yg), (.int .i64), (.sl 5 yu)]
abbrev ywv : Type := List z0 × List y8
abbrev yww : List Ty := [(.sl 5 yu), (.sl 106 yg)]
abbrev y7j : Type := Int × List yp × List y7 × List yo × List yb × List yA × Int × List z0
abbrev ya7 : List Ty := [(.int .i64), (.sl 3 ye), (.sl 98 yf), (.sl 89 yB), (.sl 95 yk), (.sl 91 yK), (.int .i64), (.sl 5 yu)]
abbrev yec : Type := List yp × List y7 × List yo × List yb × List yA × Int × List z0
abbrev yp4 : Type := Int × Int × List yp × List y7 × List yo × List yb × List yA × Int × List z0
abbrev yp5 : List Ty := [(.int .i64), (.int .i64), (.sl 3 ye), (.sl 98 yf), (.sl 89 yB), (.sl 95 yk), (.sl 91 yK), (.int .i64), (.sl 5 yu)]
abbrev yp6 : Type := List z0 × Int × Int × Int
abbrev yp7 : List Ty := [(.sl 5 yu), (.int .i64), (.int .i64), (.int .i64)]
abbrev ywx : Type := Bool × List y6 × List yQ × Int × Bool × List yp × List y7 × List yo × List yb × List yA × Int × Int × Int × Int
abbrev ywy : List Ty := [.bool, (.sl 32 yc), (.sl 186 z5), (.int .i64), .bool, (.sl 3 ye), (.sl 98 yf), (.sl 89 yB), (.sl 95 yk), (.sl 91 yK), (.int .i64), (.int .i64), (.int .i64), (.int .i64)]
abbrev yp8 : Type := Int × Int × Bool × Int × Int × Int × Int × List y6 × List yQ × List yp × List y7 × List yo × List yb × List yA
abbrev yp9 : List Ty := [(.int .i64), (.int .i64), .bool, (.int .i64), (.int .i64), (.int .i64), (.int .i64), (.sl 32 yc), (.sl 186 z5), (.sl 3 ye), (.sl 98 yf), (.sl 89 yB), (.sl 95 yk), (.sl 91 yK)]
abbrev ypa : Type := Int × Bool × Int × Int × Int × Int × List y6 × List yQ × List yp × List y7 × List yo × List yb × List yA
abbrev ypb : Type := List y6 × List yQ × Int × Bool × List yp × List y7 × List yo × List yb × List yA × Int × Int × Int × Int × Int × List z0
abbrev ypc : List Ty := [(.sl 32 yc), (.sl 186 z5), (.int .i64), .bool, (.sl 3 ye), (.sl 98 yf), (.sl 89 yB), (.sl 95 yk), (.sl 91 yK), (.int .i64), (.int .i64), (.int .i64), (.int .i64), (.int .i64), (.sl 5 yu)]
abbrev ypd : Type := Int × List z0 × Int × Int × Bool × Int × Int × Int × Int × List y6 × List yQ × List yp × List y7 × List yo × List yb × List yA
abbrev ype : List Ty := [(.int .i64), (.sl 5 yu), (.int .i64), (.int .i64), .bool, (.int .i64), (.int .i64), (.int .i64), (.int .i64), (.sl 32 yc), (.sl 186 z5), (.sl 3 ye), (.sl 98 yf), (.sl 89 yB), (.sl 95 yk), (.sl 91 yK)]
abbrev ypf : Type := List y8 × List y8 × Int × Int
abbrev ypg : List Ty := [(.sl 106 yg), (.sl 106 yg), (.int .i64), (.int .i64)]
abbrev yph : Type := Int × List y9 × Int × Int × List y9
abbrev ypi : List Ty := [(.int .i64), (.sl 100 yj), (.int .i64), (.int .i64), (.sl 100 yj)]
abbrev ywz : Type := Bool × Int × List y9
abbrev ypj : Type := Int × List y9 × Int × Int × List y8 × Int × Int × List yp × List y7
abbrev ypk : List Ty := [(.int .i64), (.sl 100 yj), (.int .i64), (.int .i64), (.sl 106 yg), (.int .i64), (.int .i64), (.sl 3 ye), (.sl 98 yf)]
abbrev ywA : Type := Int × Bool × List y9 × Int × Int × List yp × List y7
abbrev ylv : Type := Int × List y9 × Int × Int × List yp × List y7
abbrev ypl : List Ty := [(.int .i64), (.sl 100 yj), (.int .i64), (.int .i64), (.sl 3 ye), (.sl 98 yf)]
abbrev ypm : Type := Bool × List y8 × Int × Int × Int × Int × Int × Int × Int × List y8
abbrev ypn : List Ty := [.bool, (.sl 106 yg), (.int .i64), (.int .i64), (.int .i64), (.int .i64), (.int .i64), (.int .i64), (.int .i64), (.sl 106 yg)]
abbrev yhZ : Type := List y8 × Int × Int × List y8
abbrev yi0 : List Ty := [(.sl 106 yg), (.int .i64), (.int .i64), (.sl 106 yg)]
abbrev ypo : Type := List y9 × Int × Int × List y8
abbrev ypp : List Ty := [(.sl 100 yj), (.int .i64), (.int .i64), (.sl 106 yg)]
abbrev ypq : Type := Int × List y7 × Int × Int × List yp × List y7
abbrev ypr : List Ty := [(.int .i64), (.sl 98 yf), (.int .i64), (.int .i64), (.sl 3 ye), (.sl 98 yf)]
abbrev yps : Type := Bool × Int
abbrev ywB : List Ty := [.bool, (.int .i64)]
abbrev ypt : Type := List yo × Int × Int × Int
abbrev ypu : List Ty := [(.sl 89 yB), (.int .i64), (.int .i64), (.int .i64)]
abbrev ypv : Type := List yo × List yo × Int × Int
abbrev ypw : List Ty := [(.sl 89 yB), (.sl 89 yB), (.int .i64), (.int .i64)]
abbrev ypx : Type := List yb × List yb × Int × Int
abbrev ypy : List Ty := [(.sl 95 yk), (.sl 95 yk), (.int .i64), (.int .i64)]
abbrev ypz : Type := Int × List yo × Int × Int × List yp
abbrev ypA : List Ty := [(.int .i64), (.sl 89 yB), (.int .i64), (.int .i64), (.sl 3 ye)]
abbrev ypB : Type := Bool × ByteArray × Int × Int × Bool
abbrev ypC : List Ty := [.bool, .str, (.int .i64), (.int .i64), .bool]
abbrev ypD : Type := List yA × Int × Int × ByteArray × Int × Int × Bool
abbrev ypE : List Ty := [(.sl 91 yK), (.int .i64), (.int .i64), .str, (.int .i64), (.int .i64), .bool]
abbrev ypF : Type := Int × ByteArray × Int × Int × Bool
abbrev ywC : List Ty := [(.int .i64), .str, (.int .i64), (.int .i64), .bool]
abbrev ypG : Type := List yA × ByteArray × Int × Int × Bool
abbrev ypH : List Ty := [(.sl 91 yK), .str, (.int .i64), (.int .i64), .bool]
abbrev ypI : Type := List yA × Int × Int × List yp × List y7 × List yo × List yb × List yA × Int
abbrev ypJ : List Ty := [(.sl 91 yK), (.int .i64), (.int .i64), (.sl 3 ye), (.sl 98 yf), (.sl 89 yB), (.sl 95 yk), (.sl 91 yK), (.int .i64)]
abbrev ypK : Type := List y7 × Int × Int × List y8
abbrev ypL : List Ty := [(.sl 98 yf), (.int .i64), (.int .i64), (.sl 106 yg)]
abbrev ypM : Type := Int × List yb × Int × Int
abbrev ypN : List Ty := [(.int .i64), (.sl 95 yk), (.int .i64), (.int .i64)]
abbrev ypO : Type := Int × Int × Int × List yp × List y7 × List yo × List yb × List yA × Int × List ycR × List y8
abbrev ypP : List Ty := [(.int .i64), (.int .i64), (.int .i64), (.sl 3 ye), (.sl 98 yf), (.sl 89 yB), (.sl 95 yk), (.sl 91 yK), (.int .i64), (.sl 4 y4P), (.sl 106 yg)]
abbrev ypQ : Type := List yo × Int × Int × List yp × List y7 × List yo × List yb × List yA × Int
abbrev ypR : List Ty := [(.sl 89 yB), (.int .i64), (.int .i64), (.sl 3 ye), (.sl 98 yf), (.sl 89 yB), (.sl 95 yk), (.sl 91 yK), (.int .i64)]
abbrev ypS : Type := List y6 × Int × Int × List z0
abbrev ypT : List Ty := [(.sl 32 yc), (.int .i64), (.int .i64), (.sl 5 yu)]
abbrev ypU : Type := List yo × Int × Int × List yp × List y7 × List yo × List yb × List yA × Int × List z0
abbrev ypV : List Ty := [(.sl 89 yB), (.int .i64), (.int .i64), (.sl 3 ye), (.sl 98 yf), (.sl 89 yB), (.sl 95 yk), (.sl 91 yK), (.int .i64), (.sl 5 yu)]
abbrev ypW : Type := List yA × Int × Int × List yp × List y7 × List yo × List yb × List yA × Int × List z0
abbrev ypX : List Ty := [(.sl 91 yK), (.int .i64), (.int .i64), (.sl 3 ye), (.sl 98 yf), (.sl 89 yB), (.sl 95 yk), (.sl 91 yK), (.int .i64), (.sl 5 yu)]
abbrev ypY : Type := List yb × Int × Int × List yp × List y7 × List yo × List yb × List yA × Int × List z0
abbrev ypZ : List Ty := [(.sl 95 yk), (.int .i64), (.int .i64), (.sl 3 ye), (.sl 98 yf), (.sl 89 yB), (.sl 95 yk), (.sl 91 yK), (.int .i64), (.sl 5 yu)]
abbrev yq0 : Type := List y7 × Int × Int × List y9 × Int × Int × List y8 × Int × Int × List yp × List y7 × List yo × List yb × List yA × Int × List z0
abbrev yq1 : List Ty := [(.sl 98 yf), (.int .i64), (.int .i64), (.sl 100 yj), (.int .i64), (.int .i64), (.sl 106 yg), (.int .i64), (.int .i64), (.sl 3 ye), (.sl 98 yf), (.sl 89 yB), (.sl 95 yk), (.sl 91 yK), (.int .i64), (.sl 5 yu)]
abbrev ylw : Type := List y7 × Int × Int × List y9 × Int × Int × List yp × List y7 × List yo × List yb × List yA × Int × List z0
abbrev yq2 : List Ty := [(.sl 98 yf), (.int .i64), (.int .i64), (.sl 100 yj), (.int .i64), (.int .i64), (.sl 3 ye), (.sl 98 yf), (.sl 89 yB), (.sl 95 yk), (.sl 91 yK), (.int .i64), (.sl 5 yu)]
abbrev ylx : Type := List y7 × Int × Int × List yp × List y7 × List yo × List yb × List yA × Int × List z0
abbrev yq3 : List Ty := [(.sl 98 yf), (.int .i64), (.int .i64), (.sl 3 ye), (.sl 98 yf), (.sl 89 yB), (.sl 95 yk), (.sl 91 yK), (.int .i64), (.sl 5 yu)]
abbrev yfD : Type := List y6 × Int × Int × List y6 × List yQ × Int × Bool × Int × Bool × Int × Bool
abbrev yq4 : List Ty := [(.sl 32 yc), (.int .i64), (.int .i64), (.sl 32 yc), (.sl 186 z5), (.int .i64), .bool, (.int .i64), .bool, (.int .i64), .bool]
abbrev yfE : Type := List y6 × Int × Int × List y6 × List yQ × Int × Bool × Int × Bool × Int × Bool × List y6
abbrev yq5 : List Ty := [(.sl 32 yc), (.int .i64), (.int .i64), (.sl 32 yc), (.sl 186 z5), (.int .i64), .bool, (.int .i64), .bool, (.int .i64), .bool, (.sl 32 yc)]
abbrev yfF : Type := List yQ × Int × Int × Int × Bool × Int × Bool
abbrev yq6 : List Ty := [(.sl 186 z5), (.int .i64), (.int .i64), (.int .i64), .bool, (.int .i64), .bool]
abbrev ybh : Type := List yQ × Int × Int × Int × Bool × Int × Bool × List yQ
abbrev yq7 : List Ty := [(.sl 186 z5), (.int .i64), (.int .i64), (.int .i64), .bool, (.int .i64), .bool, (.sl 186 z5)]
abbrev y7k : Type := List yQ × Int × Int × Int × Bool × Int × Bool × List y6
abbrev yq8 : List Ty := [(.sl 186 z5), (.int .i64), (.int .i64), (.int .i64), .bool, (.int .i64), .bool, (.sl 32 yc)]
abbrev y7l : Type := List yQ × Int × Int × Int × Bool × Int × Bool × List y6 × List yQ
abbrev yq9 : List Ty := [(.sl 186 z5), (.int .i64), (.int .i64), (.int .i64), .bool, (.int .i64), .bool, (.sl 32 yc), (.sl 186 z5)]
abbrev yfG : Type := List y9 × Int × Int × List y9
abbrev yqa : List Ty := [(.sl 100 yj), (.int .i64), (.int .i64), (.sl 100 yj)]
abbrev yfH : Type := List y7 × Int × Int × List yp
abbrev yqb : List Ty := [(.sl 98 yf), (.int .i64), (.int .i64), (.sl 3 ye)]
abbrev yfI : Type := List y7 × Int × Int × List yp × List y7
abbrev yqc : List Ty := [(.sl 98 yf), (.int .i64), (.int .i64), (.sl 3 ye), (.sl 98 yf)]
abbrev yqd : Type := List y6 × Int × Int × List y6 × List yQ × Int × Bool
abbrev yqe : List Ty := [(.sl 32 yc), (.int .i64), (.int .i64), (.sl 32 yc), (.sl 186 z5), (.int .i64), .bool]
abbrev yqf : Type := List yQ × Int × Int × List y6 × List yQ × Int × Bool
abbrev yqg : List Ty := [(.sl 186 z5), (.int .i64), (.int .i64), (.sl 32 yc), (.sl 186 z5), (.int .i64), .bool]
abbrev ywD : Type := List y6 × List yQ × Int × Bool × Bool
abbrev ywE : List Ty := [(.sl 32 yc), (.sl 186 z5), (.int .i64), .bool, .bool]
abbrev yfJ : Type := Int × Int × Int × Bool × Int × Bool × List yQ × List y6
abbrev yqh : List Ty := [(.int .i64), (.int .i64), (.int .i64), .bool, (.int .i64), .bool, (.sl 186 z5), (.sl 32 yc)]
abbrev yfK : Type := List yQ × Int × Int × Int × Bool × List yQ × Int × Bool × List y6
abbrev yqi : List Ty := [(.sl 186 z5), (.int .i64), (.int .i64), (.int .i64), .bool, (.sl 186 z5), (.int .i64), .bool, (.sl 32 yc)]
abbrev ywF : Type := Int × Bool × List yQ × Int × Bool × List y6
abbrev yqj : Type := Int × List z0 × Int × Int × Int
abbrev yqk : List Ty := [(.int .i64), (.sl 5 yu), (.int .i64), (.int .i64), (.int .i64)]
abbrev yly : Type := Int × List z0 × Int × Int
abbrev yql : List Ty := [(.int .i64), (.sl 5 yu), (.int .i64), (.int .i64)]
abbrev yqm : Type := List y6 × List yQ × Int × Bool × Int × List z0
abbrev yqn : List Ty := [(.sl 32 yc), (.sl 186 z5), (.int .i64), .bool, (.int .i64), (.sl 5 yu)]
abbrev yqo : Type := Int × List z0 × Int × Int × Bool × Int × Bool × List y6 × List yQ
abbrev yqp : List Ty := [(.int .i64), (.sl 5 yu), (.int .i64), (.int .i64), .bool, (.int .i64), .bool, (.sl 32 yc), (.sl 186 z5)]
def yqq : List (Nat × TI) := [
 (3, .c (.int .i64) 8),
 (4, .c (.bool) 1),
 (5, .c (.int .u8) 1),
 (9, .c (.str) 16),
 (22, .c (.sl 3 ye) 24),
 (23, .c (.sl 216 zD) 24),
 (25, .s [(0, 22), (1, 23)] [(.sl 3 ye), (.sl 216 zD)] 48),
 (26, .c (.sl 166 jv) 24),
 (27, .c (.sl 168 Yz) 24),
 (28, .c (.sl 158 Zx) 24),
 (30, .s [(0, 25), (2, 26), (3, 27), (4, 28), (5, 3)] [(.sl 3 ye), (.sl 216 zD), (.sl 166 jv), (.sl 168 Yz), (.sl 158 Zx), (.int .i64)] 128),
 (32, .c (.sl 5 yu) 24),
 (34, .c (.sl 98 yf) 24),
 (36, .s [(0, 22), (1, 34)] [(.sl 3 ye), (.sl 98 yf)] 48),
 (37, .c (.sl 89 yB) 24),
 (38, .c (.sl 95 yk) 24),
 (39, .c (.sl 91 yK) 24),
 (41, .s [(0, 36), (2, 37), (3, 38), (4, 39), (5, 3)] [(.sl 3 ye), (.sl 98 yf), (.sl 89 yB), (.sl 95 yk), (.sl 91 yK), (.int .i64)] 128),
 (48, .c (.sl 32 yc) 24),
 (49, .c (.sl 181 wJ) 24),
 (51, .s [(0, 48), (1, 49), (2, 3), (3, 4)] [(.sl 32 yc), (.sl 181 wJ), (.int .i64), .bool] 64),
 (54, .s [(0, 3), (1, 3), (2, 3), (3, 3), (4, 3)] [(.int .i64), (.int .i64), (.int .i64), (.int .i64), (.int .i64)] 40),
 (57, .c (.sl 186 z5) 24),
 (59, .s [(0, 48), (1, 57), (2, 3), (3, 4)] [(.sl 32 yc), (.sl 186 z5), (.int .i64), .bool] 64),
 (70, .s [(0, 59), (4, 41), (10, 3), (11, 3), (12, 3)] [(.sl 32 yc), (.sl 186 z5), (.int .i64), .bool, (.sl 3 ye), (.sl 98 yf), (.sl 89 yB), (.sl 95 yk), (.sl 91 yK), (.int .i64), (.int .i64), (.int .i64), (.int .i64)] 216),
 (76, .s [(0, 51), (4, 30), (10, 3), (11, 3), (12, 3)] [(.sl 32 yc), (.sl 181 wJ), (.int .i64), .bool, (.sl 3 ye), (.sl 216 zD), (.sl 166 jv), (.sl 168 Yz), (.sl 158 Zx), (.int .i64), (.int .i64), (.int .i64), (.int .i64)] 216),
 (89, .s [(0, 3), (1, 3)] [(.int .i64), (.int .i64)] 16),
 (91, .s [(0, 9), (1, 3), (2, 3), (3, 4)] [.str, (.int .i64), (.int .i64), .bool] 40),
 (95, .s [(0, 3), (1, 4), (2, 3)] [(.int .i64), .bool, (.int .i64)] 24),
 (96, .c (.sl 100 yj) 24),
 (98, .s [(0, 96)] [(.sl 100 yj)] 24),
 (100, .c (.sl 106 yg) 24),
 (106, .s [(0, 3), (1, 3), (2, 3), (3, 3), (4, 3)] [(.int .i64), (.int .i64), (.int .i64), (.int .i64), (.int .i64)] 40),
 (158, .s [(0, 9), (1, 3), (2, 3), (3, 4)] [.str, (.int .i64), (.int .i64), .bool] 40),
 (166, .s [(0, 3), (1, 3)] [(.int .i64), (.int .i64)] 16),
 (168, .s [(0, 3), (1, 4), (2, 3)] [(.int .i64), .bool, (.int .i64)] 24),
 (181, .s [(0, 3), (1, 32)] [(.int .i64), (.sl 5 yu)] 32),
 (186, .s [(0, 3), (1, 32)] [(.int .i64), (.sl 5 yu)] 32),
 (214, .c (.sl 267 Ye) 24),
 (216, .s [(0, 214)] [(.sl 267 Ye)] 24),
 (229, .c (.sl 4 y4P) 24),
 (267, .c (.sl 279 Q9) 24),
 (279, .s [(0, 3), (1, 3), (2, 3), (3, 3), (4, 3)] [(.int .i64), (.int .i64), (.int .i64), (.int .i64), (.int .i64)] 40)]
def yqr : Sig := ⟨[.v false [(.sl 3 ye)] [false], .v false [(.sl 3 ye)] [false]], [⟨false, [.bool], [false]⟩], false, false, false⟩
def yqs : Sig := ⟨[.v true y16 (nf 5), .v true y16 (nf 5)], [⟨false, [.bool], [false]⟩], false, false, false⟩
def yqt : Sig := ⟨[.v false [(.sl 106 yg)] [false], .v false [(.sl 106 yg)] [false]], [⟨false, [.bool], [false]⟩], false, false, false⟩
def yqu : Sig := ⟨[.v false [(.sl 100 yj)] [false], .v false [(.sl 100 yj)] [false]], [⟨false, [.bool], [false]⟩], false, false, false⟩
def yqv : Sig := ⟨[.v true [(.sl 100 yj)] [false], .v true [(.sl 100 yj)] [false]], [⟨false, [.bool], [false]⟩], false, false, false⟩
def yqw : Sig := ⟨[.v false [(.sl 98 yf)] [false], .v false [(.sl 98 yf)] [false]], [⟨false, [.bool], [false]⟩], false, false, false⟩
def yC7 : Sig := ⟨[.v true vi [false, false], .v true vi [false, false]], [⟨false, [.bool], [false]⟩], false, false, false⟩
def yqx : Sig := ⟨[.v true yeK [false, false], .v true yeK [false, false]], [⟨false, [.bool], [false]⟩], false, false, false⟩
def yC8 : Sig := ⟨[.v false [(.sl 89 yB)] [false], .v false [(.sl 89 yB)] [false]], [⟨false, [.bool], [false]⟩], false, false, false⟩
def yqy : Sig := ⟨[.v true yeb (nf 3), .v true yeb (nf 3)], [⟨false, [.bool], [false]⟩], false, false, false⟩
def yC9 : Sig := ⟨[.v false [(.sl 95 yk)] [false], .v false [(.sl 95 yk)] [false]], [⟨false, [.bool], [false]⟩], false, false, false⟩
def yqz : Sig := ⟨[.v true y4R (nf 4), .v true y4R (nf 4)], [⟨false, [.bool], [false]⟩], false, false, false⟩
def yCa : Sig := ⟨[.v false [(.sl 91 yK)] [false], .v false [(.sl 91 yK)] [false]], [⟨false, [.bool], [false]⟩], false, false, false⟩
def yCb : Sig := ⟨[.v true wC (nf 6), .v true wC (nf 6)], [⟨false, [.bool], [false]⟩], false, false, false⟩
def yCc : Sig := ⟨[.v false [(.sl 5 yu)] [false], .v false [(.sl 5 yu)] [false]], [⟨false, [.bool], [false]⟩], false, false, false⟩
def yCd : Sig := ⟨[.v false [(.sl 32 yc)] [false], .v false [(.sl 32 yc)] [false]], [⟨false, [.bool], [false]⟩], false, false, false⟩
def yqA : Sig := ⟨[.v true yju [false, false], .v true yju [false, false]], [⟨false, [.bool], [false]⟩], false, false, false⟩
def yCe : Sig := ⟨[.v false [(.sl 186 z5)] [false], .v false [(.sl 186 z5)] [false]], [⟨false, [.bool], [false]⟩], false, false, false⟩
def yCf : Sig := ⟨[.v true wk (nf 4), .v true wk (nf 4)], [⟨false, [.bool], [false]⟩], false, false, false⟩
def yCg : Sig := ⟨[.v true jg (nf 13), .v true jg (nf 13)], [⟨false, [.bool], [false]⟩], false, false, false⟩
def yqB : Sig := ⟨[.v false [(.sl 3 ye)] [true], .v false [(.int .i64)] [false]], [⟨false, [(.int .i64)], [false]⟩], false, true, true⟩
def yqC : Sig := ⟨[.v false [(.sl 106 yg)] [true], .v false [(.int .i64)] [false]], [⟨false, [(.int .i64)], [false]⟩], false, true, true⟩
def yqD : Sig := ⟨[.v false [(.sl 100 yj)] [true], .v false [(.int .i64)] [false]], [⟨false, [(.int .i64)], [false]⟩], false, true, true⟩
def yqE : Sig := ⟨[.v false [(.sl 98 yf)] [true], .v false [(.int .i64)] [false]], [⟨false, [(.int .i64)], [false]⟩], false, true, true⟩
def yCh : Sig := ⟨[.v true vi [true, true], .v false [(.int .i64)] [false]], [⟨false, [(.int .i64)], [false]⟩], false, true, true⟩
def yCi : Sig := ⟨[.v false [(.sl 89 yB)] [true], .v false [(.int .i64)] [false]], [⟨false, [(.int .i64)], [false]⟩], false, true, true⟩
def yCj : Sig := ⟨[.v false [(.sl 95 yk)] [true], .v false [(.int .i64)] [false]], [⟨false, [(.int .i64)], [false]⟩], false, true, true⟩
def yqF : Sig := ⟨[.v false [(.int .i64)] [false]], [⟨false, [.str], [false]⟩], false, false, false⟩
def yCk : Sig := ⟨[.v false [(.sl 91 yK)] [true], .v false [(.int .i64)] [false]], [⟨false, [(.int .i64)], [false]⟩], false, true, true⟩
def yCl : Sig := ⟨[.v true wC [true, true, true, true, true, false], .v false [(.int .i64)] [false]], [⟨false, [(.int .i64)], [false]⟩], false, true, true⟩
def yCm : Sig := ⟨[.v false [(.sl 5 yu)] [true], .v false [(.int .i64)] [false]], [⟨false, [(.int .i64)], [false]⟩], false, true, true⟩
def yCn : Sig := ⟨[.v false [(.sl 32 yc)] [true], .v false [(.int .i64)] [false]], [⟨false, [(.int .i64)], [false]⟩], false, true, true⟩
def yCo : Sig := ⟨[.v false [(.sl 186 z5)] [true], .v false [(.int .i64)] [false]], [⟨false, [(.int .i64)], [false]⟩], false, true, true⟩
def yCp : Sig := ⟨[.v true wk [true, true, false, false], .v false [(.int .i64)] [false]], [⟨false, [(.int .i64)], [false]⟩], false, true, true⟩
def yCq : Sig := ⟨[.v true jg [true, true, false, false, true, true, true, true, true, false, false, false, false], .v false [(.int .i64)] [false]], [⟨false, [(.int .i64)], [false]⟩], false, true, true⟩
def yqG : Sig := ⟨[.v false [(.sl 3 ye)] [false], .v false [(.int .i64)] [false]], [⟨false, [(.int .i64)], [false]⟩], false, false, false⟩
def yqH : Sig := ⟨[.v false [(.sl 106 yg)] [false], .v false [(.int .i64)] [false]], [⟨false, [(.int .i64)], [false]⟩], false, false, false⟩
def yqI : Sig := ⟨[.v false [(.sl 100 yj)] [false], .v false [(.int .i64)] [false]], [⟨false, [(.int .i64)], [false]⟩], false, false, false⟩
def yqJ : Sig := ⟨[.v false [(.sl 98 yf)] [false], .v false [(.int .i64)] [false]], [⟨false, [(.int .i64)], [false]⟩], false, false, false⟩
def yCr : Sig := ⟨[.v true vi [false, false], .v false [(.int .i64)] [false]], [⟨false, [(.int .i64)], [false]⟩], false, false, false⟩
def yCs : Sig := ⟨[.v false [(.sl 89 yB)] [false], .v false [(.int .i64)] [false]], [⟨false, [(.int .i64)], [false]⟩], false, false, false⟩
def yCt : Sig := ⟨[.v false [(.sl 95 yk)] [false], .v false [(.int .i64)] [false]], [⟨false, [(.int .i64)], [false]⟩], false, false, false⟩
def yCu : Sig := ⟨[.v false [(.sl 91 yK)] [false], .v false [(.int .i64)] [false]], [⟨false, [(.int .i64)], [false]⟩], false, false, false⟩
def yCv : Sig := ⟨[.v true wC (nf 6), .v false [(.int .i64)] [false]], [⟨false, [(.int .i64)], [false]⟩], false, false, false⟩
def yCw : Sig := ⟨[.v false [(.sl 5 yu)] [false], .v false [(.int .i64)] [false]], [⟨false, [(.int .i64)], [false]⟩], false, false, false⟩
def yqK : Sig := ⟨[.v false [(.sl 32 yc)] [false], .v false [(.int .i64)] [false]], [⟨false, [(.int .i64)], [false]⟩], false, false, false⟩
def yqL : Sig := ⟨[.v false [(.sl 186 z5)] [false], .v false [(.int .i64)] [false]], [⟨false, [(.int .i64)], [false]⟩], false, false, false⟩
def yCx : Sig := ⟨[.v true wk (nf 4), .v false [(.int .i64)] [false]], [⟨false, [(.int .i64)], [false]⟩], false, false, false⟩
def yCy : Sig := ⟨[.v true jg (nf 13), .v false [(.int .i64)] [false]], [⟨false, [(.int .i64)], [false]⟩], false, false, false⟩
def yqM : Sig := ⟨[.v false [(.sl 3 ye)] [false], .v false [(.int .i64)] [false]], [⟨false, [(.int .i64)], [false]⟩], false, false, false⟩
def yqN : Sig := ⟨[.v false [(.sl 279 Q9)] [false], .v false [(.int .i64)] [false]], [⟨false, [(.int .i64)], [false]⟩], false, false, false⟩
def yqO : Sig := ⟨[.v false [(.sl 267 Ye)] [false], .v false [(.int .i64)] [false]], [⟨false, [(.int .i64)], [false]⟩], false, false, false⟩
def yqP : Sig := ⟨[.v true [(.sl 267 Ye)] [false], .v false [(.int .i64)] [false]], [⟨false, [(.int .i64)], [false]⟩], false, false, false⟩
def yqQ : Sig := ⟨[.v false [(.sl 216 zD)] [false], .v false [(.int .i64)] [false]], [⟨false, [(.int .i64)], [false]⟩], false, false, false⟩
def yCz : Sig := ⟨[.v true yll [false, false], .v false [(.int .i64)] [false]], [⟨false, [(.int .i64)], [false]⟩], false, false, false⟩
def yCA : Sig := ⟨[.v false [(.sl 166 jv)] [false], .v false [(.int .i64)] [false]], [⟨false, [(.int .i64)], [false]⟩], false, false, false⟩
def yCB : Sig := ⟨[.v false [(.sl 168 Yz)] [false], .v false [(.int .i64)] [false]], [⟨false, [(.int .i64)], [false]⟩], false, false, false⟩
def yqR : Sig := ⟨[.v true y4R (nf 4), .v false [(.int .i64)] [false]], [⟨false, [(.int .i64)], [false]⟩], false, false, false⟩
def yCC : Sig := ⟨[.v false [(.sl 158 Zx)] [false], .v false [(.int .i64)] [false]], [⟨false, [(.int .i64)], [false]⟩], false, false, false⟩
def yCD : Sig := ⟨[.v true yln (nf 6), .v false [(.int .i64)] [false]], [⟨false, [(.int .i64)], [false]⟩], false, false, false⟩
def yqS : Sig := ⟨[.v false [(.sl 5 yu)] [false], .v false [(.int .i64)] [false]], [⟨false, [(.int .i64)], [false]⟩], false, false, false⟩
def yCE : Sig := ⟨[.v false [(.sl 32 yc)] [false], .v false [(.int .i64)] [false]], [⟨false, [(.int .i64)], [false]⟩], false, false, false⟩
def yqT : Sig := ⟨[.v true yju [false, false], .v false [(.int .i64)] [false]], [⟨false, [(.int .i64)], [false]⟩], false, false, false⟩
def yCF : Sig := ⟨[.v false [(.sl 181 wJ)] [false], .v false [(.int .i64)] [false]], [⟨false, [(.int .i64)], [false]⟩], false, false, false⟩
def yCG : Sig := ⟨[.v true ylo (nf 4), .v false [(.int .i64)] [false]], [⟨false, [(.int .i64)], [false]⟩], false, false, false⟩
def yCH : Sig := ⟨[.v true yfz (nf 13), .v false [(.int .i64)] [false]], [⟨false, [(.int .i64)], [false]⟩], false, false, false⟩
def yqU : Sig := ⟨[.v false [(.sl 3 ye)] [false]], [⟨false, [(.sl 3 ye)], [true]⟩], false, true, false⟩
def yqV : Sig := ⟨[.v true y16 (nf 5)], [⟨true, y16, (nf 5)⟩], false, true, false⟩
def yqW : Sig := ⟨[.v false [(.sl 279 Q9)] [false]], [⟨false, [(.sl 106 yg)], [true]⟩], false, true, false⟩
def yqX : Sig := ⟨[.v false [(.sl 267 Ye)] [false]], [⟨false, [(.sl 100 yj)], [true]⟩], false, true, false⟩
def yqY : Sig := ⟨[.v true [(.sl 267 Ye)] [false]], [⟨true, [(.sl 100 yj)], [true]⟩], false, true, false⟩
def yqZ : Sig := ⟨[.v false [(.sl 216 zD)] [false]], [⟨false, [(.sl 98 yf)], [true]⟩], false, true, false⟩
def yCI : Sig := ⟨[.v true yll [false, false]], [⟨true, vi, [true, true]⟩], false, true, false⟩
def yr0 : Sig := ⟨[.v true yeK [false, false]], [⟨true, yeK, [false, false]⟩], false, true, false⟩
def yCJ : Sig := ⟨[.v false [(.sl 166 jv)] [false]], [⟨false, [(.sl 89 yB)], [true]⟩], false, true, false⟩
def yr1 : Sig := ⟨[.v true yeb (nf 3)], [⟨true, yeb, (nf 3)⟩], false, true, false⟩
def yCK : Sig := ⟨[.v false [(.sl 168 Yz)] [false]], [⟨false, [(.sl 95 yk)], [true]⟩], false, true, false⟩
def yr2 : Sig := ⟨[.v true y4R (nf 4)], [⟨true, y4R, (nf 4)⟩], false, true, false⟩
def yCL : Sig := ⟨[.v false [(.sl 158 Zx)] [false]], [⟨false, [(.sl 91 yK)], [true]⟩], false, true, false⟩
def yCM : Sig := ⟨[.v true yln (nf 6)], [⟨true, wC, [true, true, true, true, true, false]⟩], false, true, false⟩
def yCN : Sig := ⟨[.v false [(.sl 5 yu)] [false]], [⟨false, [(.sl 5 yu)], [true]⟩], false, true, false⟩
def yCO : Sig := ⟨[.v false [(.sl 32 yc)] [false]], [⟨false, [(.sl 32 yc)], [true]⟩], false, true, false⟩
def yr3 : Sig := ⟨[.v true yju [false, false]], [⟨true, yju, [false, true]⟩], false, true, false⟩
def yCP : Sig := ⟨[.v false [(.sl 181 wJ)] [false]], [⟨false, [(.sl 186 z5)], [true]⟩], false, true, false⟩
def yCQ : Sig := ⟨[.v true ylo (nf 4)], [⟨true, wk, [true, true, false, false]⟩], false, true, false⟩
def yCR : Sig := ⟨[.v true yfz (nf 13)], [⟨true, jg, [true, true, false, false, true, true, true, true, true, false, false, false, false]⟩], false, true, false⟩
def yr4 : Sig := ⟨[.v true [(.sl 100 yj)] [false]], [⟨true, [(.sl 100 yj)], [true]⟩], false, false, false⟩
def yr5 : Sig := ⟨[.v true vi [false, false]], [⟨true, vi, [true, true]⟩], false, false, false⟩
def yr6 : Sig := ⟨[.v false [(.sl 95 yk)] [false]], [⟨false, [(.sl 95 yk)], [true]⟩], false, false, false⟩
def yr7 : Sig := ⟨[.v true wC (nf 6)], [⟨true, wC, [true, true, true, true, true, false]⟩], false, false, false⟩
def yr8 : Sig := ⟨[.v true wk (nf 4)], [⟨true, wk, [true, true, false, false]⟩], false, false, false⟩
def yr9 : Sig := ⟨[.v true jg (nf 13)], [⟨true, jg, [true, true, false, false, true, true, true, true, true, false, false, false, false]⟩], false, false, false⟩
def yra : Sig := ⟨[.v false [(.int .i64)] [false], .v false [(.int .i64)] [false], .v false [(.int .i64)] [false]], [⟨false, [.bool], [false]⟩], false, false, false⟩
def yrb : Sig := ⟨[.v false [(.sl 106 yg)] [false]], [⟨false, [(.sl 106 yg)], [true]⟩], false, false, false⟩
def yrc : Sig := ⟨[.v true y16 (nf 5), .v true y16 (nf 5)], [⟨false, [.bool], [false]⟩], false, false, false⟩
def yrd : Sig := ⟨[.v true y16 (nf 5), .v true y16 (nf 5)], [⟨false, [.bool], [false]⟩], false, false, false⟩
def yre : Sig := ⟨[.v false [(.sl 106 yg)] [false], .v true y16 (nf 5)], [⟨false, [(.sl 106 yg)], [true]⟩], false, false, false⟩
def yrf : Sig := ⟨[.v false [(.sl 106 yg)] [false], .v false [(.sl 106 yg)] [false]], [⟨false, [(.sl 106 yg)], [true]⟩], false, false, false⟩
def yrg : Sig := ⟨[.v true [(.sl 100 yj)] [false]], [⟨false, [(.sl 106 yg)], [true]⟩], false, false, false⟩
def yrh : Sig := ⟨[.v true vi [false, false]], [⟨false, [(.sl 106 yg)], [true]⟩], false, false, false⟩
def yri : Sig := ⟨[.v false [(.int .i64)] [false], .v false [(.int .i64)] [false]], [⟨false, [(.int .i64)], [false]⟩], false, false, false⟩
def yrj : Sig := ⟨[.v true y16 (nf 5)], [⟨false, [(.int .i64)], [false]⟩], false, false, false⟩
def yrk : Sig := ⟨[.v true y16 (nf 5)], [⟨false, [.bool], [false]⟩], false, false, false⟩
def yrl : Sig := ⟨[.v false [(.sl 106 yg)] [false]], [⟨false, [.bool], [false]⟩], false, false, false⟩
def yrm : Sig := ⟨[.v false [(.sl 106 yg)] [false]], [⟨false, [.bool], [false]⟩], false, false, false⟩
def yrn : Sig := ⟨[.v true [(.sl 100 yj)] [false]], [⟨false, [(.int .i64)], [false]⟩], false, false, false⟩
def yro : Sig := ⟨[.v true [(.sl 100 yj)] [false]], [⟨false, [.bool], [false]⟩], false, false, false⟩
def yrp : Sig := ⟨[.v true vi [false, false], .v false [(.int .i64)] [false]], [⟨false, [.bool], [false]⟩], false, false, false⟩
def yrq : Sig := ⟨[.v true vi [false, false]], [⟨false, [.bool], [false]⟩], false, false, false⟩
def yrr : Sig := ⟨[.v false [(.sl 89 yB)] [false], .v false [(.int .i64)] [false]], [⟨false, [(.int .i64)], [false]⟩], false, false, false⟩
def yrs : Sig := ⟨[.v false [(.sl 89 yB)] [false]], [⟨false, [.bool], [false]⟩], false, false, false⟩
def yrt : Sig := ⟨[.v false [(.int .i64)] [false]], [⟨false, [.bool], [false]⟩], false, false, false⟩
def yru : Sig := ⟨[.v false [(.sl 95 yk)] [false]], [⟨false, [.bool], [false]⟩], false, false, false⟩
def yrv : Sig := ⟨[.v false [.str] [false]], [⟨false, [.bool], [false]⟩], false, false, false⟩
def yrw : Sig := ⟨[.v false [(.sl 89 yB)] [false], .v false [(.int .i64)] [false]], [⟨false, [(.sl 3 ye)], [true]⟩], false, false, false⟩
def yrx : Sig := ⟨[.v true wC (nf 6)], [⟨false, [.bool], [false]⟩], false, false, false⟩
def yry : Sig := ⟨[.v false [(.sl 95 yk)] [false], .v false [(.int .i64)] [false], .v false [(.int .i64)] [false]], [⟨false, [(.int .i64)], [false]⟩, ⟨false, [.bool], [false]⟩], false, false, false⟩
def yrz : Sig := ⟨[.v false [(.sl 95 yk)] [false]], [⟨false, [(.int .i64)], [false]⟩], false, false, false⟩
def yrA : Sig := ⟨[.v true wC (nf 6)], [⟨false, [.bool], [false]⟩], false, false, false⟩
def yCS : Sig := ⟨[.v true wC (nf 6)], [⟨false, [.bool], [false]⟩], false, false, false⟩
def yrB : Sig := ⟨[.v true wk (nf 4)], [⟨false, [.bool], [false]⟩], false, false, false⟩
def yrC : Sig := ⟨[.v true jg (nf 13)], [⟨false, [.bool], [false]⟩], false, false, false⟩
def yCT : Sig := ⟨[.v false [(.sl 5 yu)] [false], .v false [(.int .i64)] [false]], [⟨false, [(.sl 5 yu)], [true]⟩], false, false, false⟩
def yCU : Sig := ⟨[.v false [(.sl 5 yu)] [false], .v false [.str] [false]], [⟨false, [(.sl 5 yu)], [true]⟩], false, false, false⟩
def yCV : Sig := ⟨[.v false [.bool] [false]], [⟨false, [(.int .u8)], [false]⟩], false, false, false⟩
def yrD : Sig := ⟨[.v false [(.sl 5 yu)] [false], .v true y16 (nf 5)], [⟨false, [(.sl 5 yu)], [true]⟩], false, false, false⟩
def yCW : Sig := ⟨[.v false [(.sl 5 yu)] [true], .v false [(.sl 106 yg)] [false]], [⟨false, [(.sl 5 yu)], [true]⟩], false, false, false⟩
def yCX : Sig := ⟨[.v true wC (nf 6)], [⟨false, [(.sl 5 yu)], [true]⟩], false, false, false⟩
def yrE : Sig := ⟨[.v false [(.sl 5 yu)] [false]], [⟨false, [(.int .i64)], [false]⟩], false, false, false⟩
def yrF : Sig := ⟨[.v false [(.int .i64)] [false], .v false [(.int .i64)] [false]], [⟨false, [(.int .i64)], [false]⟩], false, false, false⟩
def yrG : Sig := ⟨[.v true y16 (nf 5)], [⟨false, [.bool], [false]⟩], false, false, false⟩
def yrH : Sig := ⟨[.v false [(.sl 5 yu)] [false], .v false [(.int .i64)] [false]], [⟨false, [(.sl 5 yu)], [true]⟩], false, false, false⟩
def yrI : Sig := ⟨[.v true y16 (nf 5)], [⟨false, [(.sl 5 yu)], [true]⟩], false, false, false⟩
def ycS : Sig := ⟨[.p (some 1000000000) jg [true, true, false, false, true, true, true, true, true, false, false, false, false]], [⟨false, [.bool], [false]⟩], false, false, false⟩
def ycT : Sig := ⟨[.p (some 1000000000) jg [true, true, false, false, true, true, true, true, true, false, false, false, false]], [], false, false, false⟩
def ycU : Sig := ⟨[.p (some 1000000000) jg [true, true, false, false, true, true, true, true, true, false, false, false, false], .v false [(.int .i64)] [false], .v false [(.sl 5 yu)] [false]], [], false, false, false⟩
def ycV : Sig := ⟨[.p (some 1000000000) jg [true, true, false, false, true, true, true, true, true, false, false, false, false], .v false [(.int .i64)] [false], .v false [(.sl 5 yu)] [false]], [], false, false, false⟩
def yrJ : Sig := ⟨[.p none jg [true, true, false, false, true, true, true, true, true, false, false, false, false]], [], false, false, false⟩
def yCY : Sig := ⟨[.v true jg (nf 13)], [⟨true, jg, [true, true, false, false, true, true, true, true, true, false, false, false, false]⟩], false, false, false⟩
def yrK : Sig := ⟨[.v false [(.int .i64)] [false], .v false [(.int .i64)] [false], .v false [(.int .i64)] [false]], [⟨false, [.bool], [false]⟩], false, false, false⟩
def yrL : Sig := ⟨[.v true y16 (nf 5)], [⟨false, [.bool], [false]⟩], false, false, false⟩
def yrM : Sig := ⟨[.v true y16 (nf 5), .v true y16 (nf 5)], [⟨false, [.bool], [false]⟩], false, false, false⟩
def yrN : Sig := ⟨[.v false [(.sl 106 yg)] [false]], [⟨false, [.bool], [false]⟩], false, false, false⟩
def yrO : Sig := ⟨[.v true [(.sl 100 yj)] [false]], [⟨false, [.bool], [false]⟩], false, false, false⟩
def yrP : Sig := ⟨[.v false [(.int .i64)] [false], .v false [(.int .i64)] [false]], [⟨false, [(.int .i64)], [false]⟩], false, false, false⟩
def yrQ : Sig := ⟨[.v true vi [false, false], .v false [(.int .i64)] [false]], [⟨false, [.bool], [false]⟩], false, false, false⟩
def yrR : Sig := ⟨[.v false [(.sl 106 yg)] [false]], [⟨false, [(.sl 106 yg)], [true]⟩], false, false, false⟩
def yrS : Sig := ⟨[.v true y16 (nf 5), .v true y16 (nf 5)], [⟨false, [.bool], [false]⟩], false, false, false⟩
def yrT : Sig := ⟨[.v false [(.sl 106 yg)] [false], .v true y16 (nf 5)], [⟨false, [(.sl 106 yg)], [true]⟩], false, false, false⟩
def yrU : Sig := ⟨[.v false [(.sl 106 yg)] [false], .v false [(.sl 106 yg)] [false]], [⟨false, [(.sl 106 yg)], [true]⟩], false, false, false⟩
def yrV : Sig := ⟨[.v false [(.sl 106 yg)] [false]], [⟨false, [(.sl 106 yg)], [true]⟩], false, false, false⟩
def yrW : Sig := ⟨[.v true [(.sl 100 yj)] [false]], [⟨false, [(.sl 106 yg)], [true]⟩], false, false, false⟩
def yrX : Sig := ⟨[.v true vi [false, false]], [⟨false, [.bool], [false]⟩], false, false, false⟩
def yrY : Sig := ⟨[.v true yeK [false, false], .p none [(.int .i64)] [false]], [⟨false, [.bool], [false]⟩], false, false, false⟩
def ycW : Sig := ⟨[.v false [(.sl 89 yB)] [false], .p (some 251) [(.int .i64)] [false]], [⟨false, [(.int .i64)], [false]⟩], false, false, false⟩
def yrZ : Sig := ⟨[.v false [(.sl 89 yB)] [false], .v false [(.int .i64)] [false]], [⟨false, [(.int .i64)], [false]⟩], false, false, false⟩
def ys0 : Sig := ⟨[.v false [(.sl 89 yB)] [false]], [⟨false, [.bool], [false]⟩], false, false, false⟩
def ys1 : Sig := ⟨[.v false [(.int .i64)] [false]], [⟨false, [.bool], [false]⟩], false, false, false⟩
def ys2 : Sig := ⟨[.v false [(.sl 95 yk)] [false]], [⟨false, [.bool], [false]⟩], false, false, false⟩
def ys3 : Sig := ⟨[.v false [.str] [false]], [⟨false, [.bool], [false]⟩], false, false, false⟩
def ys4 : Sig := ⟨[.v false [(.sl 89 yB)] [false], .v false [(.int .i64)] [false]], [⟨false, [(.sl 3 ye)], [true]⟩], false, false, false⟩
def ys5 : Sig := ⟨[.v true y4R (nf 4), .p none y4R (nf 4)], [⟨false, [.bool], [false]⟩], false, false, false⟩
def ycX : Sig := ⟨[.v false [(.sl 91 yK)] [false], .p (some 212) y4R (nf 4)], [⟨false, [(.int .i64)], [false]⟩], false, false, false⟩
def ycY : Sig := ⟨[.v false [(.sl 91 yK)] [false], .p (some 212) y4R (nf 4)], [⟨false, [.bool], [false]⟩], false, false, false⟩
def ys6 : Sig := ⟨[.v true wC (nf 6)], [⟨false, [.bool], [false]⟩], false, false, false⟩
def ys7 : Sig := ⟨[.v true vi [false, false]], [⟨false, [(.sl 106 yg)], [true]⟩], false, false, false⟩
def ys8 : Sig := ⟨[.v false [(.sl 95 yk)] [false], .v false [(.int .i64)] [false], .v false [(.int .i64)] [false]], [⟨false, [(.int .i64)], [false]⟩, ⟨false, [.bool], [false]⟩], false, false, false⟩
def ys9 : Sig := ⟨[.v false [(.sl 95 yk)] [false]], [⟨false, [(.int .i64)], [false]⟩], false, false, false⟩
def ysa : Sig := ⟨[.v true wC (nf 6)], [⟨false, [.bool], [false]⟩], false, false, false⟩
def yCZ : Sig := ⟨[.v true wC (nf 6)], [⟨false, [.bool], [false]⟩], false, false, false⟩
def ysb : Sig := ⟨[.v false [(.sl 32 yc)] [false]], [⟨false, [(.sl 5 yu)], [true]⟩], false, false, false⟩
def yD0 : Sig := ⟨[.v false [(.sl 5 yu)] [false], .v false [(.int .i64)] [false]], [⟨false, [(.sl 5 yu)], [true]⟩], false, false, false⟩
def yD1 : Sig := ⟨[.v false [(.sl 5 yu)] [false], .v false [.str] [false]], [⟨false, [(.sl 5 yu)], [true]⟩], false, false, false⟩
def yD2 : Sig := ⟨[.v false [.bool] [false]], [⟨false, [(.int .u8)], [false]⟩], false, false, false⟩
def yD3 : Sig := ⟨[.v false [(.sl 5 yu)] [false], .v true y16 (nf 5)], [⟨false, [(.sl 5 yu)], [true]⟩], false, false, false⟩
def yD4 : Sig := ⟨[.v true wC (nf 6)], [⟨false, [(.sl 5 yu)], [true]⟩], false, false, false⟩
def ysc : Sig := ⟨[.v true wk (nf 4)], [⟨true, wk, [true, true, false, false]⟩], false, true, false⟩
def ysd : Sig := ⟨[.v false [(.sl 3 ye)] [false]], [⟨false, [(.sl 3 ye)], [true]⟩], false, false, false⟩
def yse : Sig := ⟨[.v true [(.sl 100 yj)] [false]], [⟨true, [(.sl 100 yj)], [true]⟩], false, true, false⟩
def ysf : Sig := ⟨[.v true vi [false, false]], [⟨true, vi, [true, true]⟩], false, true, false⟩
def ysg : Sig := ⟨[.v false [(.sl 89 yB)] [false]], [⟨false, [(.sl 89 yB)], [true]⟩], false, false, false⟩
def ysh : Sig := ⟨[.v false [(.sl 95 yk)] [false]], [⟨false, [(.sl 95 yk)], [true]⟩], false, false, false⟩
def ysi : Sig := ⟨[.v true wC (nf 6)], [⟨true, wC, [true, true, true, true, true, false]⟩], false, true, false⟩
def ysj : Sig := ⟨[.v true jg (nf 13)], [⟨true, jg, [true, true, false, false, true, true, true, true, true, false, false, false, false]⟩], false, true, false⟩
def ysk : Sig := ⟨[.v true wk (nf 4)], [⟨false, [.bool], [false]⟩], false, false, false⟩
def ysl : Sig := ⟨[.v true wk [true, true, false, false]], [⟨true, wk, [true, true, false, false]⟩, ⟨false, [.bool], [false]⟩], false, true, false⟩
def ysm : Sig := ⟨[.v true wk (nf 4)], [⟨true, wk, [true, true, false, false]⟩], false, true, false⟩
def ysn : Sig := ⟨[.v true jg (nf 13), .v false [(.int .i64)] [false]], [⟨false, [.bool], [false]⟩], false, false, false⟩
def yso : Sig := ⟨[.v false [(.sl 5 yu)] [false]], [⟨false, [(.int .i64)], [false]⟩], false, false, false⟩
def ysp : Sig := ⟨[.v true wk (nf 4), .v false [(.int .i64)] [false], .v false [(.sl 5 yu)] [false]], [⟨true, wk, [true, true, false, false]⟩], false, true, false⟩
def ysq : Sig := ⟨[.v false [(.int .i64)] [false], .v false [(.int .i64)] [false]], [⟨false, [(.int .i64)], [false]⟩], false, false, false⟩
def ysr : Sig := ⟨[.v true wk (nf 4), .v false [(.int .i64)] [false], .v false [(.sl 5 yu)] [false]], [⟨true, wk, [true, true, false, false]⟩], false, true, false⟩
def yss : Sig := ⟨[.v true y16 (nf 5)], [⟨false, [.bool], [false]⟩], false, false, false⟩
def yst : Sig := ⟨[.v false [(.sl 5 yu)] [false], .v false [(.int .i64)] [false]], [⟨false, [(.sl 5 yu)], [true]⟩], false, false, false⟩
def ysu : Sig := ⟨[.v true y16 (nf 5)], [⟨false, [(.sl 5 yu)], [true]⟩], false, false, false⟩
def yD5 : Sig := ⟨[.v true jg (nf 13)], [⟨true, jg, [true, true, false, false, true, true, true, true, true, false, false, false, false]⟩], false, true, false⟩
def sg8 : Sig := ⟨[.v true yfz (nf 13)], [⟨false, [.bool], [false]⟩], false, false, false⟩
def yEo : List (Nat × Sig) := [(139, yqr), (303, yqs), (282, yqt), (253, yqu), (216, yqv), (140, yqw), (61, yC7), (141, yqx), (62, yC8), (142, yqy), (63, yC9), (143, yqz), (64, yCa), (15, yCb), (14, yCc), (79, yCd), (162, yqA), (80, yCe), (24, yCf), (32, yCg), (144, yqB), (254, yqC), (217, yqD), (145, yqE), (65, yCh), (66, yCi), (67, yCj), (146, yqF), (68, yCk), (16, yCl), (17, yCm), (81, yCn), (82, yCo), (25, yCp), (33, yCq), (168, yqG), (255, yqH), (222, yqI), (169, yqJ), (91, yCr), (92, yCs), (93, yCt), (94, yCu), (29, yCv), (18, yCw), (174, yqK), (175, yqL), (99, yCx), (34, yCy), (117, yqM), (275, yqN), (243, yqO), (194, yqP), (118, yqQ), (43, yCz), (44, yCA), (45, yCB), (119, yqR), (46, yCC), (10, yCD), (147, yqS), (69, yCE), (148, yqT), (70, yCF), (19, yCG), (35, yCH), (126, yqU), (301, yqV), (278, yqW), (245, yqX), (203, yqY), (127, yqZ), (52, yCI), (128, yr0), (53, yCJ), (129, yr1), (54, yCK), (130, yr2), (55, yCL), (12, yCM), (27, yCN), (74, yCO), (155, yr3), (75, yCP), (21, yCQ), (37, yCR), (227, yr4), (185, yr5), (186, yr6), (114, yr7), (176, yr8), (100, yr9), (107, yra), (235, yrb), (266, yrc), (267, yrd), (236, yre), (261, yrf), (230, yrg), (188, yrh), (264, yri), (237, yrj), (202, yrk), (300, yrl), (276, yrm), (277, yrn), (244, yro), (195, yrp), (120, yrq), (196, yrr), (121, yrs), (197, yrt), (122, yru), (198, yrv), (199, yrw), (123, yrx), (200, yry), (201, yrz), (124, yrA), (47, yCS), (153, yrB), (106, yrC), (48, yCT), (49, yCU), (50, yCV), (125, yrD), (51, yCW), (11, yCX), (150, yrE), (154, yrF), (152, yrG), (226, yrH), (183, yrI), (100001, ycS), (100000, ycT), (100003, ycU), (100002, ycV), (108, yrJ), (39, yCY), (134, yrK), (138, yrL), (279, yrM), (246, yrN), (204, yrO), (247, yrP), (205, yrQ), (280, yrR), (302, yrS), (281, yrT), (248, yrU), (249, yrV), (206, yrW), (131, yrX), (251, yrY), (100004, ycW), (207, yrZ), (132, ys0), (208, ys1), (133, ys2), (209, ys3), (210, ys4), (212, ys5), (100006, ycX), (100005, ycY), (135, ys6), (213, ys7), (214, ys8), (215, ys9), (136, ysa), (56, yCZ), (137, ysb), (57, yD0), (58, yD1), (59, yD2), (60, yD3), (13, yD4), (178, ysc), (256, ysd), (257, yse), (223, ysf), (224, ysg), (225, ysh), (179, ysi), (103, ysj), (160, ysk), (180, ysl), (105, ysm), (109, ysn), (110, yso), (112, ysp), (161, ysq), (111, ysr), (159, yss), (184, yst), (113, ysu), (40, yD5), (8, sg8)]
def ywG : List (Nat × (List Nat × List Nat)) := [
 (13900004, [0, 1, 5], [4]),
 (28200004, [0, 1, 5], [4]),
 (25300004, [0, 1, 5], [4]),
 (14000004, [0, 1, 5], [4]),
 (6200004, [0, 1, 5], [4]),
 (6300004, [0, 1, 5], [4]),
 (6400004, [0, 1, 5], [4]),
 (1400004, [0, 1, 5], [4]),
 (7900004, [0, 1, 5], [4]),
 (8000004, [0, 1, 5], [4]),
 (14400002, [0, 1, 5], [0, 1]),
 (25400002, [0, 1, 5], [0, 1]),
 (21700002, [0, 1, 5], [0, 1]),
 (14500002, [0, 1, 5], [0, 1]),
 (6600002, [0, 1, 5], [0, 1]),
 (6700002, [0, 1, 5], [0, 1]),
 (14600004, [0, 3], [3]),
 (6800002, [0, 1, 5], [0, 1]),
 (1700002, [0, 1, 5], [0, 1]),
 (8100002, [0, 1, 5], [0, 1]),
 (8200002, [0, 1, 5], [0, 1]),
 (16800002, [0, 1, 5], [1, 4]),
 (25500002, [0, 1, 5], [1, 4]),
 (22200002, [0, 1, 5], [1, 4]),
 (16900002, [0, 1, 5], [1, 4]),
 (9200002, [0, 1, 5], [1, 4]),
 (9300002, [0, 1, 5], [1, 4]),
 (9400002, [0, 1, 5], [1, 4]),
 (1800002, [0, 1, 5], [1, 4]),
 (17400002, [0, 1, 5], [1, 4]),
 (17500002, [0, 1, 5], [1, 4]),
 (24300005, [0, 1, 5], [1, 4]),
 (11800005, [0, 1, 5], [1, 4]),
 (4600005, [0, 1, 5], [1, 4]),
 (6900005, [0, 1, 5], [1, 4]),
 (7000005, [0, 1, 5], [1, 4]),
 (12600003, [0, 3, 4], [3]),
 (27800003, [0, 3, 4], [3]),
 (24500003, [0, 3, 4], [3]),
 (12700003, [0, 3, 4], [3]),
 (5300003, [0, 3, 4], [3]),
 (5400003, [0, 3, 4], [3]),
 (5500003, [0, 3, 4], [3]),
 (2700003, [0, 3, 4], [3]),
 (7400003, [0, 3, 4], [3]),
 (7500003, [0, 3, 4], [3]),
 (22700003, [1, 2, 3, 4], [2, 3]),
 (18500003, [1, 2, 3, 4], [2, 3]),
 (17600003, [1, 2, 3, 4], [1, 2, 3]),
 (17600007, [1, 2, 3, 5], [2, 3]),
 (23500003, [0, 3, 4], [3]),
 (23600004, [0, 3, 5, 6, 7, 18, 19, 20, 21, 22, 23, 24], [3, 5, 6]),
 (26100003, [1, 5, 6], [5]),
 (23000003, [1, 3, 4], [3]),
 (18800003, [1, 3, 4], [3]),
 (30000002, [0, 3], [2]),
 (27600002, [0, 3, 19, 20, 21], [0, 2, 19, 20, 21]),
 (27700003, [1, 3, 4], [3]),
 (24400002, [1, 3, 19, 20, 21, 22, 23, 24, 25, 32, 33, 34], [1, 2, 32, 33, 34]),
 (19500005, [1, 2, 5, 6, 61, 62, 63, 64, 65, 66, 67, 68, 69, 70, 71, 72, 73, 74, 75, 76], [4]),
 (19500008, [1, 2, 5, 6, 7, 61, 62, 63, 64, 65, 66, 67, 68, 69, 70, 71, 72, 73, 74, 75, 76], [1, 2, 4, 5, 6, 61, 62, 63, 64, 65, 66, 67, 68, 69, 70, 71, 72, 73, 74, 75, 76]),
 (12000004, [1, 3, 35, 36, 37, 38, 39, 40, 41, 42, 43, 44, 45, 46, 49, 50, 51, 52], [1, 2]),
 (19600002, [0, 1, 5], [4]),
 (12100002, [0, 3, 18, 19, 20, 21, 22, 23, 24, 25, 26, 27, 28, 29, 30, 31, 32, 33, 42, 43, 44, 45, 46, 47, 48, 49, 50, 51], [0, 2]),
 (12200002, [0, 3, 18, 19, 20, 21, 22, 23, 24, 27, 28, 29, 30, 31, 32, 33, 34, 35, 36, 37, 38, 39, 40], [0, 2]),
 (19800002, [0, 3, 17, 18, 19, 20, 21, 22], [0, 2]),
 (19900003, [0, 1, 5, 6, 22, 23], [5]),
 (12300002, [1, 3, 23, 24, 25, 26, 29, 30, 31, 32, 33, 34, 37, 38, 39, 40, 41, 42, 43, 46, 47, 48, 49, 50, 51, 52, 53, 54, 55, 56, 57, 58, 59], [1, 2]),
 (12300008, [1, 3, 4, 5, 23, 24, 25, 26, 29, 30, 31, 32, 33, 34, 37, 38, 39, 40, 41, 42, 43, 46, 47, 48, 49, 50, 51, 52, 53, 54, 55, 56, 57, 58, 59], [1, 2, 3, 23, 24, 25, 26, 29, 30, 31, 32, 33, 34, 37, 38, 39, 40, 41, 42, 43, 46, 47, 48, 49, 50, 51, 52, 53, 54, 55, 56, 57, 58, 59]),
 (20100003, [0, 3, 4], [3]),
 (12400004, [1, 3, 4, 5, 65, 66, 67, 68, 69, 70, 71, 72, 73, 74, 75], [1, 2, 4]),
 (12400014, [1, 3, 4, 5, 8, 65, 66, 67, 68, 69, 70, 71, 72, 73, 74, 75], [1, 2, 3, 4, 5, 65, 66, 67, 68, 69, 70, 71, 72, 73, 74, 75]),
 (4700002, [1, 3, 24, 25, 26, 29, 30, 31, 34, 35, 36, 39, 40, 43, 44], [1, 2, 24, 25, 26, 29, 30, 31, 34, 35, 36, 39, 40, 43, 44]),
 (15300002, [1, 3, 39, 40, 41, 42, 43, 44, 45, 46, 53, 54, 55, 56, 59, 60, 61], [1, 2, 39, 40, 41, 42, 43, 44, 45, 46, 53, 54, 55, 56, 59, 60, 61]),
 (15300007, [1, 4, 39, 40, 41, 42, 43, 44, 45, 46, 53, 54, 55, 56, 59, 60, 61], [1, 2, 53, 54, 55, 56, 59, 60, 61]),
 (5100003, [0, 1, 5], [0]),
 (1100006, [1, 3, 4], [1, 3]),
 (1100011, [1, 3, 5], [1, 3]),
 (1100016, [1, 3, 7], [1, 3]),
 (1100021, [1, 3, 8], [3]),
 (1100025, [1, 3, 8, 9], [1, 3, 8]),
 (15000003, [0, 3, 4], [3]),
 (15000007, [0, 3, 4, 5], [0, 3, 4]),
 (10000000002, [0, 2], [0]),
 (10000200001, [0, 1, 2, 6], [0]),
 (24600002, [0, 5, 6, 7, 16, 17, 18, 19, 20, 21, 22, 23, 24, 25, 26, 27], [0, 2]),
 (20400003, [1, 3, 7, 8, 9, 17, 18, 19, 31, 32], [1, 2, 3, 31, 32]),
 (20500002, [1, 2, 15, 16, 17, 40, 41, 42, 43, 44, 45, 46, 47, 48, 49, 50, 51, 52, 53, 54, 55], [4]),
 (20500005, [1, 2, 15, 16, 17, 21, 22, 23, 40, 41, 42, 43, 44, 45, 46, 47, 48, 49, 50, 51, 52, 53, 54, 55], [1, 2, 4, 15, 16, 17, 40, 41, 42, 43, 44, 45, 46, 47, 48, 49, 50, 51, 52, 53, 54, 55]),
 (28100004, [3, 5, 6, 10, 11, 12, 19, 20, 21, 22], [3, 5, 6]),
 (24800003, [5, 10, 11, 12], [5]),
 (24900003, [3, 7, 8, 9], [3]),
 (20600003, [3, 8, 9, 10], [3]),
 (13100005, [1, 3, 29, 30, 31, 39, 40, 41, 42, 43, 44, 45, 46, 47, 48, 49, 50, 53, 54, 55, 58, 59, 60, 61, 69, 70], [2, 3]),
 (10000400002, [0, 1, 7, 8], [1, 4]),
 (13200002, [0, 5, 6, 7, 17, 18, 19, 20, 21, 22, 23, 24, 25, 26, 27, 28, 29, 32, 33, 34, 35, 36, 37, 38, 39, 40, 41, 42, 43], [0, 2]),
 (13300002, [0, 5, 6, 7, 16, 17, 18, 19, 22, 23, 24, 25, 26, 27, 28, 29], [0, 2]),
 (20900002, [0, 3, 17, 18, 19, 20, 21, 22], [0, 2]),
 (21000005, [1, 5, 12, 13, 14], [5]),
 (10000600002, [0, 1, 7, 8], [1, 4]),
 (13500002, [1, 6, 7, 8, 18, 19, 20, 21, 22, 23, 24, 25, 26, 27, 28, 29, 30, 31, 34, 35, 36, 37, 46, 47, 48, 49, 50, 51, 52], [1, 2]),
 (21300003, [3, 8, 9, 10], [3]),
 (21500003, [3, 6, 7, 8], [3]),
 (13600004, [1, 3, 4, 12, 13, 14, 40, 41, 42, 43, 44], [1, 2, 4]),
 (5600004, [1, 28, 29, 30, 43, 44], [1, 2, 43, 44]),
 (13700003, [3, 7, 8, 9], [3]),
 (1300005, [1, 3, 29, 30, 31], [1, 3]),
 (1300011, [1, 3, 53, 54, 55], [1, 3]),
 (1300016, [1, 3, 76, 77, 78], [1, 3]),
 (1300022, [1, 3, 105, 106, 107], [3]),
 (1300026, [1, 3, 105, 106, 107, 127, 128, 129], [1, 3, 105, 106, 107]),
 (1300030, [1, 3, 105, 106, 107, 127, 128, 129, 139, 140, 141], [1, 3, 105, 106, 107, 127, 128, 129]),
 (17800003, [1, 2, 3, 14, 15, 16], [1, 2, 3]),
 (17800008, [2, 3, 30, 31, 32], [2, 3]),
 (25700003, [2, 3, 8, 9, 10], [2, 3]),
 (22300003, [2, 3, 11, 12, 13], [2, 3]),
 (16000004, [1, 25, 26, 27, 51, 52, 53, 54], [1, 2, 51, 52, 53, 54]),
 (16000010, [1, 36, 37, 38, 51, 52, 53, 54], [2]),
 (10500008, [2, 3, 26, 27, 28], [2, 3]),
 (11000003, [3, 7, 8, 9], [3]),
 (11000007, [3, 7, 8, 9, 17], [3, 7, 8, 9]),
 (11100005, [1, 2, 6, 7, 8], [6, 7])]
def yD6 : List (Nat × List Nat × Nat) := [(102, [2001300000], 100000), (177, [2001300000], 100001), (181, [2001300000], 100002), (182, [2001300000], 100003), (250, [251], 100004), (211, [212], 100005), (252, [212], 100006)]
def ywH : List (Nat × List Nat) := [(245, [100007]), (127, [100007]), (74, [100007]), (75, [100007]), (227, [22]), (185, [25]), (176, [27, 54]), (100003, [49]), (178, [100025, 100026, 100045, 100046]), (257, [100018, 100019]), (223, [100021, 100022]), (105, [100031]), (112, [100052, 100053]), (40, [1000063000000003])]
def C : Ctx := { info := yaJ yqq, sig := yaJ yEo, live := fun f i => yaJ ywG (100000 * f + i), key := ynM yD6, fid := ynN yD6, hint := yjf ywH }
theorem tok : TOk C Tryz.prog := yo2 (l := yqq) rfl (by kernel_rfl)
theorem ywI : Tryz.prog.follows .mixedOrders = true := by kernel_rfl
abbrev QF := Qf C Tryz.prog
abbrev EV (l : List QF) (lp : Lp) (n : Nat) (fn : Func) (sg : Sig) (ins outs : List Ty) (F : yz ins → Option (yz outs)) : Prop := ∀ x, yhb C (ylf l) lp n fn (qD fn) sg ins outs x = F x
abbrev LF (l : List QF) (lp : Lp) (n i : Nat) (fn : Func) (k : Nat) {T V : Type} (e : T → St) (g : Gk T) (inj : V → T) : Prop := LC C (ylf l) lp n i (cL fn k) e g inj
abbrev LK (l : List QF) (lp : Lp) (n : Nat) (fn : Func) (k : Nat) : Prop := y36 C (ylf l) lp n (cL fn k)
theorem okN {l : List QF} {lp : Lp} {f g : Nat} {fn : Func} {sg : Sig} {n : Nat} (hfn : Tryz.prog.funcs[g]? = some fn) (hl : yo1 (y36 C (ylf l) lp f) (Zt (qD fn)) n 0) {F : yz (C.ins f) → Option (yz (C.outs f))} (hF : ∀ x, yhb C (ylf l) lp f fn (qD fn) sg (C.ins f) (C.outs f) x = F x) (hsig : C.sig f = some sg := by kernel_rfl) (hB : fnB C f g fn sg n = true := by kernel_rfl) : J7 C Tryz.prog f F := ywc tok ywI hfn hsig hB hl hF
theorem lkN {call : C.Sem} {lp : Lp} {f i : Nat} {c : Code} {T : Type} {e : T → St} {u : St → Option T} {g : Gk T} (hu : ∀ s t, u s = some t → e t = s) (hc : LC C call lp f i c e @g (fun t => t)) (hl : laB C f i c = true := by kernel_rfl) (hb : LB lp i u @g := by intro R κ s; kernel_rfl) : y36 C call lp f c := yhH hl hu hb hc
end Go.Proofs.YtmapoakbdgpamaaGreat.XQ
