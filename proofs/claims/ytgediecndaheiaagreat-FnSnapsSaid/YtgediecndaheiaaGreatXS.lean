/- The context of the evaluator for S: types, signatures, slots that live at loops; by a program (dec.py). No condition. -/
import Derived.Test.YtgediecndaheiaaGreatProg
import Derived.Test.YtgediecndaheiaaGreatRRow
import Derived.KernelRfl
set_option linter.all false
namespace Go.Proofs.YtgediecndaheiaaGreat.XS
open Go.Proofs.YtgediecndaheiaaGreat.R
set_option maxRecDepth 100000
abbrev kw : List Ty := [(.int .u8)]
abbrev y4U : Type := Int
abbrev ygk (xs : List y4U) (i : Int) : y4U := rdE kw xs i
def ylJ (x : List y4U) : A := .val (.sl 5 kw) x
abbrev yf : List Ty := [(.int .i64)]
abbrev yd : Type := Int
abbrev y2f : yd := Vz yf
abbrev zw (xs : List yd) (i : Int) : yd := rdE yf xs i
def zj (x : List yd) : A := .val (.sl 3 yf) x
abbrev yh : List Ty := [(.int .i64), (.int .i64), (.int .i64), (.int .i64), (.int .i64)]
abbrev y7 : Type := Int × Int × Int × Int × Int
abbrev yL : y7 := Vz yh
abbrev y6 (xs : List y7) (i : Int) : y7 := rdE yh xs i
def qI (x : List y7) : A := .val (.sl 81 yh) x
abbrev yr : List Ty := [(.sl 81 yh)]
abbrev yb : Type := List y7
abbrev yW : yb := Vz yr
abbrev ym (xs : List yb) (i : Int) : yb := rdE yr xs i
def YA (x : List yb) : A := .val (.sl 53 yr) x
abbrev yk : List Ty := [(.sl 53 yr)]
abbrev y0 : Type := List yb
abbrev yi : y0 := Vz yk
abbrev ye (xs : List y0) (i : Int) : y0 := rdE yk xs i
def yJ (x : List y0) : A := .val (.sl 84 yk) x
abbrev yl : List Ty := [(.int .i64), (.int .i64)]
abbrev y9 : Type := Int × Int
abbrev zc : y9 := Vz yl
abbrev yM (xs : List y9) (i : Int) : y9 := rdE yl xs i
def zz (x : List y9) : A := .val (.sl 91 yl) x
abbrev yg : List Ty := [(.int .i64), .bool, (.int .i64)]
abbrev y8 : Type := Int × Bool × Int
abbrev yS : y8 := Vz yg
abbrev yo (xs : List y8) (i : Int) : y8 := rdE yg xs i
def z7 (x : List y8) : A := .val (.sl 79 yg) x
abbrev yK : List Ty := [.str, (.int .i64), (.int .i64), .bool]
abbrev yc : Type := ByteArray × Int × Int × Bool
abbrev yp : yc := Vz yK
abbrev ya (xs : List yc) (i : Int) : yc := rdE yK xs i
def Yh (x : List yc) : A := .val (.sl 40 yK) x
abbrev Wp : List Ty := [.str, .bool, (.sl 3 yf)]
abbrev v9 : Type := ByteArray × Bool × List yd
abbrev yjq : v9 := Vz Wp
abbrev y1B (xs : List v9) (i : Int) : v9 := rdE Wp xs i
def ysC (x : List v9) : A := .val (.sl 51 Wp) x
abbrev Qu : List Ty := [.str]
abbrev y0o : Type := ByteArray
abbrev ybF : y0o := Vz Qu
abbrev yej (xs : List y0o) (i : Int) : y0o := rdE Qu xs i
abbrev y48 : List Ty := [.bool]
abbrev ybG : Type := Bool
abbrev yek : ybG := Vz y48
abbrev yel (xs : List ybG) (i : Int) : ybG := rdE y48 xs i
abbrev Qz0 : Type := List y4U × Int × Int
abbrev qz0 : List Ty := [(.sl 5 kw), (.int .i64), (.int .i64)]
abbrev Qz1 : Type := List y4U × Int
abbrev qz1 : List Ty := [(.sl 5 kw), (.int .i64)]
abbrev Qz2 : Type := Int × List y4U × Int × Int
abbrev qz2 : List Ty := [(.int .i64), (.sl 5 kw), (.int .i64), (.int .i64)]
abbrev Qz3 : Type := List y4U × Int × Int × Int
abbrev qz3 : List Ty := [(.sl 5 kw), (.int .i64), (.int .i64), (.int .i64)]
abbrev Qz4 : Type := List y4U × Int × Int × List yd
abbrev qz4 : List Ty := [(.sl 5 kw), (.int .i64), (.int .i64), (.sl 3 yf)]
abbrev Qz5 : Type := List y4U × Int × Int × List y0o
abbrev qz5 : List Ty := [(.sl 5 kw), (.int .i64), (.int .i64), (.sl 9 Qu)]
abbrev Qz6 : Type := ByteArray × List y4U × Int × Int
abbrev qz6 : List Ty := [.str, (.sl 5 kw), (.int .i64), (.int .i64)]
abbrev Qz7 : Type := Int × ByteArray × ByteArray × Int × Int × List y4U × Int × Int
abbrev qz7 : List Ty := [(.int .i64), .str, .str, (.int .i64), (.int .i64), (.sl 5 kw), (.int .i64), (.int .i64)]
abbrev Qz8 : Type := List yd × List y0
abbrev qz8 : List Ty := [(.sl 3 yf), (.sl 84 yk)]
abbrev Qz9 : Type := List yd × List y0 × List y9 × List y8 × List yc × Int
abbrev qz9 : List Ty := [(.sl 3 yf), (.sl 84 yk), (.sl 91 yl), (.sl 79 yg), (.sl 40 yK), (.int .i64)]
abbrev ysD : Type := Int × Int × Int
abbrev ysE : List Ty := [(.int .i64), (.int .i64), (.int .i64)]
abbrev yrV : Type := ByteArray × Int
abbrev yrW : List Ty := [.str, (.int .i64)]
abbrev yxr : Type := ByteArray × Bool
abbrev yxs : Type := Int × ByteArray × ByteArray × Int × Int
abbrev yi3 : List Ty := [(.int .i64), .str, .str, (.int .i64), (.int .i64)]
abbrev yfz : Type := Int × Int × Int × Int × Int
abbrev VR : List Ty := [(.int .i64), (.int .i64), (.int .i64), (.int .i64), (.int .i64)]
abbrev yrX : Type := Int × Int × Int × Int × Int × Int × Int × Int × Int × Int
abbrev yrY : List Ty := [(.int .i64), (.int .i64), (.int .i64), (.int .i64), (.int .i64), (.int .i64), (.int .i64), (.int .i64), (.int .i64), (.int .i64)]
abbrev yrZ : Type := List y7 × Int
abbrev ys0 : List Ty := [(.sl 81 yh), (.int .i64)]
abbrev yxt : Type := List y7 × Bool
abbrev yxu : Type := Int × Int × List yb
abbrev yxv : List Ty := [(.int .i64), (.int .i64), (.sl 53 yr)]
abbrev yi4 : Type := Int × List yb
abbrev ys1 : List Ty := [(.int .i64), (.sl 53 yr)]
abbrev yAn : Type := Bool × List yb
abbrev ys2 : Type := List y7 × Int × List y7
abbrev ys3 : List Ty := [(.sl 81 yh), (.int .i64), (.sl 81 yh)]
abbrev yxw : Type := List y7 × Bool × Int × Int × Int × Int × Int × Int × List y7
abbrev yxx : List Ty := [(.sl 81 yh), .bool, (.int .i64), (.int .i64), (.int .i64), (.int .i64), (.int .i64), (.int .i64), (.sl 81 yh)]
abbrev yxy : Type := Bool × Int × Int × Int × Int × Int × List y7
abbrev yxz : Type := List y7 × Int × Int × Int × Int × Int
abbrev yxA : List Ty := [(.sl 81 yh), (.int .i64), (.int .i64), (.int .i64), (.int .i64), (.int .i64)]
abbrev ysF : Type := List y7 × List y7
abbrev ysG : List Ty := [(.sl 81 yh), (.sl 81 yh)]
abbrev yxB : Type := Int × List yb × List y7
abbrev yxC : List Ty := [(.int .i64), (.sl 53 yr), (.sl 81 yh)]
abbrev yi5 : Type := Int × Int
abbrev yjr : List Ty := [(.int .i64), (.int .i64)]
abbrev yxD : Type := Int × Int × Int × List yd × List y0 × List yb
abbrev yxE : List Ty := [(.int .i64), (.int .i64), (.int .i64), (.sl 3 yf), (.sl 84 yk), (.sl 53 yr)]
abbrev yAo : Type := Int × Bool × Int × List yd × List y0 × List yb
abbrev ysH : Type := Int × Int × List yd × List y0 × List yb
abbrev yxF : List Ty := [(.int .i64), (.int .i64), (.sl 3 yf), (.sl 84 yk), (.sl 53 yr)]
abbrev ym9 : Type := List yd × List y0 × Int
abbrev yma : List Ty := [(.sl 3 yf), (.sl 84 yk), (.int .i64)]
abbrev yxG : Type := Int × List yd × List y0 × List y7
abbrev yxH : List Ty := [(.int .i64), (.sl 3 yf), (.sl 84 yk), (.sl 81 yh)]
abbrev y9z : Type := Int × List yd × List y0
abbrev yfA : List Ty := [(.int .i64), (.sl 3 yf), (.sl 84 yk)]
abbrev yAp : Type := Bool × List yd × List y0
abbrev ys4 : Type := List y9 × Int × Int
abbrev ys5 : List Ty := [(.sl 91 yl), (.int .i64), (.int .i64)]
abbrev yfB : Type := List y9 × Int
abbrev yfC : List Ty := [(.sl 91 yl), (.int .i64)]
abbrev ymb : Type := List y9 × Bool
abbrev ysI : List Ty := [(.sl 91 yl), .bool]
abbrev ylK : Type := List y8 × Int
abbrev ylL : List Ty := [(.sl 79 yg), (.int .i64)]
abbrev yxI : Type := List y8 × Bool
abbrev yxJ : Type := List y9 × Int × Int × List yd
abbrev yxK : List Ty := [(.sl 91 yl), (.int .i64), (.int .i64), (.sl 3 yf)]
abbrev yxL : Type := Int × Int × List yd × List y0 × List y9 × List y8 × List yc × Int × ByteArray × Int × Int × Bool
abbrev yxM : List Ty := [(.int .i64), (.int .i64), (.sl 3 yf), (.sl 84 yk), (.sl 91 yl), (.sl 79 yg), (.sl 40 yK), (.int .i64), .str, (.int .i64), (.int .i64), .bool]
abbrev ysJ : Type := Bool × Int × List yd × List y0 × List y9 × List y8 × List yc × Int
abbrev yfD : Type := Int × List yd × List y0 × List y9 × List y8 × List yc × Int
abbrev ylM : List Ty := [(.int .i64), (.sl 3 yf), (.sl 84 yk), (.sl 91 yl), (.sl 79 yg), (.sl 40 yK), (.int .i64)]
abbrev yi6 : Type := Bool × List yd × List y0 × List y9 × List y8 × List yc × Int
abbrev ys6 : List Ty := [.bool, (.sl 3 yf), (.sl 84 yk), (.sl 91 yl), (.sl 79 yg), (.sl 40 yK), (.int .i64)]
abbrev ylN : Type := List y8 × Int × Int
abbrev ylO : List Ty := [(.sl 79 yg), (.int .i64), (.int .i64)]
abbrev yxN : Type := Int × Bool
abbrev yxO : List Ty := [(.int .i64), .bool]
abbrev ysK : Type := Int × Int × Int × List yd × List y0 × List y9 × List y8 × List yc × Int × List y7
abbrev yxP : List Ty := [(.int .i64), (.int .i64), (.int .i64), (.sl 3 yf), (.sl 84 yk), (.sl 91 yl), (.sl 79 yg), (.sl 40 yK), (.int .i64), (.sl 81 yh)]
abbrev yAq : Type := Bool × Int × Int × List yd × List y0 × List y9 × List y8 × List yc × Int × List y7
abbrev yjs : Type := Int × Int × List yd × List y0 × List y9 × List y8 × List yc × Int × List y7
abbrev ylP : List Ty := [(.int .i64), (.int .i64), (.sl 3 yf), (.sl 84 yk), (.sl 91 yl), (.sl 79 yg), (.sl 40 yK), (.int .i64), (.sl 81 yh)]
abbrev yjt : Type := Int × List yb × List yb
abbrev ys7 : List Ty := [(.int .i64), (.sl 53 yr), (.sl 53 yr)]
abbrev ymc : Type := Int × List yd × List y0 × List yd
abbrev yxQ : List Ty := [(.int .i64), (.sl 3 yf), (.sl 84 yk), (.sl 3 yf)]
abbrev yju : Type := Int × List yd × List y0 × List yd × List y0
abbrev ys8 : List Ty := [(.int .i64), (.sl 3 yf), (.sl 84 yk), (.sl 3 yf), (.sl 84 yk)]
abbrev ymd : Type := List yd × List y0 × List y9 × List y8 × List yc × Int × ByteArray
abbrev yme : List Ty := [(.sl 3 yf), (.sl 84 yk), (.sl 91 yl), (.sl 79 yg), (.sl 40 yK), (.int .i64), .str]
abbrev yxR : Type := ByteArray × Int × List yd × List y0 × List y9 × List y8 × List yc × Int
abbrev yxS : List Ty := [.str, (.int .i64), (.sl 3 yf), (.sl 84 yk), (.sl 91 yl), (.sl 79 yg), (.sl 40 yK), (.int .i64)]
abbrev yxT : Type := List y9 × Int × Int × Bool × Int × List y9
abbrev yxU : List Ty := [(.sl 91 yl), (.int .i64), (.int .i64), .bool, (.int .i64), (.sl 91 yl)]
abbrev yAr : Type := List y9 × Int × Int × Bool × List y9
abbrev ysL : Type := Int × ByteArray × Int × Int × Bool × List yc
abbrev yxV : List Ty := [(.int .i64), .str, (.int .i64), (.int .i64), .bool, (.sl 40 yK)]
abbrev ys9 : Type := List yc × ByteArray × Int × Int × Bool
abbrev ysa : List Ty := [(.sl 40 yK), .str, (.int .i64), (.int .i64), .bool]
abbrev yxW : Type := List yd × List y0 × List y9 × List y8 × List yc × Int × List yd × List y0 × List y9 × List y8 × List yc × Int × Bool
abbrev yxX : List Ty := [(.sl 3 yf), (.sl 84 yk), (.sl 91 yl), (.sl 79 yg), (.sl 40 yK), (.int .i64), (.sl 3 yf), (.sl 84 yk), (.sl 91 yl), (.sl 79 yg), (.sl 40 yK), (.int .i64), .bool]
abbrev y8H : Type := List yd × List y0 × List y9 × List y8 × List yc × Int × Int
abbrev y8I : List Ty := [(.sl 3 yf), (.sl 84 yk), (.sl 91 yl), (.sl 79 yg), (.sl 40 yK), (.int .i64), (.int .i64)]
abbrev ymf : Type := List yd × List y0 × List y9 × List y8 × List yc × Int × ByteArray × Int
abbrev ymg : List Ty := [(.sl 3 yf), (.sl 84 yk), (.sl 91 yl), (.sl 79 yg), (.sl 40 yK), (.int .i64), .str, (.int .i64)]
abbrev yxY : Type := List yd × List y0 × List y9 × List y8 × List yc × Int × ByteArray × ByteArray × Bool
abbrev yxZ : List Ty := [(.sl 3 yf), (.sl 84 yk), (.sl 91 yl), (.sl 79 yg), (.sl 40 yK), (.int .i64), .str, .str, .bool]
abbrev yy0 : Type := List y8 × Int × Int × List y8
abbrev yy1 : List Ty := [(.sl 79 yg), (.int .i64), (.int .i64), (.sl 79 yg)]
abbrev yAs : Type := Int × Bool × List y8
abbrev yy2 : Type := List y8 × Int × Bool
abbrev yy3 : List Ty := [(.sl 79 yg), (.int .i64), .bool]
abbrev yy4 : Type := Int × Int × Int × Int × List yd × List y0
abbrev yy5 : List Ty := [(.int .i64), (.int .i64), (.int .i64), (.int .i64), (.sl 3 yf), (.sl 84 yk)]
abbrev ysb : Type := List yd × List y0 × Int × Int
abbrev ysc : List Ty := [(.sl 3 yf), (.sl 84 yk), (.int .i64), (.int .i64)]
abbrev yy6 : Type := List y7 × Int × Int × Int × Int × Int × Int × Int × Int
abbrev yy7 : List Ty := [(.sl 81 yh), (.int .i64), (.int .i64), (.int .i64), (.int .i64), (.int .i64), (.int .i64), (.int .i64), (.int .i64)]
abbrev ysd : Type := Bool × Int × Int × Int × Int × Int
abbrev yy8 : Type := List y7 × Int × Int
abbrev yy9 : List Ty := [(.sl 81 yh), (.int .i64), (.int .i64)]
abbrev yem : Type := Int × Int × Int × Int × Int × Bool
abbrev yen : List Ty := [(.int .i64), (.int .i64), (.int .i64), (.int .i64), (.int .i64), .bool]
abbrev yse : Type := Int × Int × Int × List yb × Int × Int × Int × Int × Int
abbrev ysf : List Ty := [(.int .i64), (.int .i64), (.int .i64), (.sl 53 yr), (.int .i64), (.int .i64), (.int .i64), (.int .i64), (.int .i64)]
abbrev yjv : Type := List yb × Int × Int
abbrev ysg : List Ty := [(.sl 53 yr), (.int .i64), (.int .i64)]
abbrev ysM : Type := List yb × Int × Int × Int × Int × Int
abbrev ysN : List Ty := [(.sl 53 yr), (.int .i64), (.int .i64), (.int .i64), (.int .i64), (.int .i64)]
abbrev yya : Type := List yb × Bool
abbrev yyb : List Ty := [(.sl 53 yr), .bool]
abbrev yAt : Type := List yd × List y0 × Int × List yd × List y0
abbrev yAu : List Ty := [(.sl 3 yf), (.sl 84 yk), (.int .i64), (.sl 3 yf), (.sl 84 yk)]
abbrev yyc : Type := List yd × List y0 × Int × Int × Int × Int × Int
abbrev yyd : List Ty := [(.sl 3 yf), (.sl 84 yk), (.int .i64), (.int .i64), (.int .i64), (.int .i64), (.int .i64)]
abbrev yye : Type := List yd × List y0 × Bool
abbrev yyf : List Ty := [(.sl 3 yf), (.sl 84 yk), .bool]
abbrev yAv : Type := List yd × List y0 × List y9 × List y8 × List yc × Int × Int × Int × Int × Int × Int × Bool
abbrev yAw : List Ty := [(.sl 3 yf), (.sl 84 yk), (.sl 91 yl), (.sl 79 yg), (.sl 40 yK), (.int .i64), (.int .i64), (.int .i64), (.int .i64), (.int .i64), (.int .i64), .bool]
abbrev ymh : Type := List yd × List y0 × List y9 × List y8 × List yc × Int × Int × Int × Int × Int × Int
abbrev ymi : List Ty := [(.sl 3 yf), (.sl 84 yk), (.sl 91 yl), (.sl 79 yg), (.sl 40 yK), (.int .i64), (.int .i64), (.int .i64), (.int .i64), (.int .i64), (.int .i64)]
abbrev yyg : Type := List yd × List y0 × List y9 × List y8 × List yc × Int × ByteArray × Int × Int
abbrev yyh : List Ty := [(.sl 3 yf), (.sl 84 yk), (.sl 91 yl), (.sl 79 yg), (.sl 40 yK), (.int .i64), .str, (.int .i64), (.int .i64)]
abbrev yyi : Type := List y9 × Int × List yd
abbrev yyj : List Ty := [(.sl 91 yl), (.int .i64), (.sl 3 yf)]
abbrev yyk : Type := Int × Int × List y7 × List y7
abbrev yyl : List Ty := [(.int .i64), (.int .i64), (.sl 81 yh), (.sl 81 yh)]
abbrev yym : Type := List yd × Int × Int
abbrev yyn : List Ty := [(.sl 3 yf), (.int .i64), (.int .i64)]
abbrev ysO : Type := List yd × Int
abbrev ysP : List Ty := [(.sl 3 yf), (.int .i64)]
abbrev yyo : Type := List yd × Bool × Int × Int × Int × Int × Int × Int × Int × Int × Int × Int × Int × List y7
abbrev yyp : List Ty := [(.sl 3 yf), .bool, (.int .i64), (.int .i64), (.int .i64), (.int .i64), (.int .i64), (.int .i64), (.int .i64), (.int .i64), (.int .i64), (.int .i64), (.int .i64), (.sl 81 yh)]
abbrev yyq : Type := Bool × Int × Int × Int × Int × Int × Int × Int × Int × Int × Int
abbrev yyr : Type := List yd × List y0 × Int × List yd
abbrev yys : List Ty := [(.sl 3 yf), (.sl 84 yk), (.int .i64), (.sl 3 yf)]
abbrev ysQ : Type := List yd × List y0 × List y9 × Int × Int
abbrev ysR : List Ty := [(.sl 3 yf), (.sl 84 yk), (.sl 91 yl), (.int .i64), (.int .i64)]
abbrev yyt : Type := List yd × List y0 × List y9 × List y8 × List yc × Int × Int × Int
abbrev yyu : List Ty := [(.sl 3 yf), (.sl 84 yk), (.sl 91 yl), (.sl 79 yg), (.sl 40 yK), (.int .i64), (.int .i64), (.int .i64)]
abbrev ymj : Type := Int × Int × Bool × Int × List yd × List y0 × List y9 × List y8 × List yc × Int × Int × Int × List yd × List y0 × List y9 × List y8 × List yc
abbrev yyv : List Ty := [(.int .i64), (.int .i64), .bool, (.int .i64), (.sl 3 yf), (.sl 84 yk), (.sl 91 yl), (.sl 79 yg), (.sl 40 yK), (.int .i64), (.int .i64), (.int .i64), (.sl 3 yf), (.sl 84 yk), (.sl 91 yl), (.sl 79 yg), (.sl 40 yK)]
abbrev ymk : Type := Int × Int × Bool × Int × List yd × List y0 × List y9 × List y8 × List yc × Int × Int × List yd × List y0 × List y9 × Int × List y8 × List yc
abbrev yyw : List Ty := [(.int .i64), (.int .i64), .bool, (.int .i64), (.sl 3 yf), (.sl 84 yk), (.sl 91 yl), (.sl 79 yg), (.sl 40 yK), (.int .i64), (.int .i64), (.sl 3 yf), (.sl 84 yk), (.sl 91 yl), (.int .i64), (.sl 79 yg), (.sl 40 yK)]
abbrev yAx : Type := Int × Int × Bool × List yd × List y0 × List y9 × List y8 × List yc × Int × Int × Int × List yd × List y0 × List y9 × List y8 × List yc
abbrev yAy : Type := Int × Int × Bool × List yd × List y0 × List y9 × List y8 × List yc × Int × Int × List yd × List y0 × List y9 × Int × List y8 × List yc
abbrev yAz : Type := List yd × List y0 × List y9 × Int × Int × Int × Int × Int × Int
abbrev yAA : List Ty := [(.sl 3 yf), (.sl 84 yk), (.sl 91 yl), (.int .i64), (.int .i64), (.int .i64), (.int .i64), (.int .i64), (.int .i64)]
abbrev yyx : Type := Int × List yd × List y0 × List y9 × List y8 × List yc × Int × Int × Int × Int × Int × Int
abbrev yyy : List Ty := [(.int .i64), (.sl 3 yf), (.sl 84 yk), (.sl 91 yl), (.sl 79 yg), (.sl 40 yK), (.int .i64), (.int .i64), (.int .i64), (.int .i64), (.int .i64), (.int .i64)]
abbrev ysS : Type := Int × Int × List yd × List y0 × List y9 × List y8 × List yc × Int
abbrev yyz : List Ty := [(.int .i64), (.int .i64), (.sl 3 yf), (.sl 84 yk), (.sl 91 yl), (.sl 79 yg), (.sl 40 yK), (.int .i64)]
abbrev yAB : Type := List yd × List y0 × List y9 × List y8 × List yc × Int × Int × Int × Int × Int × Int × Int
abbrev yAC : List Ty := [(.sl 3 yf), (.sl 84 yk), (.sl 91 yl), (.sl 79 yg), (.sl 40 yK), (.int .i64), (.int .i64), (.int .i64), (.int .i64), (.int .i64), (.int .i64), (.int .i64)]
abbrev yAD : Type := Int × Bool × List yd × List y0 × List y9 × List y8 × List yc × Int
abbrev yjw : Type := Int × List yd × List y0 × List y9 × List y8 × List yc × Int × List y7
abbrev yml : List Ty := [(.int .i64), (.sl 3 yf), (.sl 84 yk), (.sl 91 yl), (.sl 79 yg), (.sl 40 yK), (.int .i64), (.sl 81 yh)]
abbrev ymm : Type := List y9 × Int × Int × Int × List y9
abbrev ymn : List Ty := [(.sl 91 yl), (.int .i64), (.int .i64), (.int .i64), (.sl 91 yl)]
abbrev ygl : Type := List yd × List y0 × List y9 × List y8 × List yc × Int × Bool
abbrev ygm : List Ty := [(.sl 3 yf), (.sl 84 yk), (.sl 91 yl), (.sl 79 yg), (.sl 40 yK), (.int .i64), .bool]
abbrev ymo : Type := Int × Int × Int × Int × Int × Int × Int × List y7
abbrev ymp : List Ty := [(.int .i64), (.int .i64), (.int .i64), (.int .i64), (.int .i64), (.int .i64), (.int .i64), (.sl 81 yh)]
abbrev yjx : Type := List yd × List y0 × List y9 × List y8 × List yc × Int × Int × ByteArray × ByteArray × Int × Int
abbrev yjy : List Ty := [(.sl 3 yf), (.sl 84 yk), (.sl 91 yl), (.sl 79 yg), (.sl 40 yK), (.int .i64), (.int .i64), .str, .str, (.int .i64), (.int .i64)]
abbrev yeo : Type := Int × List y4U × Int × Int × Int × Int × List yd × List y0 × List y9 × List y8 × List yc
abbrev ymq : List Ty := [(.int .i64), (.sl 5 kw), (.int .i64), (.int .i64), (.int .i64), (.int .i64), (.sl 3 yf), (.sl 84 yk), (.sl 91 yl), (.sl 79 yg), (.sl 40 yK)]
abbrev yep : Type := Int × List y4U × Int × Int × Int × List yd × List y0 × List y9 × Int × List y8 × List yc
abbrev ymr : List Ty := [(.int .i64), (.sl 5 kw), (.int .i64), (.int .i64), (.int .i64), (.sl 3 yf), (.sl 84 yk), (.sl 91 yl), (.int .i64), (.sl 79 yg), (.sl 40 yK)]
abbrev ysT : Type := List y4U × Int × Int × Int × Int × List yd × List y0 × List y9 × List y8 × List yc
abbrev ysU : Type := List y4U × Int × Int × Int × List yd × List y0 × List y9 × Int × List y8 × List yc
abbrev ysV : Type := List yd × List y0 × List y9 × List y8 × List yc × Int × List y4U × Int × Int
abbrev ysW : List Ty := [(.sl 3 yf), (.sl 84 yk), (.sl 91 yl), (.sl 79 yg), (.sl 40 yK), (.int .i64), (.sl 5 kw), (.int .i64), (.int .i64)]
abbrev yms : Type := Bool × List y7 × Int × Int × Int × Int × Int × Int × Int × List y7
abbrev ymt : List Ty := [.bool, (.sl 81 yh), (.int .i64), (.int .i64), (.int .i64), (.int .i64), (.int .i64), (.int .i64), (.int .i64), (.sl 81 yh)]
abbrev ygn : Type := List y7 × Int × Int × List y7
abbrev ygo : List Ty := [(.sl 81 yh), (.int .i64), (.int .i64), (.sl 81 yh)]
abbrev ymu : Type := List yb × Int × Int × List y7
abbrev ymv : List Ty := [(.sl 53 yr), (.int .i64), (.int .i64), (.sl 81 yh)]
abbrev ymw : Type := List y7 × List y7 × Int × Int
abbrev ymx : List Ty := [(.sl 81 yh), (.sl 81 yh), (.int .i64), (.int .i64)]
abbrev ymy : Type := Int × List yb × Int × Int × List yb
abbrev ymz : List Ty := [(.int .i64), (.sl 53 yr), (.int .i64), (.int .i64), (.sl 53 yr)]
abbrev ysX : Type := Bool × Int × List yb
abbrev ymA : Type := Int × List yb × Int × Int × List y7 × Int × Int × List yd × List y0
abbrev ymB : List Ty := [(.int .i64), (.sl 53 yr), (.int .i64), (.int .i64), (.sl 81 yh), (.int .i64), (.int .i64), (.sl 3 yf), (.sl 84 yk)]
abbrev ysY : Type := Int × Bool × List yb × Int × Int × List yd × List y0
abbrev yjz : Type := Int × List yb × Int × Int × List yd × List y0
abbrev ymC : List Ty := [(.int .i64), (.sl 53 yr), (.int .i64), (.int .i64), (.sl 3 yf), (.sl 84 yk)]
abbrev ymD : Type := Int × List y0 × Int × Int × List yd × List y0
abbrev ymE : List Ty := [(.int .i64), (.sl 84 yk), (.int .i64), (.int .i64), (.sl 3 yf), (.sl 84 yk)]
abbrev ymF : Type := Bool × Int
abbrev ysZ : List Ty := [.bool, (.int .i64)]
abbrev yeq : Type := List y9 × Int × Int × Int
abbrev ygp : List Ty := [(.sl 91 yl), (.int .i64), (.int .i64), (.int .i64)]
abbrev ymG : Type := List y9 × List y9 × Int × Int
abbrev ymH : List Ty := [(.sl 91 yl), (.sl 91 yl), (.int .i64), (.int .i64)]
abbrev ymI : Type := List y8 × List y8 × Int × Int
abbrev ymJ : List Ty := [(.sl 79 yg), (.sl 79 yg), (.int .i64), (.int .i64)]
abbrev ymK : Type := Int × List y9 × Int × Int × List yd
abbrev ymL : List Ty := [(.int .i64), (.sl 91 yl), (.int .i64), (.int .i64), (.sl 3 yf)]
abbrev yt0 : Type := ByteArray × Int × Int × Bool × ByteArray × Int × Int × Bool
abbrev yt1 : List Ty := [.str, (.int .i64), (.int .i64), .bool, .str, (.int .i64), (.int .i64), .bool]
abbrev ymM : Type := Bool × ByteArray × Int × Int × Bool
abbrev ymN : List Ty := [.bool, .str, (.int .i64), (.int .i64), .bool]
abbrev ymO : Type := List yc × Int × Int × ByteArray × Int × Int × Bool
abbrev ymP : List Ty := [(.sl 40 yK), (.int .i64), (.int .i64), .str, (.int .i64), (.int .i64), .bool]
abbrev ymQ : Type := Int × ByteArray × Int × Int × Bool
abbrev yt2 : List Ty := [(.int .i64), .str, (.int .i64), (.int .i64), .bool]
abbrev yt3 : Type := ByteArray × Int × Int × Bool
abbrev ya9 : List Ty := [.str, (.int .i64), (.int .i64), .bool]
abbrev ymR : Type := List yc × Int × Int × List yd × List y0 × List y9 × List y8 × List yc × Int
abbrev ymS : List Ty := [(.sl 40 yK), (.int .i64), (.int .i64), (.sl 3 yf), (.sl 84 yk), (.sl 91 yl), (.sl 79 yg), (.sl 40 yK), (.int .i64)]
abbrev ymT : Type := Int × List y8 × Int × Int
abbrev ymU : List Ty := [(.int .i64), (.sl 79 yg), (.int .i64), (.int .i64)]
abbrev ymV : Type := List y0 × Int × Int × List y7
abbrev ymW : List Ty := [(.sl 84 yk), (.int .i64), (.int .i64), (.sl 81 yh)]
abbrev ymX : Type := Int × Int × Int × List yd × List y0 × List y9 × List y8 × List yc × Int × List ybG × List y7
abbrev ymY : List Ty := [(.int .i64), (.int .i64), (.int .i64), (.sl 3 yf), (.sl 84 yk), (.sl 91 yl), (.sl 79 yg), (.sl 40 yK), (.int .i64), (.sl 4 y48), (.sl 81 yh)]
abbrev ymZ : Type := List y9 × Int × Int × List yd × List y0 × List y9 × List y8 × List yc × Int
abbrev yn0 : List Ty := [(.sl 91 yl), (.int .i64), (.int .i64), (.sl 3 yf), (.sl 84 yk), (.sl 91 yl), (.sl 79 yg), (.sl 40 yK), (.int .i64)]
abbrev yt4 : Type := ByteArray × Int × Int × Bool × ByteArray
abbrev yt5 : List Ty := [.str, (.int .i64), (.int .i64), .bool, .str]
abbrev yn1 : Type := Bool × ByteArray
abbrev yn2 : List Ty := [.bool, .str]
abbrev yn3 : Type := List yc × Int × Int × ByteArray
abbrev yn4 : List Ty := [(.sl 40 yK), (.int .i64), (.int .i64), .str]
abbrev ygq : Type := Int × ByteArray
abbrev yn5 : List Ty := [(.int .i64), .str]
abbrev yt6 : Type := List yc × ByteArray
abbrev yt7 : List Ty := [(.sl 40 yK), .str]
abbrev yer : Type := List yb × Int × Int × List yb
abbrev yn6 : List Ty := [(.sl 53 yr), (.int .i64), (.int .i64), (.sl 53 yr)]
abbrev yes : Type := List y0 × Int × Int × List yd
abbrev yn7 : List Ty := [(.sl 84 yk), (.int .i64), (.int .i64), (.sl 3 yf)]
abbrev yet : Type := List y0 × Int × Int × List yd × List y0
abbrev yn8 : List Ty := [(.sl 84 yk), (.int .i64), (.int .i64), (.sl 3 yf), (.sl 84 yk)]
abbrev yn9 : Type := Bool × List yc × Int × Int × ByteArray × Int × Int × Bool × List yc
abbrev yna : List Ty := [.bool, (.sl 40 yK), (.int .i64), (.int .i64), .str, (.int .i64), (.int .i64), .bool, (.sl 40 yK)]
abbrev yt8 : Type := Bool × ByteArray × Int × Int × Bool × List yc
abbrev ynb : Type := List yd × List yd × Int
abbrev ync : List Ty := [(.sl 3 yf), (.sl 3 yf), (.int .i64)]
abbrev yt9 : Type := List yd × List yd
abbrev yta : List Ty := [(.sl 3 yf), (.sl 3 yf)]
abbrev ynd : Type := List y7 × List y7 × Int
abbrev yne : List Ty := [(.sl 81 yh), (.sl 81 yh), (.int .i64)]
abbrev ytb : Type := List yb × List yb
abbrev ytc : List Ty := [(.sl 53 yr), (.sl 53 yr)]
abbrev ytd : Type := List yd × List y0 × List yd × List y0
abbrev yte : List Ty := [(.sl 3 yf), (.sl 84 yk), (.sl 3 yf), (.sl 84 yk)]
abbrev ynf : Type := List y9 × List y9 × Int
abbrev yng : List Ty := [(.sl 91 yl), (.sl 91 yl), (.int .i64)]
abbrev ytf : Type := List y9 × List y9
abbrev ytg : List Ty := [(.sl 91 yl), (.sl 91 yl)]
abbrev ynh : Type := List y8 × List y8 × Int
abbrev yni : List Ty := [(.sl 79 yg), (.sl 79 yg), (.int .i64)]
abbrev yth : Type := List y8 × List y8
abbrev yti : List Ty := [(.sl 79 yg), (.sl 79 yg)]
abbrev ynj : Type := Int × List yd × List y0 × List y9 × List y8 × List yc × Int × List yd × List y0 × List y9 × List y8 × List yc × Int
abbrev ynk : List Ty := [(.int .i64), (.sl 3 yf), (.sl 84 yk), (.sl 91 yl), (.sl 79 yg), (.sl 40 yK), (.int .i64), (.sl 3 yf), (.sl 84 yk), (.sl 91 yl), (.sl 79 yg), (.sl 40 yK), (.int .i64)]
abbrev ytj : Type := List yd × List y0 × List y9 × List y8 × List yc × Int × List yd × List y0 × List y9 × List y8 × List yc × Int
abbrev ytk : List Ty := [(.sl 3 yf), (.sl 84 yk), (.sl 91 yl), (.sl 79 yg), (.sl 40 yK), (.int .i64), (.sl 3 yf), (.sl 84 yk), (.sl 91 yl), (.sl 79 yg), (.sl 40 yK), (.int .i64)]
abbrev ynl : Type := Int × Int × Int × List y7 × List y7
abbrev ynm : List Ty := [(.int .i64), (.int .i64), (.int .i64), (.sl 81 yh), (.sl 81 yh)]
abbrev ynn : Type := List yd × Int × Int × Int
abbrev yno : List Ty := [(.sl 3 yf), (.int .i64), (.int .i64), (.int .i64)]
abbrev ynp : Type := List yd × Bool × Int × Int × Int × Int × Int × Int × Int × Int × Int × Int × Int × Int × List y7
abbrev ynq : List Ty := [(.sl 3 yf), .bool, (.int .i64), (.int .i64), (.int .i64), (.int .i64), (.int .i64), (.int .i64), (.int .i64), (.int .i64), (.int .i64), (.int .i64), (.int .i64), (.int .i64), (.sl 81 yh)]
abbrev ynr : Type := List y9 × Int × Int × Int × List yd
abbrev yns : List Ty := [(.sl 91 yl), (.int .i64), (.int .i64), (.int .i64), (.sl 3 yf)]
abbrev yeu : Type := Int × Int × List yc × Int × Int × List yd × List y0 × List y9 × List y8 × List yc × Int × ByteArray × Int × Int × Bool × ByteArray × Bool × List v9
abbrev ynt : List Ty := [(.int .i64), (.int .i64), (.sl 40 yK), (.int .i64), (.int .i64), (.sl 3 yf), (.sl 84 yk), (.sl 91 yl), (.sl 79 yg), (.sl 40 yK), (.int .i64), .str, (.int .i64), (.int .i64), .bool, .str, .bool, (.sl 51 Wp)]
abbrev yev : Type := Int × Int × List yc × Int × Int × List yd × List y0 × List y9 × List y8 × List yc × Int × ByteArray × Int × Int × Bool × ByteArray × Bool × List v9 × List yd
abbrev ynu : List Ty := [(.int .i64), (.int .i64), (.sl 40 yK), (.int .i64), (.int .i64), (.sl 3 yf), (.sl 84 yk), (.sl 91 yl), (.sl 79 yg), (.sl 40 yK), (.int .i64), .str, (.int .i64), (.int .i64), .bool, .str, .bool, (.sl 51 Wp), (.sl 3 yf)]
abbrev ytl : Type := List yc × Int × Int × List yd × List y0 × List y9 × List y8 × List yc × Int × ByteArray × Bool × List v9
abbrev ytm : Type := List yc × Int × Int × List yd × List y0 × List y9 × List y8 × List yc × Int × ByteArray × Bool × List v9 × List yd
abbrev ynv : Type := List yc × Int × Int × List yd × List y0 × List y9 × List y8 × List yc × Int × List v9
abbrev ynw : List Ty := [(.sl 40 yK), (.int .i64), (.int .i64), (.sl 3 yf), (.sl 84 yk), (.sl 91 yl), (.sl 79 yg), (.sl 40 yK), (.int .i64), (.sl 51 Wp)]
abbrev ytn : Type := ByteArray × Bool × List yd × ByteArray
abbrev yto : List Ty := [.str, .bool, (.sl 3 yf), .str]
abbrev ynx : Type := List v9 × Int × Int × ByteArray
abbrev yny : List Ty := [(.sl 51 Wp), (.int .i64), (.int .i64), .str]
abbrev ynz : Type := List v9 × ByteArray
abbrev ynA : List Ty := [(.sl 51 Wp), .str]
abbrev ytp : Type := List yd × List y0 × List y9 × List y8 × List yc × Int × ByteArray × Int × Bool
abbrev ytq : List Ty := [(.sl 3 yf), (.sl 84 yk), (.sl 91 yl), (.sl 79 yg), (.sl 40 yK), (.int .i64), .str, (.int .i64), .bool]
abbrev ynB : Type := Int × Int × Int × List yd × List y0
abbrev ynC : List Ty := [(.int .i64), (.int .i64), (.int .i64), (.sl 3 yf), (.sl 84 yk)]
abbrev ynD : Type := Int × Int × List y7 × Int × Int × Int × Int × Int × Int × Int
abbrev ynE : List Ty := [(.int .i64), (.int .i64), (.sl 81 yh), (.int .i64), (.int .i64), (.int .i64), (.int .i64), (.int .i64), (.int .i64), (.int .i64)]
abbrev ytr : Type := List yd × List y0 × Int × Int × List yd × List y0
abbrev yts : List Ty := [(.sl 3 yf), (.sl 84 yk), (.int .i64), (.int .i64), (.sl 3 yf), (.sl 84 yk)]
abbrev ytt : List Ty := [.str, .bool, (.sl 3 yf)]
def ynF : List (Nat × TI) := [
 (3, .c (.int .i64) 8),
 (4, .c (.bool) 1),
 (5, .c (.int .u8) 1),
 (9, .c (.str) 16),
 (22, .c (.sl 5 kw) 24),
 (24, .c (.sl 3 yf) 24),
 (25, .c (.sl 84 yk) 24),
 (27, .s [(0, 24), (1, 25)] [(.sl 3 yf), (.sl 84 yk)] 48),
 (28, .c (.sl 91 yl) 24),
 (29, .c (.sl 79 yg) 24),
 (30, .c (.sl 40 yK) 24),
 (32, .s [(0, 27), (2, 28), (3, 29), (4, 30), (5, 3)] [(.sl 3 yf), (.sl 84 yk), (.sl 91 yl), (.sl 79 yg), (.sl 40 yK), (.int .i64)] 128),
 (34, .s [(0, 3), (1, 9), (2, 9), (3, 3), (4, 3)] [(.int .i64), .str, .str, (.int .i64), (.int .i64)] 56),
 (40, .s [(0, 9), (1, 3), (2, 3), (3, 4)] [.str, (.int .i64), (.int .i64), .bool] 40),
 (43, .c (.sl 51 Wp) 24),
 (51, .s [(0, 9), (1, 4), (2, 24)] [.str, .bool, (.sl 3 yf)] 48),
 (53, .c (.sl 81 yh) 24),
 (79, .s [(0, 3), (1, 4), (2, 3)] [(.int .i64), .bool, (.int .i64)] 24),
 (81, .s [(0, 3), (1, 3), (2, 3), (3, 3), (4, 3)] [(.int .i64), (.int .i64), (.int .i64), (.int .i64), (.int .i64)] 40),
 (82, .c (.sl 53 yr) 24),
 (84, .s [(0, 82)] [(.sl 53 yr)] 24),
 (91, .s [(0, 3), (1, 3)] [(.int .i64), (.int .i64)] 16),
 (93, .s [(0, 22), (1, 3), (2, 3)] [(.sl 5 kw), (.int .i64), (.int .i64)] 40),
 (99, .c (.sl 9 Qu) 24),
 (125, .c (.sl 4 y48) 24)]
def sg4 : Sig := ⟨[.v false [(.sl 5 kw)] [false]], [⟨false, [.bool], [false]⟩], false, false⟩
def yyA : Sig := ⟨[.v false [(.sl 5 kw)] [false]], [⟨true, qz0, (nf 3)⟩], true, false⟩
def yyB : Sig := ⟨[.p none qz0 (nf 3)], [⟨false, [(.int .i64)], [false]⟩], false, false⟩
def yyC : Sig := ⟨[.p none qz0 (nf 3), .v false [(.int .i64)] [false]], [⟨false, [(.int .i64)], [false]⟩], false, false⟩
def yyD : Sig := ⟨[.p none qz0 (nf 3), .v false [(.sl 3 yf)] [false]], [⟨false, [(.int .i64)], [false]⟩], false, false⟩
def yyE : Sig := ⟨[.p none qz0 (nf 3), .v false [(.sl 9 Qu)] [false]], [⟨false, [.str], [false]⟩], false, false⟩
def yyF : Sig := ⟨[.p none qz0 (nf 3)], [⟨false, [.str], [false]⟩], false, false⟩
def yyG : Sig := ⟨[.p none qz0 (nf 3)], [⟨false, [(.int .i64)], [false]⟩], false, false⟩
def yyH : Sig := ⟨[.p none qz0 (nf 3)], [⟨true, yi3, (nf 5)⟩], false, false⟩
def yyI : Sig := ⟨[], [⟨true, qz8, [true, true]⟩], false, false⟩
def yyJ : Sig := ⟨[], [⟨false, [(.sl 79 yg)], [true]⟩], false, false⟩
def yyK : Sig := ⟨[], [⟨true, qz9, [true, true, true, true, true, false]⟩], false, false⟩
def ynG : Sig := ⟨[.v false [(.int .i64)] [false], .v false [(.int .i64)] [false], .v false [(.int .i64)] [false]], [⟨false, [.bool], [false]⟩], false, false⟩
def ynH : Sig := ⟨[.v false [.str] [false]], [⟨false, [.bool], [false]⟩], false, false⟩
def ynI : Sig := ⟨[.v false [(.int .i64)] [false]], [⟨false, [.bool], [false]⟩], false, false⟩
def ynJ : Sig := ⟨[.v true yi3 (nf 5)], [⟨false, [.bool], [false]⟩], false, false⟩
def yyL : Sig := ⟨[.v true yi3 (nf 5)], [⟨false, [.bool], [false]⟩], false, false⟩
def ynK : Sig := ⟨[.v true VR (nf 5)], [⟨false, [.bool], [false]⟩], false, false⟩
def ynL : Sig := ⟨[.v true VR (nf 5), .v true VR (nf 5)], [⟨false, [.bool], [false]⟩], false, false⟩
def ynM : Sig := ⟨[.v false [(.sl 81 yh)] [false]], [⟨false, [.bool], [false]⟩], false, false⟩
def ynN : Sig := ⟨[.v false [(.sl 81 yh)] [false]], [⟨false, [.bool], [false]⟩], false, false⟩
def ynO : Sig := ⟨[.v true [(.sl 53 yr)] [false]], [⟨false, [(.int .i64)], [false]⟩], false, false⟩
def ynP : Sig := ⟨[.v true [(.sl 53 yr)] [false]], [⟨false, [.bool], [false]⟩], false, false⟩
def ynQ : Sig := ⟨[.v false [(.sl 81 yh)] [false]], [⟨false, [(.sl 81 yh)], [true]⟩], false, false⟩
def ynR : Sig := ⟨[.v true VR (nf 5), .v true VR (nf 5)], [⟨false, [.bool], [false]⟩], false, false⟩
def ynS : Sig := ⟨[.v false [(.sl 81 yh)] [false], .v true VR (nf 5)], [⟨false, [(.sl 81 yh)], [true]⟩], false, false⟩
def ynT : Sig := ⟨[.v false [(.sl 81 yh)] [false], .v false [(.sl 81 yh)] [false]], [⟨false, [(.sl 81 yh)], [true]⟩], false, false⟩
def ynU : Sig := ⟨[.v true [(.sl 53 yr)] [false]], [⟨false, [(.sl 81 yh)], [true]⟩], false, false⟩
def ynV : Sig := ⟨[.v false [(.int .i64)] [false], .v false [(.int .i64)] [false]], [⟨false, [(.int .i64)], [false]⟩], false, false⟩
def ynW : Sig := ⟨[.v true VR (nf 5)], [⟨false, [(.int .i64)], [false]⟩], false, false⟩
def ynX : Sig := ⟨[.v true qz8 [false, false], .v false [(.int .i64)] [false]], [⟨false, [.bool], [false]⟩], false, false⟩
def ynY : Sig := ⟨[.v true qz8 [false, false]], [⟨false, [(.sl 81 yh)], [true]⟩], false, false⟩
def ynZ : Sig := ⟨[.v true qz8 [false, false]], [⟨false, [.bool], [false]⟩], false, false⟩
def yo0 : Sig := ⟨[.v false [(.sl 91 yl)] [false], .v false [(.int .i64)] [false]], [⟨false, [(.int .i64)], [false]⟩], false, false⟩
def yo1 : Sig := ⟨[.v false [(.sl 91 yl)] [false]], [⟨false, [.bool], [false]⟩], false, false⟩
def yo2 : Sig := ⟨[.v false [(.sl 79 yg)] [false]], [⟨false, [.bool], [false]⟩], false, false⟩
def yo3 : Sig := ⟨[.v false [(.sl 91 yl)] [false], .v false [(.int .i64)] [false]], [⟨false, [(.sl 3 yf)], [true]⟩], false, false⟩
def yo4 : Sig := ⟨[.v true qz9 (nf 6)], [⟨false, [.bool], [false]⟩], false, false⟩
def yo5 : Sig := ⟨[.v false [(.sl 79 yg)] [false], .v false [(.int .i64)] [false], .v false [(.int .i64)] [false]], [⟨false, [(.int .i64)], [false]⟩, ⟨false, [.bool], [false]⟩], false, false⟩
def yo6 : Sig := ⟨[.v false [(.sl 79 yg)] [false]], [⟨false, [(.int .i64)], [false]⟩], false, false⟩
def yo7 : Sig := ⟨[.v true qz9 (nf 6)], [⟨false, [.bool], [false]⟩], false, false⟩
def yyM : Sig := ⟨[.v true qz9 (nf 6)], [⟨false, [.bool], [false]⟩], false, false⟩
def yo8 : Sig := ⟨[.v true [(.sl 53 yr)] [false]], [⟨true, [(.sl 53 yr)], [true]⟩], false, false⟩
def yo9 : Sig := ⟨[.v true qz8 [false, false]], [⟨true, qz8, [true, true]⟩], false, false⟩
def yoa : Sig := ⟨[.v false [(.sl 79 yg)] [false]], [⟨false, [(.sl 79 yg)], [true]⟩], false, false⟩
def yyN : Sig := ⟨[.v true qz9 (nf 6)], [⟨true, qz9, [true, true, true, true, true, false]⟩], false, false⟩
def yob : Sig := ⟨[.v true qz9 (nf 6), .v false [.str] [false]], [⟨false, [(.int .i64)], [false]⟩], false, false⟩
def yoc : Sig := ⟨[.v true qz9 (nf 6), .v false [.str] [false]], [⟨false, [(.int .i64)], [false]⟩], false, false⟩
def yod : Sig := ⟨[.v false [(.sl 91 yl)] [false], .v false [(.int .i64)] [false], .v false [(.int .i64)] [false]], [⟨false, [(.sl 91 yl)], [true]⟩, ⟨false, [.bool], [false]⟩], false, false⟩
def yoe : Sig := ⟨[.v false [(.sl 40 yK)] [false], .v true ya9 (nf 4)], [⟨false, [(.sl 40 yK)], [true]⟩], false, false⟩
def yof : Sig := ⟨[.v true qz9 (nf 6), .v true qz9 [false, false, false, true, true, false], .v false [.bool] [false]], [⟨true, qz9, [false, false, false, true, true, false]⟩, ⟨false, [(.int .i64)], [false]⟩], false, false⟩
def yyO : Sig := ⟨[.v true qz9 (nf 6), .v false [.str] [false], .v false [(.int .i64)] [false]], [⟨true, qz9, [false, false, false, true, true, false]⟩, ⟨false, [(.int .i64)], [false]⟩], false, false⟩
def yyP : Sig := ⟨[.v true qz9 (nf 6), .v false [.str] [false], .v false [.str] [false], .v false [.bool] [false]], [⟨true, qz9, [false, false, false, true, true, false]⟩, ⟨false, [(.int .i64)], [false]⟩], false, false⟩
def yog : Sig := ⟨[.v true qz9 (nf 6), .v false [.str] [false]], [⟨false, [(.int .i64)], [false]⟩], false, false⟩
def yyQ : Sig := ⟨[.v true qz9 (nf 6), .v false [.str] [false]], [⟨true, qz9, [false, false, false, true, true, false]⟩, ⟨false, [(.int .i64)], [false]⟩], false, false⟩
def yoh : Sig := ⟨[.v true qz9 (nf 6), .v false [.str] [false], .v false [(.int .i64)] [false]], [⟨false, [(.int .i64)], [false]⟩], false, false⟩
def yoi : Sig := ⟨[.v false [(.sl 79 yg)] [false], .v false [(.int .i64)] [false]], [⟨false, [(.sl 79 yg)], [true]⟩, ⟨false, [(.int .i64)], [false]⟩, ⟨false, [.bool], [false]⟩], false, false⟩
def yoj : Sig := ⟨[.v true qz8 [false, false], .v false [(.int .i64)] [false], .v false [(.int .i64)] [false]], [⟨false, [(.int .i64)], [false]⟩], false, false⟩
def yok : Sig := ⟨[.v false [(.sl 81 yh)] [false], .v false [(.int .i64)] [false], .v false [(.int .i64)] [false]], [⟨true, VR, (nf 5)⟩, ⟨false, [.bool], [false]⟩], false, false⟩
def yol : Sig := ⟨[.v true [(.sl 53 yr)] [false], .v false [(.int .i64)] [false], .v false [(.int .i64)] [false]], [⟨true, VR, (nf 5)⟩, ⟨false, [.bool], [false]⟩], false, false⟩
def yom : Sig := ⟨[.v true qz8 [false, false], .v false [(.int .i64)] [false], .v false [(.int .i64)] [false]], [⟨true, VR, (nf 5)⟩, ⟨false, [.bool], [false]⟩], false, false⟩
def yon : Sig := ⟨[.v false [(.sl 81 yh)] [false]], [⟨true, [(.sl 53 yr)], [true]⟩], false, false⟩
def yoo : Sig := ⟨[.v true [(.sl 53 yr)] [false], .v true VR (nf 5)], [⟨true, [(.sl 53 yr)], [true]⟩, ⟨false, [.bool], [false]⟩], false, false⟩
def yop : Sig := ⟨[.v true qz8 [true, true], .v false [(.int .i64)] [false], .v false [(.sl 3 yf)] [false], .v false [(.sl 84 yk)] [false]], [⟨true, qz8, [true, true]⟩], false, true⟩
def yoq : Sig := ⟨[.v true qz8 [false, false]], [⟨false, [(.int .i64)], [false]⟩], false, false⟩
def yor : Sig := ⟨[.v true qz8 [true, true]], [⟨true, qz8, [true, true]⟩], false, false⟩
def yos : Sig := ⟨[.v true qz8 [false, false], .v true VR (nf 5)], [⟨true, qz8, [true, true]⟩, ⟨false, [.bool], [false]⟩], false, false⟩
def yot : Sig := ⟨[.v false [(.sl 79 yg)] [false], .v false [(.int .i64)] [false]], [⟨false, [(.sl 79 yg)], [true]⟩], false, false⟩
def yov : Sig := ⟨[.p none qz9 [false, false, false, true, true, false], .v true VR (nf 5), .v false [.bool] [false]], [], false, false⟩
def yow : Sig := ⟨[.p none qz9 [false, false, false, true, true, false], .v true VR (nf 5)], [⟨false, [.bool], [false]⟩], false, false⟩
def yyR : Sig := ⟨[.v true qz9 (nf 6), .v false [.str] [false], .v false [(.int .i64)] [false], .v false [(.int .i64)] [false]], [⟨true, qz9, [false, false, false, true, true, false]⟩, ⟨false, [(.int .i64)], [false]⟩], false, false⟩
def yox : Sig := ⟨[.v false [(.sl 91 yl)] [false], .v false [(.int .i64)] [false]], [⟨false, [(.sl 3 yf)], [true]⟩], false, false⟩
def yoy : Sig := ⟨[.v true qz8 [false, false], .v false [(.int .i64)] [false]], [⟨false, [(.sl 81 yh)], [true]⟩], false, false⟩
def yoz : Sig := ⟨[.v false [(.sl 3 yf)] [false], .v false [(.int .i64)] [false]], [⟨false, [.bool], [false]⟩], false, false⟩
def yoA : Sig := ⟨[.v true qz8 [false, false], .v false [(.int .i64)] [false], .v false [(.sl 3 yf)] [false]], [⟨true, VR, (nf 5)⟩, ⟨false, [.bool], [false]⟩], false, false⟩
def yoB : Sig := ⟨[.v true qz8 [false, false], .v false [(.sl 91 yl)] [false], .v false [(.int .i64)] [false], .v false [(.int .i64)] [false]], [⟨true, VR, (nf 5)⟩, ⟨false, [.bool], [false]⟩], false, false⟩
def yoC : Sig := ⟨[.p none qz9 [false, false, false, true, true, false], .v false [(.int .i64)] [false], .v false [(.int .i64)] [false]], [⟨false, [.bool], [false]⟩], false, false⟩
def yyS : Sig := ⟨[.v true qz9 (nf 6), .v false [.str] [false], .v false [(.int .i64)] [false]], [⟨true, qz9, [false, false, false, true, true, false]⟩, ⟨false, [(.int .i64)], [false]⟩], false, false⟩
def yyT : Sig := ⟨[.v true qz9 (nf 6), .v false [.str] [false], .v false [(.int .i64)] [false]], [⟨true, qz9, [false, false, false, true, true, false]⟩, ⟨false, [(.int .i64)], [false]⟩], false, false⟩
def yoD : Sig := ⟨[.v true qz8 [false, false], .v false [(.sl 91 yl)] [false], .v false [(.int .i64)] [false], .v false [(.int .i64)] [false]], [⟨true, VR, (nf 5)⟩, ⟨false, [.bool], [false]⟩], false, false⟩
def yoE : Sig := ⟨[.v true qz8 [false, false], .v false [(.sl 91 yl)] [false], .v true VR (nf 5), .v false [(.int .i64)] [false]], [⟨false, [.bool], [false]⟩], false, false⟩
def yoF : Sig := ⟨[.v true qz9 (nf 6), .v true VR (nf 5)], [⟨false, [.bool], [false]⟩], false, false⟩
def yoG : Sig := ⟨[.v true qz9 (nf 6), .v false [(.int .i64)] [false]], [⟨false, [.bool], [false]⟩], false, false⟩
def yoH : Sig := ⟨[.v true qz9 (nf 6), .v false [(.int .i64)] [false]], [⟨false, [(.int .i64)], [false]⟩], false, false⟩
def yoI : Sig := ⟨[.v true qz9 (nf 6), .v true VR (nf 5)], [⟨false, [.bool], [false]⟩], false, false⟩
def yoJ : Sig := ⟨[.v true qz9 (nf 6), .v false [(.int .i64)] [false], .v true VR (nf 5)], [⟨false, [.bool], [false]⟩], false, false⟩
def yoK : Sig := ⟨[.v true qz9 (nf 6), .v false [(.int .i64)] [false]], [⟨false, [.bool], [false]⟩], false, false⟩
def yoL : Sig := ⟨[.v true qz9 (nf 6)], [⟨false, [(.int .i64)], [false]⟩, ⟨false, [(.int .i64)], [false]⟩], false, false⟩
def yoM : Sig := ⟨[.p none qz9 [false, false, false, true, true, false], .v true VR (nf 5)], [⟨false, [.bool], [false]⟩], false, false⟩
def yoN : Sig := ⟨[.v false [(.sl 91 yl)] [false], .v false [(.int .i64)] [false]], [⟨false, [(.sl 91 yl)], [true]⟩, ⟨false, [.bool], [false]⟩], false, false⟩
def yoO : Sig := ⟨[.v true qz9 (nf 6)], [⟨true, qz9, [false, false, false, true, true, false]⟩, ⟨false, [.bool], [false]⟩], false, false⟩
def yoP : Sig := ⟨[.v true [(.sl 53 yr)] [false]], [⟨true, [(.sl 53 yr)], [true]⟩], false, false⟩
def yoQ : Sig := ⟨[.v true qz8 [false, false], .v false [(.int .i64)] [false]], [⟨true, qz8, [true, true]⟩], false, false⟩
def yoR : Sig := ⟨[.v true qz9 (nf 6), .v false [(.int .i64)] [false]], [⟨true, qz9, [true, true, true, true, true, false]⟩, ⟨false, [.bool], [false]⟩], false, false⟩
def yoS : Sig := ⟨[.v true qz9 (nf 6), .v false [(.int .i64)] [false]], [⟨true, VR, (nf 5)⟩], false, false⟩
def yoT : Sig := ⟨[.v true qz9 (nf 6), .v false [(.int .i64)] [false]], [⟨true, qz9, [true, true, true, true, true, false]⟩, ⟨false, [.bool], [false]⟩], false, false⟩
def yyU : Sig := ⟨[.v true qz9 (nf 6), .v true yi3 (nf 5)], [⟨true, qz9, [false, false, false, true, true, false]⟩, ⟨false, [.bool], [false]⟩], false, false⟩
def yyV : Sig := ⟨[.v true qz9 (nf 6), .v true yi3 (nf 5)], [⟨true, qz9, [false, false, false, true, true, false]⟩, ⟨false, [(.int .i64)], [false]⟩], false, false⟩
def yyW : Sig := ⟨[.p none qz0 (nf 3), .v false [(.int .i64)] [false]], [⟨true, qz9, [false, false, false, true, true, false]⟩], false, false⟩
def yyX : Sig := ⟨[.v false [(.sl 5 kw)] [false], .v false [(.int .i64)] [false]], [⟨false, [(.int .i64)], [false]⟩], false, false⟩
def sg5 : Sig := ⟨[.v false [(.sl 5 kw)] [false]], [⟨true, qz9, [false, false, false, true, true, false]⟩, ⟨true, yi3, (nf 5)⟩], false, false⟩
def yoU : Sig := ⟨[.v false [(.sl 81 yh)] [false]], [⟨false, [(.sl 81 yh)], [true]⟩], false, false⟩
def yoV : Sig := ⟨[.v true VR (nf 5), .v true VR (nf 5)], [⟨false, [.bool], [false]⟩], false, false⟩
def yoW : Sig := ⟨[.v true VR (nf 5), .v true VR (nf 5)], [⟨false, [.bool], [false]⟩], false, false⟩
def yoX : Sig := ⟨[.v false [(.sl 81 yh)] [false], .v true VR (nf 5)], [⟨false, [(.sl 81 yh)], [true]⟩], false, false⟩
def yyY : Sig := ⟨[.v false [(.sl 81 yh)] [false], .v false [(.sl 81 yh)] [false]], [⟨false, [(.sl 81 yh)], [true]⟩], false, false⟩
def yyZ : Sig := ⟨[.v false [(.sl 81 yh)] [false]], [⟨false, [(.sl 81 yh)], [true]⟩], false, false⟩
def yz0 : Sig := ⟨[.v true [(.sl 53 yr)] [false]], [⟨false, [(.sl 81 yh)], [true]⟩], false, false⟩
def yz1 : Sig := ⟨[.v false [(.int .i64)] [false], .v false [(.int .i64)] [false], .v false [(.int .i64)] [false]], [⟨false, [.bool], [false]⟩], false, false⟩
def yz2 : Sig := ⟨[.v true VR (nf 5)], [⟨false, [.bool], [false]⟩], false, false⟩
def yoY : Sig := ⟨[.v false [(.sl 81 yh)] [false]], [⟨false, [.bool], [false]⟩], false, false⟩
def yz3 : Sig := ⟨[.v true [(.sl 53 yr)] [false]], [⟨false, [.bool], [false]⟩], false, false⟩
def yoZ : Sig := ⟨[.v false [(.int .i64)] [false], .v false [(.int .i64)] [false]], [⟨false, [(.int .i64)], [false]⟩], false, false⟩
def yz4 : Sig := ⟨[.v true qz8 [false, false], .v false [(.int .i64)] [false]], [⟨false, [.bool], [false]⟩], false, false⟩
def yz5 : Sig := ⟨[.v true qz8 [false, false]], [⟨false, [.bool], [false]⟩], false, false⟩
def yz6 : Sig := ⟨[.v true yjr [false, false], .p none [(.int .i64)] [false]], [⟨false, [.bool], [false]⟩], false, false⟩
def ybH : Sig := ⟨[.v false [(.sl 91 yl)] [false], .p (some 90) [(.int .i64)] [false]], [⟨false, [(.int .i64)], [false]⟩], false, false⟩
def yz7 : Sig := ⟨[.v false [(.sl 91 yl)] [false], .v false [(.int .i64)] [false]], [⟨false, [(.int .i64)], [false]⟩], false, false⟩
def yz8 : Sig := ⟨[.v false [(.sl 91 yl)] [false]], [⟨false, [.bool], [false]⟩], false, false⟩
def yz9 : Sig := ⟨[.v false [(.int .i64)] [false]], [⟨false, [.bool], [false]⟩], false, false⟩
def yza : Sig := ⟨[.v false [(.sl 79 yg)] [false]], [⟨false, [.bool], [false]⟩], false, false⟩
def yzb : Sig := ⟨[.v false [.str] [false]], [⟨false, [.bool], [false]⟩], false, false⟩
def yzc : Sig := ⟨[.v false [(.sl 91 yl)] [false], .v false [(.int .i64)] [false]], [⟨false, [(.sl 3 yf)], [true]⟩], false, false⟩
def yzd : Sig := ⟨[.v true ya9 (nf 4), .p none ya9 (nf 4)], [⟨false, [.bool], [false]⟩], false, false⟩
def ybI : Sig := ⟨[.v false [(.sl 40 yK)] [false], .p (some 71) ya9 (nf 4)], [⟨false, [(.int .i64)], [false]⟩], false, false⟩
def ybJ : Sig := ⟨[.v false [(.sl 40 yK)] [false], .p (some 71) ya9 (nf 4)], [⟨false, [.bool], [false]⟩], false, false⟩
def yze : Sig := ⟨[.v true qz9 (nf 6)], [⟨false, [.bool], [false]⟩], false, false⟩
def yzf : Sig := ⟨[.v false [(.sl 79 yg)] [false]], [⟨false, [(.int .i64)], [false]⟩], false, false⟩
def yzg : Sig := ⟨[.v true qz8 [false, false]], [⟨false, [(.sl 81 yh)], [true]⟩], false, false⟩
def yzh : Sig := ⟨[.v false [(.sl 79 yg)] [false], .v false [(.int .i64)] [false], .v false [(.int .i64)] [false]], [⟨false, [(.int .i64)], [false]⟩, ⟨false, [.bool], [false]⟩], false, false⟩
def yzi : Sig := ⟨[.v true qz9 (nf 6)], [⟨false, [.bool], [false]⟩], false, false⟩
def yzj : Sig := ⟨[.v true qz9 (nf 6)], [⟨false, [.bool], [false]⟩], false, false⟩
def yzk : Sig := ⟨[.v true ya9 (nf 4), .p none [.str] [false]], [⟨false, [.bool], [false]⟩], false, false⟩
def ybK : Sig := ⟨[.v false [(.sl 40 yK)] [false], .p (some 52) [.str] [false]], [⟨false, [(.int .i64)], [false]⟩], false, false⟩
def yzl : Sig := ⟨[.v true qz9 (nf 6), .v false [.str] [false]], [⟨false, [(.int .i64)], [false]⟩], false, false⟩
def yzm : Sig := ⟨[.v false [(.sl 3 yf)] [false]], [⟨false, [(.sl 3 yf)], [true]⟩], false, false⟩
def yzn : Sig := ⟨[.v true [(.sl 53 yr)] [false]], [⟨true, [(.sl 53 yr)], [true]⟩], false, false⟩
def yzo : Sig := ⟨[.v true qz8 [false, false]], [⟨true, qz8, [true, true]⟩], false, false⟩
def yzp : Sig := ⟨[.v false [(.sl 91 yl)] [false]], [⟨false, [(.sl 91 yl)], [true]⟩], false, false⟩
def yzq : Sig := ⟨[.v false [(.sl 79 yg)] [false]], [⟨false, [(.sl 79 yg)], [true]⟩], false, false⟩
def yzr : Sig := ⟨[.v true qz9 (nf 6)], [⟨true, qz9, [true, true, true, true, true, false]⟩], false, false⟩
def ygr : Sig := ⟨[.v false [(.sl 91 yl)] [true], .v false [(.int .i64)] [false], .v false [(.sl 91 yl)] [true]], [⟨false, [(.sl 91 yl)], [true]⟩], false, false⟩
def yzs : Sig := ⟨[.v false [(.sl 91 yl)] [false], .v false [(.int .i64)] [false], .v false [(.int .i64)] [false]], [⟨false, [(.sl 91 yl)], [true]⟩, ⟨false, [.bool], [false]⟩], false, false⟩
def yzt : Sig := ⟨[.v false [(.sl 40 yK)] [false], .v true ya9 (nf 4)], [⟨false, [(.sl 40 yK)], [true]⟩], false, false⟩
def yzu : Sig := ⟨[.v true qz9 (nf 6), .v true qz9 (nf 6), .v false [.bool] [false]], [⟨true, qz9, (nf 6)⟩, ⟨false, [(.int .i64)], [false]⟩], false, false⟩
def sg6 : Sig := ⟨[.v true qz9 (nf 6), .v false [.str] [false], .v false [.str] [false], .v false [.bool] [false]], [⟨true, qz9, (nf 6)⟩, ⟨false, [(.int .i64)], [false]⟩], false, false⟩
def sg7 : Sig := ⟨[.v false [(.sl 5 kw)] [false], .v false [(.int .i64)] [false]], [⟨false, [(.int .i64)], [false]⟩], false, false⟩
def yzv : Sig := ⟨[.v false [(.sl 3 yf)] [false], .v false [(.sl 3 yf)] [false]], [⟨false, [.bool], [false]⟩], false, false⟩
def yzw : Sig := ⟨[.v false [(.sl 81 yh)] [false], .v false [(.sl 81 yh)] [false]], [⟨false, [.bool], [false]⟩], false, false⟩
def yzx : Sig := ⟨[.v true [(.sl 53 yr)] [false], .v true [(.sl 53 yr)] [false]], [⟨false, [.bool], [false]⟩], false, false⟩
def yzy : Sig := ⟨[.v true qz8 [false, false], .v true qz8 [false, false]], [⟨false, [.bool], [false]⟩], false, false⟩
def yzz : Sig := ⟨[.v false [(.sl 91 yl)] [false], .v false [(.sl 91 yl)] [false]], [⟨false, [.bool], [false]⟩], false, false⟩
def yzA : Sig := ⟨[.v false [(.sl 79 yg)] [false], .v false [(.sl 79 yg)] [false]], [⟨false, [.bool], [false]⟩], false, false⟩
def sg8 : Sig := ⟨[.v true qz9 (nf 6), .v true qz9 (nf 6)], [⟨false, [.bool], [false]⟩], false, false⟩
def yp0 : Sig := ⟨[.v true qz8 [false, false], .v false [(.int .i64)] [false]], [⟨false, [(.sl 81 yh)], [true]⟩], false, false⟩
def yp1 : Sig := ⟨[.v false [(.sl 3 yf)] [false], .v false [(.int .i64)] [false]], [⟨false, [(.int .i64)], [false]⟩], false, false⟩
def yp2 : Sig := ⟨[.v false [(.sl 3 yf)] [false], .v false [(.int .i64)] [false]], [⟨false, [.bool], [false]⟩], false, false⟩
def yzB : Sig := ⟨[.v true qz8 [false, false], .v false [(.int .i64)] [false], .v false [(.sl 3 yf)] [false]], [⟨true, VR, (nf 5)⟩, ⟨false, [.bool], [false]⟩], false, false⟩
def yzC : Sig := ⟨[.v false [(.sl 91 yl)] [false], .v false [(.int .i64)] [false]], [⟨false, [(.sl 3 yf)], [true]⟩], false, false⟩
def yzD : Sig := ⟨[.v true qz8 [false, false], .v false [(.sl 91 yl)] [false], .v false [(.int .i64)] [false], .v false [(.int .i64)] [false]], [⟨true, VR, (nf 5)⟩, ⟨false, [.bool], [false]⟩], false, false⟩
def yzE : Sig := ⟨[.v true qz9 (nf 6), .v false [(.int .i64)] [false], .v false [(.int .i64)] [false]], [⟨false, [(.int .i64)], [false]⟩], false, false⟩
def sg9 : Sig := ⟨[.v true qz9 (nf 6)], [⟨false, [(.sl 51 Wp)], [true]⟩], false, false⟩
def yzF : Sig := ⟨[.v true ytt (nf 3), .p none [.str] [false]], [⟨false, [.bool], [false]⟩], false, false⟩
def ybL : Sig := ⟨[.v false [(.sl 51 Wp)] [false], .p (some 32) [.str] [false]], [⟨false, [(.int .i64)], [false]⟩], false, false⟩
def yzG : Sig := ⟨[.v false [(.sl 51 Wp)] [false], .v false [.str] [false]], [⟨false, [(.int .i64)], [false]⟩], false, false⟩
def yzH : Sig := ⟨[.v true qz9 (nf 6), .v false [.str] [false], .v false [(.int .i64)] [false], .v false [.bool] [false]], [⟨false, [(.int .i64)], [false]⟩, ⟨false, [(.int .i64)], [false]⟩], false, false⟩
def yzI : Sig := ⟨[.v false [(.sl 79 yg)] [false]], [⟨false, [(.int .i64)], [false]⟩], false, false⟩
def yzJ : Sig := ⟨[.v false [(.sl 79 yg)] [false], .v false [(.int .i64)] [false]], [⟨false, [(.sl 79 yg)], [true]⟩, ⟨false, [(.int .i64)], [false]⟩, ⟨false, [.bool], [false]⟩], false, false⟩
def yzK : Sig := ⟨[.v true qz8 [false, false], .v false [(.int .i64)] [false], .v false [(.int .i64)] [false]], [⟨false, [(.int .i64)], [false]⟩], false, false⟩
def yp3 : Sig := ⟨[.v false [(.sl 81 yh)] [false], .v false [(.int .i64)] [false], .v false [(.int .i64)] [false]], [⟨true, VR, (nf 5)⟩, ⟨false, [.bool], [false]⟩], false, false⟩
def yzL : Sig := ⟨[.v true [(.sl 53 yr)] [false], .v false [(.int .i64)] [false], .v false [(.int .i64)] [false]], [⟨true, VR, (nf 5)⟩, ⟨false, [.bool], [false]⟩], false, false⟩
def yzM : Sig := ⟨[.v true qz8 [false, false], .v false [(.int .i64)] [false], .v false [(.int .i64)] [false]], [⟨true, VR, (nf 5)⟩, ⟨false, [.bool], [false]⟩], false, false⟩
def yzN : Sig := ⟨[.v true [(.sl 53 yr)] [false], .v true VR (nf 5)], [⟨false, [(.sl 81 yh)], [true]⟩], false, false⟩
def yp4 : Sig := ⟨[.v false [(.sl 81 yh)] [false]], [⟨true, [(.sl 53 yr)], [true]⟩], false, false⟩
def yzO : Sig := ⟨[.v true [(.sl 53 yr)] [false], .v true VR (nf 5)], [⟨true, [(.sl 53 yr)], [true]⟩, ⟨false, [.bool], [false]⟩], false, false⟩
def yzP : Sig := ⟨[.v true qz8 [false, false], .v false [(.int .i64)] [false], .v false [(.int .i64)] [false], .v false [(.sl 3 yf)] [false], .v false [(.sl 84 yk)] [false]], [⟨true, qz8, [true, true]⟩], false, false⟩
def yp5 : Sig := ⟨[.v true qz8 [false, false]], [⟨true, qz8, [false, false]⟩], false, false⟩
def yzQ : Sig := ⟨[.v true qz8 [false, false], .v true VR (nf 5)], [⟨true, qz8, [false, false]⟩, ⟨false, [.bool], [false]⟩], false, false⟩
def yzR : Sig := ⟨[.v false [(.sl 79 yg)] [false], .v false [(.int .i64)] [false]], [⟨false, [(.sl 79 yg)], [true]⟩], false, false⟩
def yzS : Sig := ⟨[.p none qz9 [false, false, false, false, true, false], .v true VR (nf 5)], [⟨false, [.bool], [false]⟩], false, false⟩
def yzT : Sig := ⟨[.v true qz9 (nf 6), .v false [.str] [false], .v false [(.int .i64)] [false], .v false [(.int .i64)] [false]], [⟨true, qz9, (nf 6)⟩, ⟨false, [(.int .i64)], [false]⟩], false, false⟩
def yzU : Sig := ⟨[.v true qz9 (nf 6), .v false [.str] [false], .v false [(.int .i64)] [false]], [⟨false, [(.int .i64)], [false]⟩, ⟨false, [(.int .i64)], [false]⟩], false, false⟩
def sg3 : Sig := ⟨[.v false [(.sl 5 kw)] [false]], [⟨false, [.bool], [false]⟩], false, false⟩
def yAE : List (Nat × Sig) := [(4, sg4), (17, yyA), (74, yyB), (45, yyC), (47, yyD), (48, yyE), (49, yyF), (50, yyG), (20, yyH), (72, yyI), (73, yyJ), (44, yyK), (107, ynG), (106, ynH), (108, ynI), (109, ynJ), (75, yyL), (161, ynK), (179, ynL), (186, ynM), (174, ynN), (175, ynO), (156, ynP), (164, ynQ), (180, ynR), (165, ynS), (176, ynT), (157, ynU), (177, ynV), (158, ynW), (136, ynX), (137, ynY), (110, ynZ), (138, yo0), (111, yo1), (112, yo2), (139, yo3), (113, yo4), (140, yo5), (141, yo6), (114, yo7), (76, yyM), (142, yo8), (115, yo9), (116, yoa), (77, yyN), (117, yob), (118, yoc), (119, yod), (120, yoe), (121, yof), (78, yyO), (79, yyP), (122, yog), (80, yyQ), (123, yoh), (124, yoi), (159, yoj), (178, yok), (160, yol), (143, yom), (166, yon), (162, yoo), (163, yop), (181, yoq), (167, yor), (144, yos), (153, yot), (145, yov), (125, yow), (81, yyR), (168, yox), (182, yoy), (183, yoz), (169, yoA), (146, yoB), (126, yoC), (82, yyS), (83, yyT), (188, yoD), (187, yoE), (184, yoF), (172, yoG), (149, yoH), (185, yoI), (170, yoJ), (171, yoK), (147, yoL), (148, yoM), (150, yoN), (127, yoO), (173, yoP), (151, yoQ), (128, yoR), (152, yoS), (129, yoT), (84, yyU), (46, yyV), (18, yyW), (19, yyX), (5, sg5), (103, yoU), (134, yoV), (135, yoW), (104, yoX), (65, yyY), (66, yyZ), (37, yz0), (41, yz1), (96, yz2), (105, yoY), (67, yz3), (100, yoZ), (68, yz4), (38, yz5), (90, yz6), (100000, ybH), (57, yz7), (39, yz8), (34, yz9), (40, yza), (22, yzb), (69, yzc), (71, yzd), (100002, ybI), (100001, ybJ), (42, yze), (14, yzf), (15, yzg), (60, yzh), (43, yzi), (16, yzj), (52, yzk), (100003, ybK), (21, yzl), (85, yzm), (86, yzn), (53, yzo), (54, yzp), (55, yzq), (23, yzr), (56, ygr), (24, yzs), (25, yzt), (26, yzu), (6, sg6), (7, sg7), (13, yzv), (91, yzw), (58, yzx), (27, yzy), (28, yzz), (29, yzA), (8, sg8), (131, yp0), (155, yp1), (132, yp2), (92, yzB), (93, yzC), (59, yzD), (30, yzE), (9, sg9), (32, yzF), (100004, ybL), (10, yzG), (33, yzH), (61, yzI), (35, yzJ), (94, yzK), (133, yp3), (95, yzL), (62, yzM), (98, yzN), (101, yp4), (97, yzO), (99, yzP), (102, yp5), (63, yzQ), (64, yzR), (36, yzS), (11, yzT), (12, yzU), (3, sg3)]
def ytu : List (Nat × (List Nat × List Nat)) := [
 (1700003, [0, 3, 4, 13, 14], [0, 3]),
 (10600002, [0, 3, 17, 18, 19, 20, 21, 22], [0, 2]),
 (18600002, [0, 3], [2]),
 (17400002, [0, 3, 19, 20, 21], [0, 2, 19, 20, 21]),
 (17500003, [1, 3, 4], [3]),
 (15600002, [1, 3, 19, 20, 21, 22, 23, 24, 25, 32, 33, 34], [1, 2, 32, 33, 34]),
 (16400003, [0, 3, 4], [3]),
 (16500004, [0, 3, 5, 6, 7, 18, 19, 20, 21, 22, 23, 24], [3, 5, 6]),
 (17600003, [1, 5, 6], [5]),
 (15700003, [1, 3, 4], [3]),
 (13600005, [1, 2, 5, 6, 61, 62, 63, 64, 65, 66, 67, 68, 69, 70, 71, 72, 73, 74, 75, 76], [4]),
 (13600008, [1, 2, 5, 6, 7, 61, 62, 63, 64, 65, 66, 67, 68, 69, 70, 71, 72, 73, 74, 75, 76], [1, 2, 4, 5, 6, 61, 62, 63, 64, 65, 66, 67, 68, 69, 70, 71, 72, 73, 74, 75, 76]),
 (13700003, [1, 3, 4], [3]),
 (11000004, [1, 3, 35, 36, 37, 38, 39, 40, 41, 42, 43, 44, 45, 46, 49, 50, 51, 52], [1, 2]),
 (13800002, [0, 1, 5], [4]),
 (11100002, [0, 3, 18, 19, 20, 21, 22, 23, 24, 25, 26, 27, 28, 29, 30, 31, 32, 33, 42, 43, 44, 45, 46, 47, 48, 49, 50, 51], [0, 2]),
 (11200002, [0, 3, 18, 19, 20, 21, 22, 23, 24, 27, 28, 29, 30, 31, 32, 33, 34, 35, 36, 37, 38, 39, 40], [0, 2]),
 (13900003, [0, 1, 5, 6, 22, 23], [5]),
 (11300002, [1, 3, 23, 24, 25, 26, 29, 30, 31, 32, 33, 34, 37, 38, 39, 40, 41, 42, 43, 46, 47, 48, 49, 50, 51, 52, 53, 54, 55, 56, 57, 58, 59], [1, 2]),
 (11300008, [1, 3, 4, 5, 23, 24, 25, 26, 29, 30, 31, 32, 33, 34, 37, 38, 39, 40, 41, 42, 43, 46, 47, 48, 49, 50, 51, 52, 53, 54, 55, 56, 57, 58, 59], [1, 2, 3, 23, 24, 25, 26, 29, 30, 31, 32, 33, 34, 37, 38, 39, 40, 41, 42, 43, 46, 47, 48, 49, 50, 51, 52, 53, 54, 55, 56, 57, 58, 59]),
 (14100003, [0, 3, 4], [3]),
 (11400004, [1, 3, 4, 5, 65, 66, 67, 68, 69, 70, 71, 72, 73, 74, 75], [1, 2, 4]),
 (11400014, [1, 3, 4, 5, 8, 65, 66, 67, 68, 69, 70, 71, 72, 73, 74, 75], [1, 2, 3, 4, 5, 65, 66, 67, 68, 69, 70, 71, 72, 73, 74, 75]),
 (7600002, [1, 3, 24, 25, 26, 29, 30, 31, 34, 35, 36, 39, 40, 43, 44], [1, 2, 24, 25, 26, 29, 30, 31, 34, 35, 36, 39, 40, 43, 44]),
 (14200003, [1, 2, 3, 4], [2, 3]),
 (11500003, [1, 2, 3, 4], [2, 3]),
 (11800002, [1, 2, 5], [4]),
 (11900004, [0, 1, 2, 8, 9, 10, 25, 26, 27, 28, 29, 30, 31, 59, 60, 61], [0, 1, 2, 8, 9, 59, 60, 61]),
 (12000003, [3, 5, 6, 19, 20, 21, 22, 23, 24, 25, 26, 27], [3, 5, 6]),
 (12400003, [0, 1, 7, 8, 16, 17, 20, 21], [4, 5, 6, 7]),
 (15900003, [1, 2, 3, 7, 8], [7]),
 (17800002, [0, 1, 2, 6, 8, 23, 24, 25, 26, 27, 28, 29], [6, 7]),
 (16000002, [1, 2, 3, 6, 8, 32, 33, 34], [6, 7]),
 (18100002, [1, 3], [2]),
 (16700002, [1, 2, 3], [1, 2]),
 (16800003, [0, 5, 6, 14, 15, 16, 17, 18], [5]),
 (18200004, [1, 5, 6, 7], [5]),
 (18300002, [0, 1, 5], [4]),
 (16900005, [2, 6, 8, 9, 10, 11, 30, 31, 32, 33, 34, 35, 36, 37, 38, 39, 40, 41], [6, 8, 9]),
 (8300010, [2, 3, 6, 8, 10, 11, 12, 43], [2, 3, 6, 8, 10, 11]),
 (18400002, [2, 3, 5, 23, 24, 25, 26, 27, 28, 29, 30, 31, 32, 33, 34], [4]),
 (17200002, [1, 2, 5], [4]),
 (17100003, [1, 2, 5, 6, 27, 28, 29, 30, 31, 32], [1, 2, 4, 27, 28, 29, 30, 31, 32]),
 (14700005, [1, 4, 5], [1, 2, 3]),
 (14700008, [1, 4, 5, 6], [1, 2, 3, 4, 5]),
 (14700013, [1, 7], [2, 3]),
 (15000006, [0, 1, 6, 7, 8], [7]),
 (15200003, [1, 4, 5, 6, 23, 24, 25, 26, 27, 28, 29], [4]),
 (1800003, [0, 4, 5, 6], [0, 4, 5]),
 (10400004, [3, 5, 6, 10, 11, 12, 19, 20, 21, 22], [3, 5, 6]),
 (6500003, [5, 10, 11, 12], [5]),
 (6600003, [3, 7, 8, 9], [3]),
 (3700003, [3, 8, 9, 10], [3]),
 (10500002, [0, 5, 6, 7, 16, 17, 18, 19, 20, 21, 22, 23, 24, 25, 26, 27], [0, 2]),
 (6700003, [1, 3, 7, 8, 9, 17, 18, 19, 31, 32], [1, 2, 3, 31, 32]),
 (6800002, [1, 2, 15, 16, 17, 40, 41, 42, 43, 44, 45, 46, 47, 48, 49, 50, 51, 52, 53, 54, 55], [4]),
 (6800005, [1, 2, 15, 16, 17, 21, 22, 23, 40, 41, 42, 43, 44, 45, 46, 47, 48, 49, 50, 51, 52, 53, 54, 55], [1, 2, 4, 15, 16, 17, 40, 41, 42, 43, 44, 45, 46, 47, 48, 49, 50, 51, 52, 53, 54, 55]),
 (3800005, [1, 3, 29, 30, 31, 39, 40, 41, 42, 43, 44, 45, 46, 47, 48, 49, 50, 53, 54, 55, 58, 59, 60, 61, 69, 70], [2, 3]),
 (10000000002, [0, 1, 7, 8], [1, 4]),
 (3900002, [0, 5, 6, 7, 17, 18, 19, 20, 21, 22, 23, 24, 25, 26, 27, 28, 29, 32, 33, 34, 35, 36, 37, 38, 39, 40, 41, 42, 43], [0, 2]),
 (4000002, [0, 5, 6, 7, 16, 17, 18, 19, 22, 23, 24, 25, 26, 27, 28, 29], [0, 2]),
 (2200002, [0, 3, 17, 18, 19, 20, 21, 22], [0, 2]),
 (6900005, [1, 5, 12, 13, 14], [5]),
 (10000200002, [0, 1, 7, 8], [1, 4]),
 (4200002, [1, 6, 7, 8, 18, 19, 20, 21, 22, 23, 24, 25, 26, 27, 28, 29, 30, 31, 34, 35, 36, 37, 46, 47, 48, 49, 50, 51, 52], [1, 2]),
 (1400003, [3, 6, 7, 8], [3]),
 (1500003, [3, 8, 9, 10], [3]),
 (4300004, [1, 3, 4, 12, 13, 14, 40, 41, 42, 43, 44], [1, 2, 4]),
 (1600004, [1, 28, 29, 30, 43, 44], [1, 2, 43, 44]),
 (10000300002, [0, 1, 7, 8], [1, 4]),
 (8600003, [2, 3, 8, 9, 10], [2, 3]),
 (5300003, [2, 3, 11, 12, 13], [2, 3]),
 (2400002, [0, 1, 2, 8, 15, 16, 17, 18, 19, 20, 21, 38, 39, 40], [0, 1, 2, 8, 38, 39, 40]),
 (2500004, [3, 5, 6, 10, 11, 12, 19, 20, 21, 22, 23], [3, 5, 6]),
 (1300004, [0, 1, 5], [4]),
 (9100004, [0, 1, 5], [4]),
 (5800004, [2, 3, 5], [4]),
 (2700004, [2, 3, 5], [4]),
 (2800004, [0, 1, 5], [4]),
 (2900004, [0, 1, 5], [4]),
 (800004, [2, 3, 5], [4]),
 (13100003, [1, 5, 10, 11, 12], [5]),
 (15500002, [0, 1, 7, 8], [4]),
 (9200003, [2, 6, 8, 9, 15, 16, 17, 26, 27, 28, 29, 30, 31, 32, 33, 34], [6, 8, 9]),
 (9300003, [0, 1, 5, 10, 11], [5]),
 (900003, [1, 3, 10, 11, 12, 27, 28], [3]),
 (900007, [1, 3, 4, 5, 6, 7, 10, 11, 12, 27, 28], [1, 3, 6, 10, 11, 12, 27, 28]),
 (10000400002, [0, 1, 7, 8], [1, 4]),
 (6100002, [5, 6, 7], [2]),
 (9400002, [1, 2, 3, 7], [6]),
 (13300002, [1, 2, 6, 10, 11, 12, 21, 22, 23, 24], [6, 7]),
 (9500002, [1, 2, 3, 6, 8], [6, 7]),
 (10200002, [1, 2, 3], [1, 2])]
def yzV : List (Nat × List Nat × Nat) := [(89, [90], 100000), (70, [71], 100001), (51, [71], 100002), (51, [52], 100003), (31, [32], 100004)]
def ytv : List (Nat × List Nat) := [(142, [22]), (115, [25]), (167, [2000000000006000001, 2000000000007000001, 1000033000000027, 1000046000000041, 1000048000000025, 49, 1000049000049000, 1000050000000046]), (144, [2000000000010000011, 49, 1000037000999999, 1000049000038000, 1000050000000047, 1000050000000049, 1000082000999999, 1000086000999999, 87, 1000087000083000, 1000087000087000]), (81, [60]), (146, [21]), (18, [1000019000000900]), (5, [1000015000008500]), (86, [18]), (53, [21]), (102, [40, 1000039000000026, 1000040000040000]), (63, [2000000000011000010, 1000038000999999, 1000080000999999, 1000084000999999, 85, 1000085000081000, 1000085000085000]), (11, [66])]
def C : Ctx := { info := y9B ynF, sig := y9B yAE, live := fun f i => y9B ytu (100000 * f + i), key := JU yzV, fid := ylT yzV, hint := yhR ytv }
theorem tok : TOk C Tryz.prog := ym8 (l := ynF) rfl (by kernel_rfl)
theorem yew : Tryz.prog.follows .mixedOrders = true := by kernel_rfl
abbrev QF := Qf C Tryz.prog
abbrev EV (l : List QF) (lp : Lp) (n : Nat) (fn : Func) (sg : Sig) (ins outs : List Ty) (F : z8 ins → Option (z8 outs)) : Prop := ∀ x, yfJ C (yjo l) lp n fn (VZ fn) sg ins outs x = F x
abbrev LF (l : List QF) (lp : Lp) (n i : Nat) (fn : Func) (k : Nat) {T V : Type} (e : T → St) (g : Gk T) (inj : V → T) : Prop := LC C (yjo l) lp n i (cL fn k) e g inj
abbrev LK (l : List QF) (lp : Lp) (n : Nat) (fn : Func) (k : Nat) : Prop := y2K C (yjo l) lp n (cL fn k)
theorem okN {l : List QF} {lp : Lp} {f g : Nat} {fn : Func} {sg : Sig} {n : Nat} (hfn : Tryz.prog.funcs[g]? = some fn) (hl : ym7 (y2K C (yjo l) lp f) (jn (VZ fn)) n 0) {F : z8 (C.ins f) → Option (z8 (C.outs f))} (hF : ∀ x, yfJ C (yjo l) lp f fn (VZ fn) sg (C.ins f) (C.outs f) x = F x) (hsig : C.sig f = some sg := by kernel_rfl) (hB : fnB C f g fn sg n = true := by kernel_rfl) : jY C Tryz.prog f F := ysy tok yew hfn hsig hB hl hF
theorem lkN {call : C.Sem} {lp : Lp} {f i : Nat} {c : Code} {T : Type} {e : T → St} {u : St → Option T} {g : Gk T} (hu : ∀ s t, u s = some t → e t = s) (hc : LC C call lp f i c e @g (fun t => t)) (hl : laB C f i c = true := by kernel_rfl) (hb : LB lp i u @g := by intro R κ s; kernel_rfl) : y2K C call lp f c := ygg hl hu hb hc
end Go.Proofs.YtgediecndaheiaaGreat.XS
