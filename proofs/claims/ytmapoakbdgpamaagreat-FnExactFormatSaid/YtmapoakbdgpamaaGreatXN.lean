/- The context of the evaluator for N: types, signatures, slots that live at loops; by a program (dec.py). No condition. -/
import Derived.Test.YtmapoakbdgpamaaGreatProg
import Derived.Test.YtmapoakbdgpamaaGreatRRow
import Derived.KernelRfl
set_option linter.all false
namespace Go.Proofs.YtmapoakbdgpamaaGreat.XN
open Go.Proofs.YtmapoakbdgpamaaGreat.R
set_option maxRecDepth 100000
abbrev yu : List Ty := [(.int .i64)]
abbrev yx : Type := Int
abbrev yiO : yx := J2 yu
abbrev zI (xs : List yx) (i : Int) : yx := rdE yu xs i
def zn (x : List yx) : A := .val (.sl 3 yu) x
abbrev yF : List Ty := [(.int .u8)]
abbrev z7 : Type := Int
abbrev y9O (xs : List z7) (i : Int) : z7 := rdE yF xs i
def ydw (x : List z7) : A := .val (.sl 5 yF) x
abbrev yj : List Ty := [(.int .i64), (.int .i64), (.int .i64), (.int .i64), (.int .i64)]
abbrev ya : Type := Int × Int × Int × Int × Int
abbrev zG : ya := J2 yj
abbrev y0 (xs : List ya) (i : Int) : ya := rdE yj xs i
def Vx (x : List ya) : A := .val (.sl 106 yj) x
abbrev yr : List Ty := [(.sl 106 yj)]
abbrev y9 : Type := List ya
abbrev z5 : y9 := J2 yr
abbrev yh (xs : List y9) (i : Int) : y9 := rdE yr xs i
def zH (x : List y9) : A := .val (.sl 100 yr) x
abbrev yk : List Ty := [(.sl 100 yr)]
abbrev y8 : Type := List y9
abbrev zo : y8 := J2 yk
abbrev yn (xs : List y8) (i : Int) : y8 := rdE yk xs i
def yH (x : List y8) : A := .val (.sl 98 yk) x
abbrev yG : List Ty := [(.int .i64), (.int .i64)]
abbrev yq : Type := Int × Int
abbrev kC : yq := J2 yG
abbrev z8 (xs : List yq) (i : Int) : yq := rdE yG xs i
def zv (x : List yq) : A := .val (.sl 89 yG) x
abbrev yl : List Ty := [(.int .i64), .bool, (.int .i64)]
abbrev yb : Type := Int × Bool × Int
abbrev JZ : yb := J2 yl
abbrev ym (xs : List yb) (i : Int) : yb := rdE yl xs i
def yV (x : List yb) : A := .val (.sl 95 yl) x
abbrev yU : List Ty := [.str, (.int .i64), (.int .i64), .bool]
abbrev yD : Type := ByteArray × Int × Int × Bool
abbrev qa : yD := J2 yU
abbrev yo (xs : List yD) (i : Int) : yD := rdE yU xs i
def Y4 (x : List yD) : A := .val (.sl 91 yU) x
abbrev yg : List Ty := [(.sl 5 yF)]
abbrev y7 : Type := List z7
abbrev Kf : y7 := J2 yg
abbrev zL (xs : List y7) (i : Int) : y7 := rdE yg xs i
def Yt (x : List y7) : A := .val (.sl 32 yg) x
abbrev zc : List Ty := [(.int .i64), (.sl 5 yF)]
abbrev yQ : Type := Int × List z7
abbrev y15 : yQ := J2 zc
abbrev yW (xs : List yQ) (i : Int) : yQ := rdE zc xs i
def QS (x : List yQ) : A := .val (.sl 186 zc) x
abbrev y3w : List Ty := [.bool]
abbrev yba : Type := Bool
abbrev ydx : yba := J2 y3w
abbrev ydy (xs : List yba) (i : Int) : yba := rdE y3w xs i
abbrev Qz0 : Type := Int × List y9
abbrev qz0 : List Ty := [(.int .i64), (.sl 100 yr)]
abbrev Qz1 : Type := Int × List y9 × List y9
abbrev qz1 : List Ty := [(.int .i64), (.sl 100 yr), (.sl 100 yr)]
abbrev Qz2 : Type := Int × List yx × List y8 × List yx
abbrev qz2 : List Ty := [(.int .i64), (.sl 3 yu), (.sl 98 yk), (.sl 3 yu)]
abbrev Qz3 : Type := Int × List yx × List y8 × List yx × List y8
abbrev qz3 : List Ty := [(.int .i64), (.sl 3 yu), (.sl 98 yk), (.sl 3 yu), (.sl 98 yk)]
abbrev Qz4 : Type := List yx × List y8
abbrev qz4 : List Ty := [(.sl 3 yu), (.sl 98 yk)]
abbrev Qz5 : Type := List yx × List y8 × List yq × List yb × List yD × Int
abbrev qz5 : List Ty := [(.sl 3 yu), (.sl 98 yk), (.sl 89 yG), (.sl 95 yl), (.sl 91 yU), (.int .i64)]
abbrev Qz6 : Type := Int × List y7 × List yQ × Int × Bool × Int × Bool × Int × Bool
abbrev qz6 : List Ty := [(.int .i64), (.sl 32 yg), (.sl 186 zc), (.int .i64), .bool, (.int .i64), .bool, (.int .i64), .bool]
abbrev Qz7 : Type := Int × List y7 × List yQ × Int × Bool × Int × Bool × Int × Bool × List y7
abbrev qz7 : List Ty := [(.int .i64), (.sl 32 yg), (.sl 186 zc), (.int .i64), .bool, (.int .i64), .bool, (.int .i64), .bool, (.sl 32 yg)]
abbrev Qz8 : Type := List y7 × List yQ × Int × Bool × Int × Bool × Int × Bool
abbrev Qz9 : Type := List y7 × List yQ × Int × Bool × Int × Bool × Int × Bool × List y7
abbrev yiP : Type := Int × List y7 × List yQ × Int × Bool × Int × Bool × Int × Bool × List yQ
abbrev yx5 : List Ty := [(.int .i64), (.sl 32 yg), (.sl 186 zc), (.int .i64), .bool, (.int .i64), .bool, (.int .i64), .bool, (.sl 186 zc)]
abbrev yfB : Type := Int × List y7 × List yQ × Int × Bool × Int × Bool × Int × Bool × List y7 × List yQ
abbrev yx6 : List Ty := [(.int .i64), (.sl 32 yg), (.sl 186 zc), (.int .i64), .bool, (.int .i64), .bool, (.int .i64), .bool, (.sl 32 yg), (.sl 186 zc)]
abbrev ysK : Type := Int × Bool × Int × Bool
abbrev yx7 : Type := Int × Bool × Int × Bool × List yQ
abbrev ysL : Type := Int × Bool × Int × Bool × List y7
abbrev ysh : Type := Int × Bool × Int × Bool × List y7 × List yQ
abbrev y9d : Type := List y7 × List yQ × Int × Bool
abbrev QT : List Ty := [(.sl 32 yg), (.sl 186 zc), (.int .i64), .bool]
abbrev y7K : Type := List y7 × List yQ × Int × Bool × List yx × List y8 × List yq × List yb × List yD × Int × Int × Int × Int
abbrev qb : List Ty := [(.sl 32 yg), (.sl 186 zc), (.int .i64), .bool, (.sl 3 yu), (.sl 98 yk), (.sl 89 yG), (.sl 95 yl), (.sl 91 yU), (.int .i64), (.int .i64), (.int .i64), (.int .i64)]
abbrev ysM : Type := Int × Int × Int
abbrev ysN : List Ty := [(.int .i64), (.int .i64), (.int .i64)]
abbrev ysi : Type := List ya × Int × List ya
abbrev ysj : List Ty := [(.sl 106 yj), (.int .i64), (.sl 106 yj)]
abbrev yln : Type := Int × Int × Int × Int × Int × Int × Int × Int × Int × Int
abbrev ylo : List Ty := [(.int .i64), (.int .i64), (.int .i64), (.int .i64), (.int .i64), (.int .i64), (.int .i64), (.int .i64), (.int .i64), (.int .i64)]
abbrev yx8 : Type := List ya × Bool × Int × Int × Int × Int × Int × Int × List ya
abbrev yx9 : List Ty := [(.sl 106 yj), .bool, (.int .i64), (.int .i64), (.int .i64), (.int .i64), (.int .i64), (.int .i64), (.sl 106 yj)]
abbrev yxa : Type := Bool × Int × Int × Int × Int × Int × List ya
abbrev yxb : Type := List ya × Int × Int × Int × Int × Int
abbrev yxc : List Ty := [(.sl 106 yj), (.int .i64), (.int .i64), (.int .i64), (.int .i64), (.int .i64)]
abbrev ysO : Type := List ya × List ya
abbrev ysP : List Ty := [(.sl 106 yj), (.sl 106 yj)]
abbrev yxd : Type := Int × List y9 × List ya
abbrev yxe : List Ty := [(.int .i64), (.sl 100 yr), (.sl 106 yj)]
abbrev yxf : Type := Int × List yx × List y8 × List ya
abbrev yxg : List Ty := [(.int .i64), (.sl 3 yu), (.sl 98 yk), (.sl 106 yj)]
abbrev y9e : Type := Int × Int
abbrev yh6 : List Ty := [(.int .i64), (.int .i64)]
abbrev yiQ : Type := Int × Int × Int × Int × Int
abbrev y16 : List Ty := [(.int .i64), (.int .i64), (.int .i64), (.int .i64), (.int .i64)]
abbrev ykX : Type := List ya × Int
abbrev ykY : List Ty := [(.sl 106 yj), (.int .i64)]
abbrev yxh : Type := List ya × Bool
abbrev ysk : Type := Int × Int × List y9
abbrev ysl : List Ty := [(.int .i64), (.int .i64), (.sl 100 yr)]
abbrev yzv : Type := Bool × List y9
abbrev yxi : Type := Int × Int × Int × List yx × List y8 × List y9
abbrev yxj : List Ty := [(.int .i64), (.int .i64), (.int .i64), (.sl 3 yu), (.sl 98 yk), (.sl 100 yr)]
abbrev yzw : Type := Int × Bool × Int × List yx × List y8 × List y9
abbrev ysQ : Type := Int × Int × List yx × List y8 × List y9
abbrev yxk : List Ty := [(.int .i64), (.int .i64), (.sl 3 yu), (.sl 98 yk), (.sl 100 yr)]
abbrev ysm : Type := List yx × List y8 × Int
abbrev ysn : List Ty := [(.sl 3 yu), (.sl 98 yk), (.int .i64)]
abbrev ysR : Type := Int × List yx × List y8
abbrev ysS : List Ty := [(.int .i64), (.sl 3 yu), (.sl 98 yk)]
abbrev yzx : Type := Bool × List yx × List y8
abbrev yso : Type := List yq × Int × Int
abbrev ysp : List Ty := [(.sl 89 yG), (.int .i64), (.int .i64)]
abbrev yfC : Type := List yq × Int
abbrev yfD : List Ty := [(.sl 89 yG), (.int .i64)]
abbrev yxl : Type := List yq × Bool
abbrev ysq : Type := List yb × Int
abbrev ysr : List Ty := [(.sl 95 yl), (.int .i64)]
abbrev yxm : Type := List yb × Bool
abbrev yss : Type := ByteArray × Int
abbrev yst : List Ty := [.str, (.int .i64)]
abbrev yxn : Type := ByteArray × Bool
abbrev yxo : Type := List yq × Int × Int × List yx
abbrev yxp : List Ty := [(.sl 89 yG), (.int .i64), (.int .i64), (.sl 3 yu)]
abbrev yxq : Type := Int × Int × List yx × List y8 × List yq × List yb × List yD × Int × ByteArray × Int × Int × Bool
abbrev yxr : List Ty := [(.int .i64), (.int .i64), (.sl 3 yu), (.sl 98 yk), (.sl 89 yG), (.sl 95 yl), (.sl 91 yU), (.int .i64), .str, (.int .i64), (.int .i64), .bool]
abbrev ysT : Type := Bool × Int × List yx × List y8 × List yq × List yb × List yD × Int
abbrev yiR : Type := Int × List yx × List y8 × List yq × List yb × List yD × Int
abbrev ysu : List Ty := [(.int .i64), (.sl 3 yu), (.sl 98 yk), (.sl 89 yG), (.sl 95 yl), (.sl 91 yU), (.int .i64)]
abbrev ysv : Type := Bool × List yx × List y8 × List yq × List yb × List yD × Int
abbrev ykZ : Type := List yb × Int × Int
abbrev yl0 : List Ty := [(.sl 95 yl), (.int .i64), (.int .i64)]
abbrev yxs : Type := Int × Bool
abbrev yxt : List Ty := [(.int .i64), .bool]
abbrev yxu : Type := Int × Int × Int × List yx × List y8 × List yq × List yb × List yD × Int × List ya
abbrev yxv : List Ty := [(.int .i64), (.int .i64), (.int .i64), (.sl 3 yu), (.sl 98 yk), (.sl 89 yG), (.sl 95 yl), (.sl 91 yU), (.int .i64), (.sl 106 yj)]
abbrev yzy : Type := Bool × Int × Int × List yx × List y8 × List yq × List yb × List yD × Int × List ya
abbrev ysU : Type := Int × Int × List yx × List y8 × List yq × List yb × List yD × Int × List ya
abbrev yxw : List Ty := [(.int .i64), (.int .i64), (.sl 3 yu), (.sl 98 yk), (.sl 89 yG), (.sl 95 yl), (.sl 91 yU), (.int .i64), (.sl 106 yj)]
abbrev ysw : Type := Int × List y7 × List yQ × Int × Bool
abbrev ysx : List Ty := [(.int .i64), (.sl 32 yg), (.sl 186 zc), (.int .i64), .bool]
abbrev ysV : Type := Bool × List y7 × List yQ × Int × Bool
abbrev yl1 : Type := List z7 × Int
abbrev yl2 : List Ty := [(.sl 5 yF), (.int .i64)]
abbrev yxx : Type := List z7 × ByteArray
abbrev yxy : List Ty := [(.sl 5 yF), .str]
abbrev yxz : Type := List z7 × Int × Int × Int × Int × Int
abbrev yxA : List Ty := [(.sl 5 yF), (.int .i64), (.int .i64), (.int .i64), (.int .i64), (.int .i64)]
abbrev yxB : Type := List ya × Int × List z7
abbrev yxC : List Ty := [(.sl 106 yj), (.int .i64), (.sl 5 yF)]
abbrev yzz : Type := List z7 × List ya
abbrev yzA : List Ty := [(.sl 5 yF), (.sl 106 yj)]
abbrev yfE : Type := Int × List yx × List y8 × List yq × List yb × List yD × Int × List z7
abbrev yh7 : List Ty := [(.int .i64), (.sl 3 yu), (.sl 98 yk), (.sl 89 yG), (.sl 95 yl), (.sl 91 yU), (.int .i64), (.sl 5 yF)]
abbrev yl3 : Type := List yx × List y8 × List yq × List yb × List yD × Int × List z7
abbrev yxD : Type := Int × Int × List yx × List y8 × List yq × List yb × List yD × Int × List z7
abbrev yxE : List Ty := [(.int .i64), (.int .i64), (.sl 3 yu), (.sl 98 yk), (.sl 89 yG), (.sl 95 yl), (.sl 91 yU), (.int .i64), (.sl 5 yF)]
abbrev yxF : Type := List z7 × Int × Int × Int
abbrev yxG : List Ty := [(.sl 5 yF), (.int .i64), (.int .i64), (.int .i64)]
abbrev ylp : Type := List z7 × Int × Int
abbrev ysy : List Ty := [(.sl 5 yF), (.int .i64), (.int .i64)]
abbrev yzB : Type := Bool × List y7 × List yQ × Int × Bool × List yx × List y8 × List yq × List yb × List yD × Int × Int × Int × Int
abbrev yzC : List Ty := [.bool, (.sl 32 yg), (.sl 186 zc), (.int .i64), .bool, (.sl 3 yu), (.sl 98 yk), (.sl 89 yG), (.sl 95 yl), (.sl 91 yU), (.int .i64), (.int .i64), (.int .i64), (.int .i64)]
abbrev yxH : Type := Int × Int × Bool × Int × Int × Int × Int × List y7 × List yQ × List yx × List y8 × List yq × List yb × List yD
abbrev yxI : List Ty := [(.int .i64), (.int .i64), .bool, (.int .i64), (.int .i64), (.int .i64), (.int .i64), (.sl 32 yg), (.sl 186 zc), (.sl 3 yu), (.sl 98 yk), (.sl 89 yG), (.sl 95 yl), (.sl 91 yU)]
abbrev yxJ : Type := Int × Bool × Int × Int × Int × Int × List y7 × List yQ × List yx × List y8 × List yq × List yb × List yD
abbrev yxK : Type := List y7 × List yQ × Int × Bool × List yx × List y8 × List yq × List yb × List yD × Int × Int × Int × Int × Int × List z7
abbrev yxL : List Ty := [(.sl 32 yg), (.sl 186 zc), (.int .i64), .bool, (.sl 3 yu), (.sl 98 yk), (.sl 89 yG), (.sl 95 yl), (.sl 91 yU), (.int .i64), (.int .i64), (.int .i64), (.int .i64), (.int .i64), (.sl 5 yF)]
abbrev yxM : Type := Int × List z7 × Int × Int × Bool × Int × Int × Int × Int × List y7 × List yQ × List yx × List y8 × List yq × List yb × List yD
abbrev yxN : List Ty := [(.int .i64), (.sl 5 yF), (.int .i64), (.int .i64), .bool, (.int .i64), (.int .i64), (.int .i64), (.int .i64), (.sl 32 yg), (.sl 186 zc), (.sl 3 yu), (.sl 98 yk), (.sl 89 yG), (.sl 95 yl), (.sl 91 yU)]
abbrev ylq : Type := Int × Int × Int × Bool × Int × Bool
abbrev yxO : List Ty := [(.int .i64), (.int .i64), (.int .i64), .bool, (.int .i64), .bool]
abbrev ylr : Type := Int × Int × Int × Bool × Int × Bool × List y7
abbrev yxP : List Ty := [(.int .i64), (.int .i64), (.int .i64), .bool, (.int .i64), .bool, (.sl 32 yg)]
abbrev yxQ : Type := List ya × List ya × Int × Int
abbrev yxR : List Ty := [(.sl 106 yj), (.sl 106 yj), (.int .i64), (.int .i64)]
abbrev yxS : Type := Int × List y9 × Int × Int × List y9
abbrev yxT : List Ty := [(.int .i64), (.sl 100 yr), (.int .i64), (.int .i64), (.sl 100 yr)]
abbrev yzD : Type := Bool × Int × List y9
abbrev yxU : Type := Int × List y9 × Int × Int × List ya × Int × Int × List yx × List y8
abbrev yxV : List Ty := [(.int .i64), (.sl 100 yr), (.int .i64), (.int .i64), (.sl 106 yj), (.int .i64), (.int .i64), (.sl 3 yu), (.sl 98 yk)]
abbrev yzE : Type := Int × Bool × List y9 × Int × Int × List yx × List y8
abbrev ysW : Type := Int × List y9 × Int × Int × List yx × List y8
abbrev yxW : List Ty := [(.int .i64), (.sl 100 yr), (.int .i64), (.int .i64), (.sl 3 yu), (.sl 98 yk)]
abbrev yxX : Type := Bool × List ya × Int × Int × Int × Int × Int × Int × Int × List ya
abbrev yxY : List Ty := [.bool, (.sl 106 yj), (.int .i64), (.int .i64), (.int .i64), (.int .i64), (.int .i64), (.int .i64), (.int .i64), (.sl 106 yj)]
abbrev ysz : Type := List ya × Int × Int × List ya
abbrev ysA : List Ty := [(.sl 106 yj), (.int .i64), (.int .i64), (.sl 106 yj)]
abbrev yxZ : Type := List y9 × Int × Int × List ya
abbrev yy0 : List Ty := [(.sl 100 yr), (.int .i64), (.int .i64), (.sl 106 yj)]
abbrev yy1 : Type := Int × List y8 × Int × Int × List yx × List y8
abbrev yy2 : List Ty := [(.int .i64), (.sl 98 yk), (.int .i64), (.int .i64), (.sl 3 yu), (.sl 98 yk)]
abbrev yy3 : Type := Bool × Int
abbrev yzF : List Ty := [.bool, (.int .i64)]
abbrev yy4 : Type := List yq × Int × Int × Int
abbrev yy5 : List Ty := [(.sl 89 yG), (.int .i64), (.int .i64), (.int .i64)]
abbrev yy6 : Type := List yq × List yq × Int × Int
abbrev yy7 : List Ty := [(.sl 89 yG), (.sl 89 yG), (.int .i64), (.int .i64)]
abbrev yy8 : Type := List yb × List yb × Int × Int
abbrev yy9 : List Ty := [(.sl 95 yl), (.sl 95 yl), (.int .i64), (.int .i64)]
abbrev yya : Type := Int × List yq × Int × Int × List yx
abbrev yyb : List Ty := [(.int .i64), (.sl 89 yG), (.int .i64), (.int .i64), (.sl 3 yu)]
abbrev yyc : Type := ByteArray × Int × Int × Bool × ByteArray × Int × Int × Bool
abbrev yyd : List Ty := [.str, (.int .i64), (.int .i64), .bool, .str, (.int .i64), (.int .i64), .bool]
abbrev yye : Type := Bool × ByteArray × Int × Int × Bool
abbrev yyf : List Ty := [.bool, .str, (.int .i64), (.int .i64), .bool]
abbrev yyg : Type := List yD × Int × Int × ByteArray × Int × Int × Bool
abbrev yyh : List Ty := [(.sl 91 yU), (.int .i64), (.int .i64), .str, (.int .i64), (.int .i64), .bool]
abbrev yyi : Type := Int × ByteArray × Int × Int × Bool
abbrev yzG : List Ty := [(.int .i64), .str, (.int .i64), (.int .i64), .bool]
abbrev yzH : Type := ByteArray × Int × Int × Bool
abbrev yl4 : List Ty := [.str, (.int .i64), (.int .i64), .bool]
abbrev yyj : Type := List yD × ByteArray × Int × Int × Bool
abbrev yyk : List Ty := [(.sl 91 yU), .str, (.int .i64), (.int .i64), .bool]
abbrev yyl : Type := List yD × Int × Int × List yx × List y8 × List yq × List yb × List yD × Int
abbrev yym : List Ty := [(.sl 91 yU), (.int .i64), (.int .i64), (.sl 3 yu), (.sl 98 yk), (.sl 89 yG), (.sl 95 yl), (.sl 91 yU), (.int .i64)]
abbrev yyn : Type := List y8 × Int × Int × List ya
abbrev yyo : List Ty := [(.sl 98 yk), (.int .i64), (.int .i64), (.sl 106 yj)]
abbrev yyp : Type := Int × List yb × Int × Int
abbrev yyq : List Ty := [(.int .i64), (.sl 95 yl), (.int .i64), (.int .i64)]
abbrev yyr : Type := Int × Int × Int × List yx × List y8 × List yq × List yb × List yD × Int × List yba × List ya
abbrev yys : List Ty := [(.int .i64), (.int .i64), (.int .i64), (.sl 3 yu), (.sl 98 yk), (.sl 89 yG), (.sl 95 yl), (.sl 91 yU), (.int .i64), (.sl 4 y3w), (.sl 106 yj)]
abbrev yls : Type := List yq × Int × Int × List yx × List y8 × List yq × List yb × List yD × Int
abbrev ylt : List Ty := [(.sl 89 yG), (.int .i64), (.int .i64), (.sl 3 yu), (.sl 98 yk), (.sl 89 yG), (.sl 95 yl), (.sl 91 yU), (.int .i64)]
abbrev ylu : Type := List y7 × Int × Int × List z7
abbrev ylv : List Ty := [(.sl 32 yg), (.int .i64), (.int .i64), (.sl 5 yF)]
abbrev ylw : Type := List yq × Int × Int × List yx × List y8 × List yq × List yb × List yD × Int × List z7
abbrev ylx : List Ty := [(.sl 89 yG), (.int .i64), (.int .i64), (.sl 3 yu), (.sl 98 yk), (.sl 89 yG), (.sl 95 yl), (.sl 91 yU), (.int .i64), (.sl 5 yF)]
abbrev yly : Type := List yD × Int × Int × List yx × List y8 × List yq × List yb × List yD × Int × List z7
abbrev ylz : List Ty := [(.sl 91 yU), (.int .i64), (.int .i64), (.sl 3 yu), (.sl 98 yk), (.sl 89 yG), (.sl 95 yl), (.sl 91 yU), (.int .i64), (.sl 5 yF)]
abbrev ylA : Type := List yb × Int × Int × List yx × List y8 × List yq × List yb × List yD × Int × List z7
abbrev ylB : List Ty := [(.sl 95 yl), (.int .i64), (.int .i64), (.sl 3 yu), (.sl 98 yk), (.sl 89 yG), (.sl 95 yl), (.sl 91 yU), (.int .i64), (.sl 5 yF)]
abbrev ylC : Type := List y8 × Int × Int × List y9 × Int × Int × List ya × Int × Int × List yx × List y8 × List yq × List yb × List yD × Int × List z7
abbrev ylD : List Ty := [(.sl 98 yk), (.int .i64), (.int .i64), (.sl 100 yr), (.int .i64), (.int .i64), (.sl 106 yj), (.int .i64), (.int .i64), (.sl 3 yu), (.sl 98 yk), (.sl 89 yG), (.sl 95 yl), (.sl 91 yU), (.int .i64), (.sl 5 yF)]
abbrev yiS : Type := List y8 × Int × Int × List y9 × Int × Int × List yx × List y8 × List yq × List yb × List yD × Int × List z7
abbrev ylE : List Ty := [(.sl 98 yk), (.int .i64), (.int .i64), (.sl 100 yr), (.int .i64), (.int .i64), (.sl 3 yu), (.sl 98 yk), (.sl 89 yG), (.sl 95 yl), (.sl 91 yU), (.int .i64), (.sl 5 yF)]
abbrev yiT : Type := List y8 × Int × Int × List yx × List y8 × List yq × List yb × List yD × Int × List z7
abbrev ylF : List Ty := [(.sl 98 yk), (.int .i64), (.int .i64), (.sl 3 yu), (.sl 98 yk), (.sl 89 yG), (.sl 95 yl), (.sl 91 yU), (.int .i64), (.sl 5 yF)]
abbrev ydz : Type := List y7 × Int × Int × List y7 × List yQ × Int × Bool × Int × Bool × Int × Bool
abbrev ylG : List Ty := [(.sl 32 yg), (.int .i64), (.int .i64), (.sl 32 yg), (.sl 186 zc), (.int .i64), .bool, (.int .i64), .bool, (.int .i64), .bool]
abbrev ydA : Type := List y7 × Int × Int × List y7 × List yQ × Int × Bool × Int × Bool × Int × Bool × List y7
abbrev ylH : List Ty := [(.sl 32 yg), (.int .i64), (.int .i64), (.sl 32 yg), (.sl 186 zc), (.int .i64), .bool, (.int .i64), .bool, (.int .i64), .bool, (.sl 32 yg)]
abbrev ydB : Type := List yQ × Int × Int × Int × Bool × Int × Bool
abbrev ylI : List Ty := [(.sl 186 zc), (.int .i64), (.int .i64), (.int .i64), .bool, (.int .i64), .bool]
abbrev y9P : Type := List yQ × Int × Int × Int × Bool × Int × Bool × List yQ
abbrev ylJ : List Ty := [(.sl 186 zc), (.int .i64), (.int .i64), (.int .i64), .bool, (.int .i64), .bool, (.sl 186 zc)]
abbrev y5S : Type := List yQ × Int × Int × Int × Bool × Int × Bool × List y7
abbrev ylK : List Ty := [(.sl 186 zc), (.int .i64), (.int .i64), (.int .i64), .bool, (.int .i64), .bool, (.sl 32 yg)]
abbrev y5T : Type := List yQ × Int × Int × Int × Bool × Int × Bool × List y7 × List yQ
abbrev ylL : List Ty := [(.sl 186 zc), (.int .i64), (.int .i64), (.int .i64), .bool, (.int .i64), .bool, (.sl 32 yg), (.sl 186 zc)]
abbrev y9Q : Type := List y9 × Int × Int
abbrev yfF : List Ty := [(.sl 100 yr), (.int .i64), (.int .i64)]
abbrev ydC : Type := List y9 × Int × Int × List y9
abbrev ylM : List Ty := [(.sl 100 yr), (.int .i64), (.int .i64), (.sl 100 yr)]
abbrev ydD : Type := List y8 × Int × Int × List yx
abbrev ylN : List Ty := [(.sl 98 yk), (.int .i64), (.int .i64), (.sl 3 yu)]
abbrev ydE : Type := List y8 × Int × Int × List yx × List y8
abbrev ylO : List Ty := [(.sl 98 yk), (.int .i64), (.int .i64), (.sl 3 yu), (.sl 98 yk)]
abbrev ylP : Type := List y7 × Int × Int × List y7 × List yQ × Int × Bool
abbrev ylQ : List Ty := [(.sl 32 yg), (.int .i64), (.int .i64), (.sl 32 yg), (.sl 186 zc), (.int .i64), .bool]
abbrev ylR : Type := List yQ × Int × Int × List y7 × List yQ × Int × Bool
abbrev ylS : List Ty := [(.sl 186 zc), (.int .i64), (.int .i64), (.sl 32 yg), (.sl 186 zc), (.int .i64), .bool]
abbrev ysX : Type := List y7 × List yQ × Int × Bool × Bool
abbrev ysY : List Ty := [(.sl 32 yg), (.sl 186 zc), (.int .i64), .bool, .bool]
abbrev ydF : Type := Int × Int × Int × Bool × Int × Bool × List yQ × List y7
abbrev ylT : List Ty := [(.int .i64), (.int .i64), (.int .i64), .bool, (.int .i64), .bool, (.sl 186 zc), (.sl 32 yg)]
abbrev ydG : Type := List yQ × Int × Int × Int × Bool × List yQ × Int × Bool × List y7
abbrev ylU : List Ty := [(.sl 186 zc), (.int .i64), (.int .i64), (.int .i64), .bool, (.sl 186 zc), (.int .i64), .bool, (.sl 32 yg)]
abbrev ysZ : Type := Int × Bool × List yQ × Int × Bool × List y7
abbrev yiU : Type := List y7 × List yQ × Int × Bool × List yx × List y8 × List yq × List yb × List yD × Int × Int × Int × Int × Int
abbrev yiV : List Ty := [(.sl 32 yg), (.sl 186 zc), (.int .i64), .bool, (.sl 3 yu), (.sl 98 yk), (.sl 89 yG), (.sl 95 yl), (.sl 91 yU), (.int .i64), (.int .i64), (.int .i64), (.int .i64), (.int .i64)]
abbrev ylV : Type := Int × List z7 × Int × Int × Int
abbrev ylW : List Ty := [(.int .i64), (.sl 5 yF), (.int .i64), (.int .i64), (.int .i64)]
abbrev yiW : Type := Int × List z7 × Int × Int
abbrev ylX : List Ty := [(.int .i64), (.sl 5 yF), (.int .i64), (.int .i64)]
abbrev ylY : Type := List y7 × List yQ × Int × Bool × Int × List z7
abbrev ylZ : List Ty := [(.sl 32 yg), (.sl 186 zc), (.int .i64), .bool, (.int .i64), (.sl 5 yF)]
abbrev ym0 : Type := Int × List z7 × Int × Int × Bool × Int × Bool × List y7 × List yQ
abbrev ym1 : List Ty := [(.int .i64), (.sl 5 yF), (.int .i64), (.int .i64), .bool, (.int .i64), .bool, (.sl 32 yg), (.sl 186 zc)]
abbrev ym2 : Type := List yx × List yx × Int
abbrev ym3 : List Ty := [(.sl 3 yu), (.sl 3 yu), (.int .i64)]
abbrev yt0 : Type := List yx × List yx
abbrev yt1 : List Ty := [(.sl 3 yu), (.sl 3 yu)]
abbrev ym4 : Type := List ya × List ya × Int
abbrev ym5 : List Ty := [(.sl 106 yj), (.sl 106 yj), (.int .i64)]
abbrev ym6 : Type := List y9 × List y9 × Int
abbrev ym7 : List Ty := [(.sl 100 yr), (.sl 100 yr), (.int .i64)]
abbrev ym8 : Type := List y9 × List y9
abbrev ym9 : List Ty := [(.sl 100 yr), (.sl 100 yr)]
abbrev yma : Type := List y8 × List y8 × Int
abbrev ymb : List Ty := [(.sl 98 yk), (.sl 98 yk), (.int .i64)]
abbrev yt2 : Type := List y8 × List y8
abbrev yt3 : List Ty := [(.sl 98 yk), (.sl 98 yk)]
abbrev yt4 : Type := List yx × List y8 × List yx × List y8
abbrev yt5 : List Ty := [(.sl 3 yu), (.sl 98 yk), (.sl 3 yu), (.sl 98 yk)]
abbrev yt6 : Type := Int × Int × Int × Int
abbrev yt7 : List Ty := [(.int .i64), (.int .i64), (.int .i64), (.int .i64)]
abbrev ymc : Type := List yq × List yq × Int
abbrev ymd : List Ty := [(.sl 89 yG), (.sl 89 yG), (.int .i64)]
abbrev yt8 : Type := List yq × List yq
abbrev yt9 : List Ty := [(.sl 89 yG), (.sl 89 yG)]
abbrev yta : Type := Int × Bool × Int × Int × Bool × Int
abbrev ytb : List Ty := [(.int .i64), .bool, (.int .i64), (.int .i64), .bool, (.int .i64)]
abbrev yme : Type := List yb × List yb × Int
abbrev ymf : List Ty := [(.sl 95 yl), (.sl 95 yl), (.int .i64)]
abbrev ytc : Type := List yb × List yb
abbrev ytd : List Ty := [(.sl 95 yl), (.sl 95 yl)]
abbrev ymg : Type := List yD × List yD × Int
abbrev ymh : List Ty := [(.sl 91 yU), (.sl 91 yU), (.int .i64)]
abbrev yte : Type := List yD × List yD
abbrev ytf : List Ty := [(.sl 91 yU), (.sl 91 yU)]
abbrev ytg : Type := List yx × List y8 × List yq × List yb × List yD × Int × List yx × List y8 × List yq × List yb × List yD × Int
abbrev yth : List Ty := [(.sl 3 yu), (.sl 98 yk), (.sl 89 yG), (.sl 95 yl), (.sl 91 yU), (.int .i64), (.sl 3 yu), (.sl 98 yk), (.sl 89 yG), (.sl 95 yl), (.sl 91 yU), (.int .i64)]
abbrev ymi : Type := List z7 × List z7 × Int
abbrev ymj : List Ty := [(.sl 5 yF), (.sl 5 yF), (.int .i64)]
abbrev yti : Type := List z7 × List z7
abbrev ytj : List Ty := [(.sl 5 yF), (.sl 5 yF)]
abbrev ymk : Type := List y7 × List y7 × Int
abbrev yml : List Ty := [(.sl 32 yg), (.sl 32 yg), (.int .i64)]
abbrev ytk : Type := List y7 × List y7
abbrev ytl : List Ty := [(.sl 32 yg), (.sl 32 yg)]
abbrev ytm : Type := Int × List z7 × Int × List z7
abbrev ytn : List Ty := [(.int .i64), (.sl 5 yF), (.int .i64), (.sl 5 yF)]
abbrev ymm : Type := List yQ × List yQ × Int
abbrev ymn : List Ty := [(.sl 186 zc), (.sl 186 zc), (.int .i64)]
abbrev yto : Type := List yQ × List yQ
abbrev ytp : List Ty := [(.sl 186 zc), (.sl 186 zc)]
abbrev ytq : Type := List y7 × List yQ × Int × Bool × List y7 × List yQ × Int × Bool
abbrev ytr : List Ty := [(.sl 32 yg), (.sl 186 zc), (.int .i64), .bool, (.sl 32 yg), (.sl 186 zc), (.int .i64), .bool]
abbrev yts : Type := List y7 × List yQ × Int × Bool × List yx × List y8 × List yq × List yb × List yD × Int × Int × Int × Int × List y7 × List yQ × Int × Bool × List yx × List y8 × List yq × List yb × List yD × Int × Int × Int × Int
abbrev ytt : List Ty := [(.sl 32 yg), (.sl 186 zc), (.int .i64), .bool, (.sl 3 yu), (.sl 98 yk), (.sl 89 yG), (.sl 95 yl), (.sl 91 yU), (.int .i64), (.int .i64), (.int .i64), (.int .i64), (.sl 32 yg), (.sl 186 zc), (.int .i64), .bool, (.sl 3 yu), (.sl 98 yk), (.sl 89 yG), (.sl 95 yl), (.sl 91 yU), (.int .i64), (.int .i64), (.int .i64), (.int .i64)]
abbrev ymo : Type := Int × Int × List yx
abbrev ymp : List Ty := [(.int .i64), (.int .i64), (.sl 3 yu)]
abbrev ymq : Type := Int × List yx
abbrev ytu : List Ty := [(.int .i64), (.sl 3 yu)]
abbrev ymr : Type := List yx × Int
abbrev yms : List Ty := [(.sl 3 yu), (.int .i64)]
abbrev ymt : Type := Int × Int × List ya
abbrev ymu : List Ty := [(.int .i64), (.int .i64), (.sl 106 yj)]
abbrev ymv : Type := Int × List ya
abbrev ytv : List Ty := [(.int .i64), (.sl 106 yj)]
abbrev ymw : Type := List y9 × Int
abbrev ymx : List Ty := [(.sl 100 yr), (.int .i64)]
abbrev ymy : Type := Int × Int × List y8
abbrev ymz : List Ty := [(.int .i64), (.int .i64), (.sl 98 yk)]
abbrev ymA : Type := Int × List y8
abbrev ytw : List Ty := [(.int .i64), (.sl 98 yk)]
abbrev ymB : Type := List y8 × Int
abbrev ymC : List Ty := [(.sl 98 yk), (.int .i64)]
abbrev ymD : Type := Int × Int × List yq
abbrev ymE : List Ty := [(.int .i64), (.int .i64), (.sl 89 yG)]
abbrev ymF : Type := Int × List yq
abbrev ytx : List Ty := [(.int .i64), (.sl 89 yG)]
abbrev ymG : Type := Int × Int × List yb
abbrev ymH : List Ty := [(.int .i64), (.int .i64), (.sl 95 yl)]
abbrev ymI : Type := Int × List yb
abbrev yty : List Ty := [(.int .i64), (.sl 95 yl)]
abbrev ymJ : Type := Int × ByteArray
abbrev ymK : List Ty := [(.int .i64), .str]
abbrev ymL : Type := Int × Int × List yD
abbrev ymM : List Ty := [(.int .i64), (.int .i64), (.sl 91 yU)]
abbrev ymN : Type := Int × List yD
abbrev ytz : List Ty := [(.int .i64), (.sl 91 yU)]
abbrev ymO : Type := List yD × Int
abbrev ymP : List Ty := [(.sl 91 yU), (.int .i64)]
abbrev ymQ : Type := List yx × List y8 × List yq × List yb × List yD × Int × Int
abbrev ymR : List Ty := [(.sl 3 yu), (.sl 98 yk), (.sl 89 yG), (.sl 95 yl), (.sl 91 yU), (.int .i64), (.int .i64)]
abbrev ytA : Type := Int × List yx × List y8 × List yq × List yb × List yD
abbrev ytB : List Ty := [(.int .i64), (.sl 3 yu), (.sl 98 yk), (.sl 89 yG), (.sl 95 yl), (.sl 91 yU)]
abbrev ymS : Type := Int × Int × List z7
abbrev ymT : List Ty := [(.int .i64), (.int .i64), (.sl 5 yF)]
abbrev ymU : Type := Int × List z7
abbrev yiX : List Ty := [(.int .i64), (.sl 5 yF)]
abbrev ymV : Type := Int × Int × List y7
abbrev ymW : List Ty := [(.int .i64), (.int .i64), (.sl 32 yg)]
abbrev ymX : Type := Int × List y7
abbrev ytC : List Ty := [(.int .i64), (.sl 32 yg)]
abbrev ymY : Type := List y7 × Int
abbrev ymZ : List Ty := [(.sl 32 yg), (.int .i64)]
abbrev yn0 : Type := Int × Int × List yQ
abbrev yn1 : List Ty := [(.int .i64), (.int .i64), (.sl 186 zc)]
abbrev yn2 : Type := Int × List yQ
abbrev ytD : List Ty := [(.int .i64), (.sl 186 zc)]
abbrev yn3 : Type := List yQ × Int
abbrev yn4 : List Ty := [(.sl 186 zc), (.int .i64)]
abbrev yn5 : Type := List y7 × List yQ × Int × Bool × Int
abbrev yn6 : List Ty := [(.sl 32 yg), (.sl 186 zc), (.int .i64), .bool, (.int .i64)]
abbrev ytE : Type := Int × List y7 × List yQ
abbrev ytF : List Ty := [(.int .i64), (.sl 32 yg), (.sl 186 zc)]
abbrev ytG : Type := Int × List y7 × List yQ × List yx × List y8 × List yq × List yb × List yD
abbrev ytH : List Ty := [(.int .i64), (.sl 32 yg), (.sl 186 zc), (.sl 3 yu), (.sl 98 yk), (.sl 89 yG), (.sl 95 yl), (.sl 91 yU)]
abbrev yn7 : Type := List yx × Int × Int
abbrev yn8 : List Ty := [(.sl 3 yu), (.int .i64), (.int .i64)]
abbrev yn9 : Type := List ya × Int × Int
abbrev yna : List Ty := [(.sl 106 yj), (.int .i64), (.int .i64)]
abbrev ynb : Type := List y8 × Int × Int
abbrev ync : List Ty := [(.sl 98 yk), (.int .i64), (.int .i64)]
abbrev ynd : Type := List yD × Int × Int
abbrev yne : List Ty := [(.sl 91 yU), (.int .i64), (.int .i64)]
abbrev ynf : Type := List y7 × Int × Int
abbrev yng : List Ty := [(.sl 32 yg), (.int .i64), (.int .i64)]
abbrev ynh : Type := List yQ × Int × Int
abbrev yni : List Ty := [(.sl 186 zc), (.int .i64), (.int .i64)]
abbrev ynj : List Ty := [(.int .i64), .bool, (.int .i64)]
def ynk : List (Nat × TI) := [
 (3, .c (.int .i64) 8),
 (4, .c (.bool) 1),
 (5, .c (.int .u8) 1),
 (9, .c (.str) 16),
 (22, .c (.sl 3 yu) 24),
 (32, .c (.sl 5 yF) 24),
 (34, .c (.sl 98 yk) 24),
 (36, .s [(0, 22), (1, 34)] [(.sl 3 yu), (.sl 98 yk)] 48),
 (37, .c (.sl 89 yG) 24),
 (38, .c (.sl 95 yl) 24),
 (39, .c (.sl 91 yU) 24),
 (41, .s [(0, 36), (2, 37), (3, 38), (4, 39), (5, 3)] [(.sl 3 yu), (.sl 98 yk), (.sl 89 yG), (.sl 95 yl), (.sl 91 yU), (.int .i64)] 128),
 (48, .c (.sl 32 yg) 24),
 (54, .s [(0, 3), (1, 3), (2, 3), (3, 3), (4, 3)] [(.int .i64), (.int .i64), (.int .i64), (.int .i64), (.int .i64)] 40),
 (57, .c (.sl 186 zc) 24),
 (59, .s [(0, 48), (1, 57), (2, 3), (3, 4)] [(.sl 32 yg), (.sl 186 zc), (.int .i64), .bool] 64),
 (70, .s [(0, 59), (4, 41), (10, 3), (11, 3), (12, 3)] [(.sl 32 yg), (.sl 186 zc), (.int .i64), .bool, (.sl 3 yu), (.sl 98 yk), (.sl 89 yG), (.sl 95 yl), (.sl 91 yU), (.int .i64), (.int .i64), (.int .i64), (.int .i64)] 216),
 (89, .s [(0, 3), (1, 3)] [(.int .i64), (.int .i64)] 16),
 (91, .s [(0, 9), (1, 3), (2, 3), (3, 4)] [.str, (.int .i64), (.int .i64), .bool] 40),
 (95, .s [(0, 3), (1, 4), (2, 3)] [(.int .i64), .bool, (.int .i64)] 24),
 (96, .c (.sl 100 yr) 24),
 (98, .s [(0, 96)] [(.sl 100 yr)] 24),
 (100, .c (.sl 106 yj) 24),
 (106, .s [(0, 3), (1, 3), (2, 3), (3, 3), (4, 3)] [(.int .i64), (.int .i64), (.int .i64), (.int .i64), (.int .i64)] 40),
 (186, .s [(0, 3), (1, 32)] [(.int .i64), (.sl 5 yF)] 32),
 (229, .c (.sl 4 y3w) 24)]
def ynl : Sig := ⟨[.v true [(.sl 100 yr)] [false]], [⟨true, [(.sl 100 yr)], [true]⟩], false, false, false⟩
def ynm : Sig := ⟨[.v true qz4 [false, false]], [⟨true, qz4, [true, true]⟩], false, false, false⟩
def ynn : Sig := ⟨[.v false [(.sl 95 yl)] [false]], [⟨false, [(.sl 95 yl)], [true]⟩], false, false, false⟩
def yno : Sig := ⟨[.v true qz5 (nf 6)], [⟨true, qz5, [true, true, true, true, true, false]⟩], false, false, false⟩
def ynp : Sig := ⟨[.v true QT (nf 4)], [⟨true, QT, [true, true, false, false]⟩], false, false, false⟩
def ynq : Sig := ⟨[.v true qb (nf 13)], [⟨true, qb, [true, true, false, false, true, true, true, true, true, false, false, false, false]⟩], false, false, false⟩
def ynr : Sig := ⟨[.v false [(.int .i64)] [false], .v false [(.int .i64)] [false], .v false [(.int .i64)] [false]], [⟨false, [.bool], [false]⟩], false, false, false⟩
def yns : Sig := ⟨[.v false [(.sl 106 yj)] [false]], [⟨false, [(.sl 106 yj)], [true]⟩], false, false, false⟩
def ynt : Sig := ⟨[.v true y16 (nf 5), .v true y16 (nf 5)], [⟨false, [.bool], [false]⟩], false, false, false⟩
def ynu : Sig := ⟨[.v true y16 (nf 5), .v true y16 (nf 5)], [⟨false, [.bool], [false]⟩], false, false, false⟩
def ynv : Sig := ⟨[.v false [(.sl 106 yj)] [false], .v true y16 (nf 5)], [⟨false, [(.sl 106 yj)], [true]⟩], false, false, false⟩
def ynw : Sig := ⟨[.v false [(.sl 106 yj)] [false], .v false [(.sl 106 yj)] [false]], [⟨false, [(.sl 106 yj)], [true]⟩], false, false, false⟩
def ynx : Sig := ⟨[.v true [(.sl 100 yr)] [false]], [⟨false, [(.sl 106 yj)], [true]⟩], false, false, false⟩
def yny : Sig := ⟨[.v true qz4 [false, false]], [⟨false, [(.sl 106 yj)], [true]⟩], false, false, false⟩
def ynz : Sig := ⟨[.v false [(.int .i64)] [false], .v false [(.int .i64)] [false]], [⟨false, [(.int .i64)], [false]⟩], false, false, false⟩
def ynA : Sig := ⟨[.v true y16 (nf 5)], [⟨false, [(.int .i64)], [false]⟩], false, false, false⟩
def ynB : Sig := ⟨[.v true y16 (nf 5)], [⟨false, [.bool], [false]⟩], false, false, false⟩
def ynC : Sig := ⟨[.v false [(.sl 106 yj)] [false]], [⟨false, [.bool], [false]⟩], false, false, false⟩
def ynD : Sig := ⟨[.v false [(.sl 106 yj)] [false]], [⟨false, [.bool], [false]⟩], false, false, false⟩
def ynE : Sig := ⟨[.v true [(.sl 100 yr)] [false]], [⟨false, [(.int .i64)], [false]⟩], false, false, false⟩
def ynF : Sig := ⟨[.v true [(.sl 100 yr)] [false]], [⟨false, [.bool], [false]⟩], false, false, false⟩
def ynG : Sig := ⟨[.v true qz4 [false, false], .v false [(.int .i64)] [false]], [⟨false, [.bool], [false]⟩], false, false, false⟩
def ynH : Sig := ⟨[.v true qz4 [false, false]], [⟨false, [.bool], [false]⟩], false, false, false⟩
def ynI : Sig := ⟨[.v false [(.sl 89 yG)] [false], .v false [(.int .i64)] [false]], [⟨false, [(.int .i64)], [false]⟩], false, false, false⟩
def ynJ : Sig := ⟨[.v false [(.sl 89 yG)] [false]], [⟨false, [.bool], [false]⟩], false, false, false⟩
def ynK : Sig := ⟨[.v false [(.int .i64)] [false]], [⟨false, [.bool], [false]⟩], false, false, false⟩
def ynL : Sig := ⟨[.v false [(.sl 95 yl)] [false]], [⟨false, [.bool], [false]⟩], false, false, false⟩
def ynM : Sig := ⟨[.v false [.str] [false]], [⟨false, [.bool], [false]⟩], false, false, false⟩
def ynN : Sig := ⟨[.v false [(.sl 89 yG)] [false], .v false [(.int .i64)] [false]], [⟨false, [(.sl 3 yu)], [true]⟩], false, false, false⟩
def ynO : Sig := ⟨[.v true qz5 (nf 6)], [⟨false, [.bool], [false]⟩], false, false, false⟩
def ynP : Sig := ⟨[.v false [(.sl 95 yl)] [false], .v false [(.int .i64)] [false], .v false [(.int .i64)] [false]], [⟨false, [(.int .i64)], [false]⟩, ⟨false, [.bool], [false]⟩], false, false, false⟩
def ynQ : Sig := ⟨[.v false [(.sl 95 yl)] [false]], [⟨false, [(.int .i64)], [false]⟩], false, false, false⟩
def ynR : Sig := ⟨[.v true qz5 (nf 6)], [⟨false, [.bool], [false]⟩], false, false, false⟩
def yyt : Sig := ⟨[.v true qz5 (nf 6)], [⟨false, [.bool], [false]⟩], false, false, false⟩
def ynS : Sig := ⟨[.v true QT (nf 4)], [⟨false, [.bool], [false]⟩], false, false, false⟩
def ynT : Sig := ⟨[.v true qb (nf 13)], [⟨false, [.bool], [false]⟩], false, false, false⟩
def yyu : Sig := ⟨[.v false [(.sl 5 yF)] [false], .v false [(.int .i64)] [false]], [⟨false, [(.sl 5 yF)], [true]⟩], false, false, false⟩
def yyv : Sig := ⟨[.v false [(.sl 5 yF)] [false], .v false [.str] [false]], [⟨false, [(.sl 5 yF)], [true]⟩], false, false, false⟩
def yyw : Sig := ⟨[.v false [.bool] [false]], [⟨false, [(.int .u8)], [false]⟩], false, false, false⟩
def ynU : Sig := ⟨[.v false [(.sl 5 yF)] [false], .v true y16 (nf 5)], [⟨false, [(.sl 5 yF)], [true]⟩], false, false, false⟩
def yyx : Sig := ⟨[.v false [(.sl 5 yF)] [true], .v false [(.sl 106 yj)] [false]], [⟨false, [(.sl 5 yF)], [true]⟩], false, false, false⟩
def yyy : Sig := ⟨[.v true qz5 (nf 6)], [⟨false, [(.sl 5 yF)], [true]⟩], false, false, false⟩
def ynV : Sig := ⟨[.v false [(.sl 5 yF)] [false]], [⟨false, [(.int .i64)], [false]⟩], false, false, false⟩
def ynW : Sig := ⟨[.v false [(.int .i64)] [false], .v false [(.int .i64)] [false]], [⟨false, [(.int .i64)], [false]⟩], false, false, false⟩
def ynX : Sig := ⟨[.v true y16 (nf 5)], [⟨false, [.bool], [false]⟩], false, false, false⟩
def ynY : Sig := ⟨[.v false [(.sl 5 yF)] [false], .v false [(.int .i64)] [false]], [⟨false, [(.sl 5 yF)], [true]⟩], false, false, false⟩
def ynZ : Sig := ⟨[.v true y16 (nf 5)], [⟨false, [(.sl 5 yF)], [true]⟩], false, false, false⟩
def ybb : Sig := ⟨[.p (some 1000000000) qb [true, true, false, false, true, true, true, true, true, false, false, false, false]], [⟨false, [.bool], [false]⟩], false, false, false⟩
def ybc : Sig := ⟨[.p (some 1000000000) qb [true, true, false, false, true, true, true, true, true, false, false, false, false]], [], false, false, false⟩
def ybd : Sig := ⟨[.p (some 1000000000) qb [true, true, false, false, true, true, true, true, true, false, false, false, false], .v false [(.int .i64)] [false], .v false [(.sl 5 yF)] [false]], [], false, false, false⟩
def ybe : Sig := ⟨[.p (some 1000000000) qb [true, true, false, false, true, true, true, true, true, false, false, false, false], .v false [(.int .i64)] [false], .v false [(.sl 5 yF)] [false]], [], false, false, false⟩
def yo0 : Sig := ⟨[.p none qb [true, true, false, false, true, true, true, true, true, false, false, false, false]], [], false, false, false⟩
def yyz : Sig := ⟨[.v true qb (nf 13)], [⟨true, qb, [true, true, false, false, true, true, true, true, true, false, false, false, false]⟩], false, false, false⟩
def yyA : Sig := ⟨[.v false [(.int .i64)] [false]], [⟨true, QT, [true, true, false, false]⟩], false, false, false⟩
def yo1 : Sig := ⟨[], [⟨true, qz4, [true, true]⟩], false, false, false⟩
def yo2 : Sig := ⟨[], [⟨false, [(.sl 95 yl)], [true]⟩], false, false, false⟩
def yyB : Sig := ⟨[], [⟨true, qz5, [true, true, true, true, true, false]⟩], false, false, false⟩
def yyC : Sig := ⟨[], [⟨true, qb, [true, true, false, false, true, true, true, true, true, false, false, false, false]⟩], false, false, false⟩
def yo3 : Sig := ⟨[.v false [(.int .i64)] [false], .v false [(.int .i64)] [false], .v false [(.int .i64)] [false]], [⟨false, [.bool], [false]⟩], false, false, false⟩
def yo4 : Sig := ⟨[.v true y16 (nf 5)], [⟨false, [.bool], [false]⟩], false, false, false⟩
def yo5 : Sig := ⟨[.v true y16 (nf 5), .v true y16 (nf 5)], [⟨false, [.bool], [false]⟩], false, false, false⟩
def yo6 : Sig := ⟨[.v false [(.sl 106 yj)] [false]], [⟨false, [.bool], [false]⟩], false, false, false⟩
def yo7 : Sig := ⟨[.v true [(.sl 100 yr)] [false]], [⟨false, [.bool], [false]⟩], false, false, false⟩
def yo8 : Sig := ⟨[.v false [(.int .i64)] [false], .v false [(.int .i64)] [false]], [⟨false, [(.int .i64)], [false]⟩], false, false, false⟩
def yo9 : Sig := ⟨[.v true qz4 [false, false], .v false [(.int .i64)] [false]], [⟨false, [.bool], [false]⟩], false, false, false⟩
def yoa : Sig := ⟨[.v false [(.sl 106 yj)] [false]], [⟨false, [(.sl 106 yj)], [true]⟩], false, false, false⟩
def yob : Sig := ⟨[.v true y16 (nf 5), .v true y16 (nf 5)], [⟨false, [.bool], [false]⟩], false, false, false⟩
def yoc : Sig := ⟨[.v false [(.sl 106 yj)] [false], .v true y16 (nf 5)], [⟨false, [(.sl 106 yj)], [true]⟩], false, false, false⟩
def yod : Sig := ⟨[.v false [(.sl 106 yj)] [false], .v false [(.sl 106 yj)] [false]], [⟨false, [(.sl 106 yj)], [true]⟩], false, false, false⟩
def yoe : Sig := ⟨[.v false [(.sl 106 yj)] [false]], [⟨false, [(.sl 106 yj)], [true]⟩], false, false, false⟩
def yof : Sig := ⟨[.v true [(.sl 100 yr)] [false]], [⟨false, [(.sl 106 yj)], [true]⟩], false, false, false⟩
def yog : Sig := ⟨[.v true qz4 [false, false]], [⟨false, [.bool], [false]⟩], false, false, false⟩
def yoh : Sig := ⟨[.v true yh6 [false, false], .p none [(.int .i64)] [false]], [⟨false, [.bool], [false]⟩], false, false, false⟩
def ybf : Sig := ⟨[.v false [(.sl 89 yG)] [false], .p (some 251) [(.int .i64)] [false]], [⟨false, [(.int .i64)], [false]⟩], false, false, false⟩
def yoi : Sig := ⟨[.v false [(.sl 89 yG)] [false], .v false [(.int .i64)] [false]], [⟨false, [(.int .i64)], [false]⟩], false, false, false⟩
def yoj : Sig := ⟨[.v false [(.sl 89 yG)] [false]], [⟨false, [.bool], [false]⟩], false, false, false⟩
def yok : Sig := ⟨[.v false [(.int .i64)] [false]], [⟨false, [.bool], [false]⟩], false, false, false⟩
def yol : Sig := ⟨[.v false [(.sl 95 yl)] [false]], [⟨false, [.bool], [false]⟩], false, false, false⟩
def yom : Sig := ⟨[.v false [.str] [false]], [⟨false, [.bool], [false]⟩], false, false, false⟩
def yon : Sig := ⟨[.v false [(.sl 89 yG)] [false], .v false [(.int .i64)] [false]], [⟨false, [(.sl 3 yu)], [true]⟩], false, false, false⟩
def yoo : Sig := ⟨[.v true yl4 (nf 4), .p none yl4 (nf 4)], [⟨false, [.bool], [false]⟩], false, false, false⟩
def ybg : Sig := ⟨[.v false [(.sl 91 yU)] [false], .p (some 212) yl4 (nf 4)], [⟨false, [(.int .i64)], [false]⟩], false, false, false⟩
def ybh : Sig := ⟨[.v false [(.sl 91 yU)] [false], .p (some 212) yl4 (nf 4)], [⟨false, [.bool], [false]⟩], false, false, false⟩
def yop : Sig := ⟨[.v true qz5 (nf 6)], [⟨false, [.bool], [false]⟩], false, false, false⟩
def yoq : Sig := ⟨[.v true qz4 [false, false]], [⟨false, [(.sl 106 yj)], [true]⟩], false, false, false⟩
def yor : Sig := ⟨[.v false [(.sl 95 yl)] [false], .v false [(.int .i64)] [false], .v false [(.int .i64)] [false]], [⟨false, [(.int .i64)], [false]⟩, ⟨false, [.bool], [false]⟩], false, false, false⟩
def yos : Sig := ⟨[.v false [(.sl 95 yl)] [false]], [⟨false, [(.int .i64)], [false]⟩], false, false, false⟩
def yot : Sig := ⟨[.v true qz5 (nf 6)], [⟨false, [.bool], [false]⟩], false, false, false⟩
def yyD : Sig := ⟨[.v true qz5 (nf 6)], [⟨false, [.bool], [false]⟩], false, false, false⟩
def yov : Sig := ⟨[.v false [(.sl 32 yg)] [false]], [⟨false, [(.sl 5 yF)], [true]⟩], false, false, false⟩
def yyE : Sig := ⟨[.v false [(.sl 5 yF)] [false], .v false [(.int .i64)] [false]], [⟨false, [(.sl 5 yF)], [true]⟩], false, false, false⟩
def yyF : Sig := ⟨[.v false [(.sl 5 yF)] [false], .v false [.str] [false]], [⟨false, [(.sl 5 yF)], [true]⟩], false, false, false⟩
def yyG : Sig := ⟨[.v false [.bool] [false]], [⟨false, [(.int .u8)], [false]⟩], false, false, false⟩
def yyH : Sig := ⟨[.v false [(.sl 5 yF)] [false], .v true y16 (nf 5)], [⟨false, [(.sl 5 yF)], [true]⟩], false, false, false⟩
def yyI : Sig := ⟨[.v true qz5 (nf 6)], [⟨false, [(.sl 5 yF)], [true]⟩], false, false, false⟩
def yow : Sig := ⟨[.v true QT (nf 4)], [⟨true, QT, [true, true, false, false]⟩], false, true, false⟩
def yox : Sig := ⟨[.v false [(.sl 3 yu)] [false]], [⟨false, [(.sl 3 yu)], [true]⟩], false, false, false⟩
def yoy : Sig := ⟨[.v true [(.sl 100 yr)] [false]], [⟨true, [(.sl 100 yr)], [true]⟩], false, true, false⟩
def yoz : Sig := ⟨[.v true qz4 [false, false]], [⟨true, qz4, [true, true]⟩], false, true, false⟩
def yoA : Sig := ⟨[.v false [(.sl 89 yG)] [false]], [⟨false, [(.sl 89 yG)], [true]⟩], false, false, false⟩
def yoB : Sig := ⟨[.v false [(.sl 95 yl)] [false]], [⟨false, [(.sl 95 yl)], [true]⟩], false, false, false⟩
def yoC : Sig := ⟨[.v true qz5 (nf 6)], [⟨true, qz5, [true, true, true, true, true, false]⟩], false, true, false⟩
def yoD : Sig := ⟨[.v true qb (nf 13)], [⟨true, qb, [true, true, false, false, true, true, true, true, true, false, false, false, false]⟩], false, true, false⟩
def yoE : Sig := ⟨[.v true QT (nf 4)], [⟨false, [.bool], [false]⟩], false, false, false⟩
def yoF : Sig := ⟨[.v true QT [true, true, false, false]], [⟨true, QT, [true, true, false, false]⟩, ⟨false, [.bool], [false]⟩], false, true, false⟩
def yoG : Sig := ⟨[.v true QT (nf 4)], [⟨true, QT, [true, true, false, false]⟩], false, true, false⟩
def yoH : Sig := ⟨[.v true qb (nf 13), .v false [(.int .i64)] [false]], [⟨false, [.bool], [false]⟩], false, false, false⟩
def yoI : Sig := ⟨[.v false [(.sl 5 yF)] [false]], [⟨false, [(.int .i64)], [false]⟩], false, false, false⟩
def yoJ : Sig := ⟨[.v true QT (nf 4), .v false [(.int .i64)] [false], .v false [(.sl 5 yF)] [false]], [⟨true, QT, [true, true, false, false]⟩], false, true, false⟩
def yoK : Sig := ⟨[.v false [(.int .i64)] [false], .v false [(.int .i64)] [false]], [⟨false, [(.int .i64)], [false]⟩], false, false, false⟩
def yoL : Sig := ⟨[.v true QT (nf 4), .v false [(.int .i64)] [false], .v false [(.sl 5 yF)] [false]], [⟨true, QT, [true, true, false, false]⟩], false, true, false⟩
def yoM : Sig := ⟨[.v true y16 (nf 5)], [⟨false, [.bool], [false]⟩], false, false, false⟩
def yoN : Sig := ⟨[.v false [(.sl 5 yF)] [false], .v false [(.int .i64)] [false]], [⟨false, [(.sl 5 yF)], [true]⟩], false, false, false⟩
def yoO : Sig := ⟨[.v true y16 (nf 5)], [⟨false, [(.sl 5 yF)], [true]⟩], false, false, false⟩
def yyJ : Sig := ⟨[.v true qb (nf 13)], [⟨true, qb, [true, true, false, false, true, true, true, true, true, false, false, false, false]⟩], false, true, false⟩
def yyK : Sig := ⟨[.v false [(.int .i64)] [false]], [⟨true, QT, [true, true, false, false]⟩], false, true, false⟩
def yoP : Sig := ⟨[], [⟨true, qz4, [true, true]⟩], false, true, false⟩
def yoQ : Sig := ⟨[], [⟨false, [(.sl 95 yl)], [true]⟩], false, true, false⟩
def yyL : Sig := ⟨[], [⟨true, qz5, [true, true, true, true, true, false]⟩], false, true, false⟩
def yyM : Sig := ⟨[], [⟨true, qb, [true, true, false, false, true, true, true, true, true, false, false, false, false]⟩], false, true, false⟩
def yoR : Sig := ⟨[.v false [(.sl 3 yu)] [false], .v false [(.sl 3 yu)] [false]], [⟨false, [.bool], [false]⟩], false, false, false⟩
def yoS : Sig := ⟨[.v true y16 (nf 5), .v true y16 (nf 5)], [⟨false, [.bool], [false]⟩], false, false, false⟩
def yoT : Sig := ⟨[.v false [(.sl 106 yj)] [false], .v false [(.sl 106 yj)] [false]], [⟨false, [.bool], [false]⟩], false, false, false⟩
def yoU : Sig := ⟨[.v false [(.sl 100 yr)] [false], .v false [(.sl 100 yr)] [false]], [⟨false, [.bool], [false]⟩], false, false, false⟩
def yoV : Sig := ⟨[.v true [(.sl 100 yr)] [false], .v true [(.sl 100 yr)] [false]], [⟨false, [.bool], [false]⟩], false, false, false⟩
def yoW : Sig := ⟨[.v false [(.sl 98 yk)] [false], .v false [(.sl 98 yk)] [false]], [⟨false, [.bool], [false]⟩], false, false, false⟩
def yyN : Sig := ⟨[.v true qz4 [false, false], .v true qz4 [false, false]], [⟨false, [.bool], [false]⟩], false, false, false⟩
def yoX : Sig := ⟨[.v true yh6 [false, false], .v true yh6 [false, false]], [⟨false, [.bool], [false]⟩], false, false, false⟩
def yyO : Sig := ⟨[.v false [(.sl 89 yG)] [false], .v false [(.sl 89 yG)] [false]], [⟨false, [.bool], [false]⟩], false, false, false⟩
def yoY : Sig := ⟨[.v true ynj (nf 3), .v true ynj (nf 3)], [⟨false, [.bool], [false]⟩], false, false, false⟩
def yyP : Sig := ⟨[.v false [(.sl 95 yl)] [false], .v false [(.sl 95 yl)] [false]], [⟨false, [.bool], [false]⟩], false, false, false⟩
def yoZ : Sig := ⟨[.v true yl4 (nf 4), .v true yl4 (nf 4)], [⟨false, [.bool], [false]⟩], false, false, false⟩
def yyQ : Sig := ⟨[.v false [(.sl 91 yU)] [false], .v false [(.sl 91 yU)] [false]], [⟨false, [.bool], [false]⟩], false, false, false⟩
def yyR : Sig := ⟨[.v true qz5 (nf 6), .v true qz5 (nf 6)], [⟨false, [.bool], [false]⟩], false, false, false⟩
def yyS : Sig := ⟨[.v false [(.sl 5 yF)] [false], .v false [(.sl 5 yF)] [false]], [⟨false, [.bool], [false]⟩], false, false, false⟩
def yyT : Sig := ⟨[.v false [(.sl 32 yg)] [false], .v false [(.sl 32 yg)] [false]], [⟨false, [.bool], [false]⟩], false, false, false⟩
def yp0 : Sig := ⟨[.v true yiX [false, false], .v true yiX [false, false]], [⟨false, [.bool], [false]⟩], false, false, false⟩
def yyU : Sig := ⟨[.v false [(.sl 186 zc)] [false], .v false [(.sl 186 zc)] [false]], [⟨false, [.bool], [false]⟩], false, false, false⟩
def yyV : Sig := ⟨[.v true QT (nf 4), .v true QT (nf 4)], [⟨false, [.bool], [false]⟩], false, false, false⟩
def yyW : Sig := ⟨[.v true qb (nf 13), .v true qb (nf 13)], [⟨false, [.bool], [false]⟩], false, false, false⟩
def yp1 : Sig := ⟨[.v false [(.sl 3 yu)] [true], .v false [(.int .i64)] [false]], [⟨false, [(.int .i64)], [false]⟩], false, true, true⟩
def yp2 : Sig := ⟨[.v false [(.sl 106 yj)] [true], .v false [(.int .i64)] [false]], [⟨false, [(.int .i64)], [false]⟩], false, true, true⟩
def yp3 : Sig := ⟨[.v false [(.sl 100 yr)] [true], .v false [(.int .i64)] [false]], [⟨false, [(.int .i64)], [false]⟩], false, true, true⟩
def yp4 : Sig := ⟨[.v false [(.sl 98 yk)] [true], .v false [(.int .i64)] [false]], [⟨false, [(.int .i64)], [false]⟩], false, true, true⟩
def yyX : Sig := ⟨[.v true qz4 [true, true], .v false [(.int .i64)] [false]], [⟨false, [(.int .i64)], [false]⟩], false, true, true⟩
def yyY : Sig := ⟨[.v false [(.sl 89 yG)] [true], .v false [(.int .i64)] [false]], [⟨false, [(.int .i64)], [false]⟩], false, true, true⟩
def yyZ : Sig := ⟨[.v false [(.sl 95 yl)] [true], .v false [(.int .i64)] [false]], [⟨false, [(.int .i64)], [false]⟩], false, true, true⟩
def yp5 : Sig := ⟨[.v false [(.int .i64)] [false]], [⟨false, [.str], [false]⟩], false, false, false⟩
def yz0 : Sig := ⟨[.v false [(.sl 91 yU)] [true], .v false [(.int .i64)] [false]], [⟨false, [(.int .i64)], [false]⟩], false, true, true⟩
def yz1 : Sig := ⟨[.v true qz5 [true, true, true, true, true, false], .v false [(.int .i64)] [false]], [⟨false, [(.int .i64)], [false]⟩], false, true, true⟩
def yz2 : Sig := ⟨[.v false [(.sl 5 yF)] [true], .v false [(.int .i64)] [false]], [⟨false, [(.int .i64)], [false]⟩], false, true, true⟩
def yz3 : Sig := ⟨[.v false [(.sl 32 yg)] [true], .v false [(.int .i64)] [false]], [⟨false, [(.int .i64)], [false]⟩], false, true, true⟩
def yz4 : Sig := ⟨[.v false [(.sl 186 zc)] [true], .v false [(.int .i64)] [false]], [⟨false, [(.int .i64)], [false]⟩], false, true, true⟩
def yz5 : Sig := ⟨[.v true QT [true, true, false, false], .v false [(.int .i64)] [false]], [⟨false, [(.int .i64)], [false]⟩], false, true, true⟩
def yz6 : Sig := ⟨[.v true qb [true, true, false, false, true, true, true, true, true, false, false, false, false], .v false [(.int .i64)] [false]], [⟨false, [(.int .i64)], [false]⟩], false, true, true⟩
def yp6 : Sig := ⟨[.v false [(.sl 3 yu)] [false], .v false [(.int .i64)] [false]], [⟨false, [(.int .i64)], [false]⟩], false, false, false⟩
def yp7 : Sig := ⟨[.v false [(.sl 106 yj)] [false], .v false [(.int .i64)] [false]], [⟨false, [(.int .i64)], [false]⟩], false, false, false⟩
def yp8 : Sig := ⟨[.v false [(.sl 100 yr)] [false], .v false [(.int .i64)] [false]], [⟨false, [(.int .i64)], [false]⟩], false, false, false⟩
def yp9 : Sig := ⟨[.v false [(.sl 98 yk)] [false], .v false [(.int .i64)] [false]], [⟨false, [(.int .i64)], [false]⟩], false, false, false⟩
def yz7 : Sig := ⟨[.v true qz4 [false, false], .v false [(.int .i64)] [false]], [⟨false, [(.int .i64)], [false]⟩], false, false, false⟩
def yz8 : Sig := ⟨[.v false [(.sl 89 yG)] [false], .v false [(.int .i64)] [false]], [⟨false, [(.int .i64)], [false]⟩], false, false, false⟩
def yz9 : Sig := ⟨[.v false [(.sl 95 yl)] [false], .v false [(.int .i64)] [false]], [⟨false, [(.int .i64)], [false]⟩], false, false, false⟩
def yza : Sig := ⟨[.v false [(.sl 91 yU)] [false], .v false [(.int .i64)] [false]], [⟨false, [(.int .i64)], [false]⟩], false, false, false⟩
def yzb : Sig := ⟨[.v true qz5 (nf 6), .v false [(.int .i64)] [false]], [⟨false, [(.int .i64)], [false]⟩], false, false, false⟩
def yzc : Sig := ⟨[.v false [(.sl 5 yF)] [false], .v false [(.int .i64)] [false]], [⟨false, [(.int .i64)], [false]⟩], false, false, false⟩
def ypa : Sig := ⟨[.v false [(.sl 32 yg)] [false], .v false [(.int .i64)] [false]], [⟨false, [(.int .i64)], [false]⟩], false, false, false⟩
def ypb : Sig := ⟨[.v false [(.sl 186 zc)] [false], .v false [(.int .i64)] [false]], [⟨false, [(.int .i64)], [false]⟩], false, false, false⟩
def yzd : Sig := ⟨[.v true QT (nf 4), .v false [(.int .i64)] [false]], [⟨false, [(.int .i64)], [false]⟩], false, false, false⟩
def yze : Sig := ⟨[.v true qb (nf 13), .v false [(.int .i64)] [false]], [⟨false, [(.int .i64)], [false]⟩], false, false, false⟩
def sg6 : Sig := ⟨[], [⟨false, [.bool], [false]⟩], false, false, false⟩
def yzI : List (Nat × Sig) := [(227, ynl), (185, ynm), (186, ynn), (114, yno), (176, ynp), (100, ynq), (107, ynr), (235, yns), (266, ynt), (267, ynu), (236, ynv), (261, ynw), (230, ynx), (188, yny), (264, ynz), (237, ynA), (202, ynB), (300, ynC), (276, ynD), (277, ynE), (244, ynF), (195, ynG), (120, ynH), (196, ynI), (121, ynJ), (197, ynK), (122, ynL), (198, ynM), (199, ynN), (123, ynO), (200, ynP), (201, ynQ), (124, ynR), (47, yyt), (153, ynS), (106, ynT), (48, yyu), (49, yyv), (50, yyw), (125, ynU), (51, yyx), (11, yyy), (150, ynV), (154, ynW), (152, ynX), (226, ynY), (183, ynZ), (100001, ybb), (100000, ybc), (100003, ybd), (100002, ybe), (108, yo0), (39, yyz), (95, yyA), (170, yo1), (171, yo2), (96, yyB), (30, yyC), (134, yo3), (138, yo4), (279, yo5), (246, yo6), (204, yo7), (247, yo8), (205, yo9), (280, yoa), (302, yob), (281, yoc), (248, yod), (249, yoe), (206, yof), (131, yog), (251, yoh), (100004, ybf), (207, yoi), (132, yoj), (208, yok), (133, yol), (209, yom), (210, yon), (212, yoo), (100006, ybg), (100005, ybh), (135, yop), (213, yoq), (214, yor), (215, yos), (136, yot), (56, yyD), (137, yov), (57, yyE), (58, yyF), (59, yyG), (60, yyH), (13, yyI), (178, yow), (256, yox), (257, yoy), (223, yoz), (224, yoA), (225, yoB), (179, yoC), (103, yoD), (160, yoE), (180, yoF), (105, yoG), (109, yoH), (110, yoI), (112, yoJ), (161, yoK), (111, yoL), (159, yoM), (184, yoN), (113, yoO), (40, yyJ), (97, yyK), (172, yoP), (173, yoQ), (98, yyL), (31, yyM), (139, yoR), (303, yoS), (282, yoT), (253, yoU), (216, yoV), (140, yoW), (61, yyN), (141, yoX), (62, yyO), (142, yoY), (63, yyP), (143, yoZ), (64, yyQ), (15, yyR), (14, yyS), (79, yyT), (162, yp0), (80, yyU), (24, yyV), (32, yyW), (144, yp1), (254, yp2), (217, yp3), (145, yp4), (65, yyX), (66, yyY), (67, yyZ), (146, yp5), (68, yz0), (16, yz1), (17, yz2), (81, yz3), (82, yz4), (25, yz5), (33, yz6), (168, yp6), (255, yp7), (222, yp8), (169, yp9), (91, yz7), (92, yz8), (93, yz9), (94, yza), (29, yzb), (18, yzc), (174, ypa), (175, ypb), (99, yzd), (34, yze), (6, sg6)]
def ytI : List (Nat × (List Nat × List Nat)) := [
 (22700003, [1, 2, 3, 4], [2, 3]),
 (18500003, [1, 2, 3, 4], [2, 3]),
 (17600003, [1, 2, 3, 4], [1, 2, 3]),
 (17600007, [1, 2, 3, 5], [2, 3]),
 (23500003, [0, 3, 4], [3]),
 (23600004, [0, 3, 5, 6, 7, 18, 19, 20, 21, 22, 23, 24], [3, 5, 6]),
 (26100003, [1, 5, 6], [5]),
 (23000003, [1, 3, 4], [3]),
 (18800003, [1, 3, 4], [3]),
 (30000002, [0, 3], [2]),
 (27600002, [0, 3, 19, 20, 21], [0, 2, 19, 20, 21]),
 (27700003, [1, 3, 4], [3]),
 (24400002, [1, 3, 19, 20, 21, 22, 23, 24, 25, 32, 33, 34], [1, 2, 32, 33, 34]),
 (19500005, [1, 2, 5, 6, 61, 62, 63, 64, 65, 66, 67, 68, 69, 70, 71, 72, 73, 74, 75, 76], [4]),
 (19500008, [1, 2, 5, 6, 7, 61, 62, 63, 64, 65, 66, 67, 68, 69, 70, 71, 72, 73, 74, 75, 76], [1, 2, 4, 5, 6, 61, 62, 63, 64, 65, 66, 67, 68, 69, 70, 71, 72, 73, 74, 75, 76]),
 (12000004, [1, 3, 35, 36, 37, 38, 39, 40, 41, 42, 43, 44, 45, 46, 49, 50, 51, 52], [1, 2]),
 (19600002, [0, 1, 5], [4]),
 (12100002, [0, 3, 18, 19, 20, 21, 22, 23, 24, 25, 26, 27, 28, 29, 30, 31, 32, 33, 42, 43, 44, 45, 46, 47, 48, 49, 50, 51], [0, 2]),
 (12200002, [0, 3, 18, 19, 20, 21, 22, 23, 24, 27, 28, 29, 30, 31, 32, 33, 34, 35, 36, 37, 38, 39, 40], [0, 2]),
 (19800002, [0, 3, 17, 18, 19, 20, 21, 22], [0, 2]),
 (19900003, [0, 1, 5, 6, 22, 23], [5]),
 (12300002, [1, 3, 23, 24, 25, 26, 29, 30, 31, 32, 33, 34, 37, 38, 39, 40, 41, 42, 43, 46, 47, 48, 49, 50, 51, 52, 53, 54, 55, 56, 57, 58, 59], [1, 2]),
 (12300008, [1, 3, 4, 5, 23, 24, 25, 26, 29, 30, 31, 32, 33, 34, 37, 38, 39, 40, 41, 42, 43, 46, 47, 48, 49, 50, 51, 52, 53, 54, 55, 56, 57, 58, 59], [1, 2, 3, 23, 24, 25, 26, 29, 30, 31, 32, 33, 34, 37, 38, 39, 40, 41, 42, 43, 46, 47, 48, 49, 50, 51, 52, 53, 54, 55, 56, 57, 58, 59]),
 (20100003, [0, 3, 4], [3]),
 (12400004, [1, 3, 4, 5, 65, 66, 67, 68, 69, 70, 71, 72, 73, 74, 75], [1, 2, 4]),
 (12400014, [1, 3, 4, 5, 8, 65, 66, 67, 68, 69, 70, 71, 72, 73, 74, 75], [1, 2, 3, 4, 5, 65, 66, 67, 68, 69, 70, 71, 72, 73, 74, 75]),
 (4700002, [1, 3, 24, 25, 26, 29, 30, 31, 34, 35, 36, 39, 40, 43, 44], [1, 2, 24, 25, 26, 29, 30, 31, 34, 35, 36, 39, 40, 43, 44]),
 (15300002, [1, 3, 39, 40, 41, 42, 43, 44, 45, 46, 53, 54, 55, 56, 59, 60, 61], [1, 2, 39, 40, 41, 42, 43, 44, 45, 46, 53, 54, 55, 56, 59, 60, 61]),
 (15300007, [1, 4, 39, 40, 41, 42, 43, 44, 45, 46, 53, 54, 55, 56, 59, 60, 61], [1, 2, 53, 54, 55, 56, 59, 60, 61]),
 (5100003, [0, 1, 5], [0]),
 (1100006, [1, 3, 4], [1, 3]),
 (1100011, [1, 3, 5], [1, 3]),
 (1100016, [1, 3, 7], [1, 3]),
 (1100021, [1, 3, 8], [3]),
 (1100025, [1, 3, 8, 9], [1, 3, 8]),
 (15000003, [0, 3, 4], [3]),
 (15000007, [0, 3, 4, 5], [0, 3, 4]),
 (10000000002, [0, 2], [0]),
 (10000200001, [0, 1, 2, 6], [0]),
 (9500005, [0, 2, 3, 4], [2, 3]),
 (24600002, [0, 5, 6, 7, 16, 17, 18, 19, 20, 21, 22, 23, 24, 25, 26, 27], [0, 2]),
 (20400003, [1, 3, 7, 8, 9, 17, 18, 19, 31, 32], [1, 2, 3, 31, 32]),
 (20500002, [1, 2, 15, 16, 17, 40, 41, 42, 43, 44, 45, 46, 47, 48, 49, 50, 51, 52, 53, 54, 55], [4]),
 (20500005, [1, 2, 15, 16, 17, 21, 22, 23, 40, 41, 42, 43, 44, 45, 46, 47, 48, 49, 50, 51, 52, 53, 54, 55], [1, 2, 4, 15, 16, 17, 40, 41, 42, 43, 44, 45, 46, 47, 48, 49, 50, 51, 52, 53, 54, 55]),
 (28100004, [3, 5, 6, 10, 11, 12, 19, 20, 21, 22], [3, 5, 6]),
 (24800003, [5, 10, 11, 12], [5]),
 (24900003, [3, 7, 8, 9], [3]),
 (20600003, [3, 8, 9, 10], [3]),
 (13100005, [1, 3, 29, 30, 31, 39, 40, 41, 42, 43, 44, 45, 46, 47, 48, 49, 50, 53, 54, 55, 58, 59, 60, 61, 69, 70], [2, 3]),
 (10000400002, [0, 1, 7, 8], [1, 4]),
 (13200002, [0, 5, 6, 7, 17, 18, 19, 20, 21, 22, 23, 24, 25, 26, 27, 28, 29, 32, 33, 34, 35, 36, 37, 38, 39, 40, 41, 42, 43], [0, 2]),
 (13300002, [0, 5, 6, 7, 16, 17, 18, 19, 22, 23, 24, 25, 26, 27, 28, 29], [0, 2]),
 (20900002, [0, 3, 17, 18, 19, 20, 21, 22], [0, 2]),
 (21000005, [1, 5, 12, 13, 14], [5]),
 (10000600002, [0, 1, 7, 8], [1, 4]),
 (13500002, [1, 6, 7, 8, 18, 19, 20, 21, 22, 23, 24, 25, 26, 27, 28, 29, 30, 31, 34, 35, 36, 37, 46, 47, 48, 49, 50, 51, 52], [1, 2]),
 (21300003, [3, 8, 9, 10], [3]),
 (21500003, [3, 6, 7, 8], [3]),
 (13600004, [1, 3, 4, 12, 13, 14, 40, 41, 42, 43, 44], [1, 2, 4]),
 (5600004, [1, 28, 29, 30, 43, 44], [1, 2, 43, 44]),
 (13700003, [3, 7, 8, 9], [3]),
 (1300005, [1, 3, 29, 30, 31], [1, 3]),
 (1300011, [1, 3, 53, 54, 55], [1, 3]),
 (1300016, [1, 3, 76, 77, 78], [1, 3]),
 (1300022, [1, 3, 105, 106, 107], [3]),
 (1300026, [1, 3, 105, 106, 107, 127, 128, 129], [1, 3, 105, 106, 107]),
 (1300030, [1, 3, 105, 106, 107, 127, 128, 129, 139, 140, 141], [1, 3, 105, 106, 107, 127, 128, 129]),
 (17800003, [1, 2, 3, 14, 15, 16], [1, 2, 3]),
 (17800008, [2, 3, 30, 31, 32], [2, 3]),
 (25700003, [2, 3, 8, 9, 10], [2, 3]),
 (22300003, [2, 3, 11, 12, 13], [2, 3]),
 (16000004, [1, 25, 26, 27, 51, 52, 53, 54], [1, 2, 51, 52, 53, 54]),
 (16000010, [1, 36, 37, 38, 51, 52, 53, 54], [2]),
 (10500008, [2, 3, 26, 27, 28], [2, 3]),
 (11000003, [3, 7, 8, 9], [3]),
 (11000007, [3, 7, 8, 9, 17], [3, 7, 8, 9]),
 (11100005, [1, 2, 6, 7, 8], [6, 7]),
 (13900004, [0, 1, 5], [4]),
 (28200004, [0, 1, 5], [4]),
 (25300004, [0, 1, 5], [4]),
 (14000004, [0, 1, 5], [4]),
 (6200004, [0, 1, 5], [4]),
 (6300004, [0, 1, 5], [4]),
 (6400004, [0, 1, 5], [4]),
 (1400004, [0, 1, 5], [4]),
 (7900004, [0, 1, 5], [4]),
 (8000004, [0, 1, 5], [4]),
 (14400002, [0, 1, 5], [0, 1]),
 (25400002, [0, 1, 5], [0, 1]),
 (21700002, [0, 1, 5], [0, 1]),
 (14500002, [0, 1, 5], [0, 1]),
 (6600002, [0, 1, 5], [0, 1]),
 (6700002, [0, 1, 5], [0, 1]),
 (14600004, [0, 3], [3]),
 (6800002, [0, 1, 5], [0, 1]),
 (1700002, [0, 1, 5], [0, 1]),
 (8100002, [0, 1, 5], [0, 1]),
 (8200002, [0, 1, 5], [0, 1]),
 (16800002, [0, 1, 5], [1, 4]),
 (25500002, [0, 1, 5], [1, 4]),
 (22200002, [0, 1, 5], [1, 4]),
 (16900002, [0, 1, 5], [1, 4]),
 (9200002, [0, 1, 5], [1, 4]),
 (9300002, [0, 1, 5], [1, 4]),
 (9400002, [0, 1, 5], [1, 4]),
 (1800002, [0, 1, 5], [1, 4]),
 (17400002, [0, 1, 5], [1, 4]),
 (17500002, [0, 1, 5], [1, 4])]
def yzf : List (Nat × List Nat × Nat) := [(102, [2001300000], 100000), (177, [2001300000], 100001), (181, [2001300000], 100002), (182, [2001300000], 100003), (250, [251], 100004), (211, [212], 100005), (252, [212], 100006)]
def ytJ : List (Nat × List Nat) := [(227, [22]), (185, [25]), (176, [27, 54]), (100003, [49]), (178, [100025, 100026, 100045, 100046]), (257, [100018, 100019]), (223, [100021, 100022]), (105, [100031]), (112, [100052, 100053]), (40, [1000063000000003]), (97, [100008]), (172, [100003])]
def C : Ctx := { info := y9i ynk, sig := y9i yzI, live := fun f i => y9i ytI (100000 * f + i), key := yl6 yzf, fid := yl7 yzf, hint := ygR ytJ }
theorem tok : TOk C Tryz.prog := ylm (l := ynk) rfl (by kernel_rfl)
theorem ytK : Tryz.prog.follows .mixedOrders = true := by kernel_rfl
abbrev QF := Qf C Tryz.prog
abbrev EV (l : List QF) (lp : Lp) (n : Nat) (fn : Func) (sg : Sig) (ins outs : List Ty) (F : yE ins → Option (yE outs)) : Prop := ∀ x, yf0 C (yiM l) lp n fn (Vw fn) sg ins outs x = F x
abbrev LF (l : List QF) (lp : Lp) (n i : Nat) (fn : Func) (k : Nat) {T V : Type} (e : T → St) (g : Gk T) (inj : V → T) : Prop := LC C (yiM l) lp n i (cL fn k) e g inj
abbrev LK (l : List QF) (lp : Lp) (n : Nat) (fn : Func) (k : Nat) : Prop := y1T C (yiM l) lp n (cL fn k)
theorem okN {l : List QF} {lp : Lp} {f g : Nat} {fn : Func} {sg : Sig} {n : Nat} (hfn : Tryz.prog.funcs[g]? = some fn) (hl : yll (y1T C (yiM l) lp f) (Zn (Vw fn)) n 0) {F : yE (C.ins f) → Option (yE (C.outs f))} (hF : ∀ x, yf0 C (yiM l) lp f fn (Vw fn) sg (C.ins f) (C.outs f) x = F x) (hsig : C.sig f = some sg := by kernel_rfl) (hB : fnB C f g fn sg n = true := by kernel_rfl) : jR C Tryz.prog f F := ysI tok ytK hfn hsig hB hl hF
theorem lkN {call : C.Sem} {lp : Lp} {f i : Nat} {c : Code} {T : Type} {e : T → St} {u : St → Option T} {g : Gk T} (hu : ∀ s t, u s = some t → e t = s) (hc : LC C call lp f i c e @g (fun t => t)) (hl : laB C f i c = true := by kernel_rfl) (hb : LB lp i u @g := by intro R κ s; kernel_rfl) : y1T C call lp f c := yfy hl hu hb hc
end Go.Proofs.YtmapoakbdgpamaaGreat.XN
