/- The context of the evaluator for T: types, signatures, slots that live at loops; by a program (dec.py). No condition. -/
import Derived.Test.YthgdjjdigalckaaGreatProg
import Derived.Test.YthgdjjdigalckaaGreatRRow
import Derived.KernelRfl
set_option linter.all false
namespace Go.Proofs.YthgdjjdigalckaaGreat.XT
open Go.Proofs.YthgdjjdigalckaaGreat.R
set_option maxRecDepth 100000
abbrev Ym : List Ty := [(.int .u8)]
abbrev vu : Type := Int
abbrev yl9 (xs : List vu) (i : Int) : vu := rdE Ym xs i
def y3Y (x : List vu) : A := .val (.sl 5 Ym) x
abbrev yi : List Ty := [(.int .i64)]
abbrev yf : Type := Int
abbrev y7V : yf := V9 yi
abbrev zC (xs : List yf) (i : Int) : yf := rdE yi xs i
def z7 (x : List yf) : A := .val (.sl 3 yi) x
abbrev yk : List Ty := [(.int .i64), (.int .i64), (.int .i64), (.int .i64), (.int .i64)]
abbrev ya : Type := Int × Int × Int × Int × Int
abbrev yL : ya := V9 yk
abbrev y8 (xs : List ya) (i : Int) : ya := rdE yk xs i
def VN (x : List ya) : A := .val (.sl 64 yk) x
abbrev yn : List Ty := [(.sl 64 yk)]
abbrev yb : Type := List ya
abbrev z6 : yb := V9 yn
abbrev yp (xs : List yb) (i : Int) : yb := rdE yn xs i
def Yj (x : List yb) : A := .val (.sl 58 yn) x
abbrev yh : List Ty := [(.sl 58 yn)]
abbrev y0 : Type := List yb
abbrev yB : y0 := V9 yh
abbrev yg (xs : List y0) (i : Int) : y0 := rdE yh xs i
def yu (x : List y0) : A := .val (.sl 140 yh) x
abbrev yo : List Ty := [(.int .i64), (.int .i64)]
abbrev yd : Type := Int × Int
abbrev YI : yd := V9 yo
abbrev yK (xs : List yd) (i : Int) : yd := rdE yo xs i
def zk (x : List yd) : A := .val (.sl 146 yo) x
abbrev ye : List Ty := [(.int .i64), .bool, (.int .i64)]
abbrev y9 : Type := Int × Bool × Int
abbrev yS : y9 := V9 ye
abbrev yj (xs : List y9) (i : Int) : y9 := rdE ye xs i
def yN (x : List y9) : A := .val (.sl 113 ye) x
abbrev yx : List Ty := [.str, (.int .i64), (.int .i64), .bool]
abbrev ym : Type := ByteArray × Int × Int × Bool
abbrev WM : ym := V9 yx
abbrev yq (xs : List ym) (i : Int) : ym := rdE yx xs i
def Y3 (x : List ym) : A := .val (.sl 46 yx) x
abbrev qN : List Ty := [.str]
abbrev VO : Type := ByteArray
abbrev yer : VO := V9 qN
abbrev ycx (xs : List VO) (i : Int) : VO := rdE qN xs i
abbrev y3j : List Ty := [.bool]
abbrev yaq : Type := Bool
abbrev ycy : yaq := V9 y3j
abbrev ycz (xs : List yaq) (i : Int) : yaq := rdE y3j xs i
abbrev Qz0 : Type := List vu × Int × Int
abbrev qz0 : List Ty := [(.sl 5 Ym), (.int .i64), (.int .i64)]
abbrev Qz1 : Type := List vu × Int
abbrev qz1 : List Ty := [(.sl 5 Ym), (.int .i64)]
abbrev Qz2 : Type := Int × List vu × Int × Int
abbrev qz2 : List Ty := [(.int .i64), (.sl 5 Ym), (.int .i64), (.int .i64)]
abbrev Qz3 : Type := List vu × Int × Int × Int
abbrev qz3 : List Ty := [(.sl 5 Ym), (.int .i64), (.int .i64), (.int .i64)]
abbrev Qz4 : Type := List vu × Int × Int × List yf
abbrev qz4 : List Ty := [(.sl 5 Ym), (.int .i64), (.int .i64), (.sl 3 yi)]
abbrev Qz5 : Type := List vu × Int × Int × List VO
abbrev qz5 : List Ty := [(.sl 5 Ym), (.int .i64), (.int .i64), (.sl 9 qN)]
abbrev Qz6 : Type := ByteArray × List vu × Int × Int
abbrev qz6 : List Ty := [.str, (.sl 5 Ym), (.int .i64), (.int .i64)]
abbrev Qz7 : Type := Int × ByteArray × ByteArray × Int × Int × List vu × Int × Int
abbrev qz7 : List Ty := [(.int .i64), .str, .str, (.int .i64), (.int .i64), (.sl 5 Ym), (.int .i64), (.int .i64)]
abbrev Qz8 : Type := List yf × List y0
abbrev qz8 : List Ty := [(.sl 3 yi), (.sl 140 yh)]
abbrev Qz9 : Type := List yf × List y0 × List yd × List y9 × List ym × Int
abbrev qz9 : List Ty := [(.sl 3 yi), (.sl 140 yh), (.sl 146 yo), (.sl 113 ye), (.sl 46 yx), (.int .i64)]
abbrev ygp : Type := Int × List yb
abbrev ys3 : List Ty := [(.int .i64), (.sl 58 yn)]
abbrev yhZ : Type := Int × List yb × List yb
abbrev ys4 : List Ty := [(.int .i64), (.sl 58 yn), (.sl 58 yn)]
abbrev yla : Type := Int × List yf × List y0 × List yf
abbrev yxk : List Ty := [(.int .i64), (.sl 3 yi), (.sl 140 yh), (.sl 3 yi)]
abbrev yi0 : Type := Int × List yf × List y0 × List yf × List y0
abbrev ys5 : List Ty := [(.int .i64), (.sl 3 yi), (.sl 140 yh), (.sl 3 yi), (.sl 140 yh)]
abbrev ysI : Type := Int × Int × Int
abbrev ysJ : List Ty := [(.int .i64), (.int .i64), (.int .i64)]
abbrev ys6 : Type := List ya × Int × List ya
abbrev ys7 : List Ty := [(.sl 64 yk), (.int .i64), (.sl 64 yk)]
abbrev ys8 : Type := Int × Int × Int × Int × Int × Int × Int × Int × Int × Int
abbrev ys9 : List Ty := [(.int .i64), (.int .i64), (.int .i64), (.int .i64), (.int .i64), (.int .i64), (.int .i64), (.int .i64), (.int .i64), (.int .i64)]
abbrev yxl : Type := List ya × Bool × Int × Int × Int × Int × Int × Int × List ya
abbrev yxm : List Ty := [(.sl 64 yk), .bool, (.int .i64), (.int .i64), (.int .i64), (.int .i64), (.int .i64), (.int .i64), (.sl 64 yk)]
abbrev yxn : Type := Bool × Int × Int × Int × Int × Int × List ya
abbrev yxo : Type := List ya × Int × Int × Int × Int × Int
abbrev yxp : List Ty := [(.sl 64 yk), (.int .i64), (.int .i64), (.int .i64), (.int .i64), (.int .i64)]
abbrev ysK : Type := List ya × List ya
abbrev ysL : List Ty := [(.sl 64 yk), (.sl 64 yk)]
abbrev yxq : Type := Int × List yb × List ya
abbrev yxr : List Ty := [(.int .i64), (.sl 58 yn), (.sl 64 yk)]
abbrev yxs : Type := Int × List yf × List y0 × List ya
abbrev yxt : List Ty := [(.int .i64), (.sl 3 yi), (.sl 140 yh), (.sl 64 yk)]
abbrev ykI : Type := Int × Int
abbrev ylb : List Ty := [(.int .i64), (.int .i64)]
abbrev yes : Type := Int × Int × Int × Int × Int
abbrev VA : List Ty := [(.int .i64), (.int .i64), (.int .i64), (.int .i64), (.int .i64)]
abbrev ysa : Type := List ya × Int
abbrev ysb : List Ty := [(.sl 64 yk), (.int .i64)]
abbrev yxu : Type := List ya × Bool
abbrev yxv : Type := Int × Int × List yb
abbrev yxw : List Ty := [(.int .i64), (.int .i64), (.sl 58 yn)]
abbrev yzB : Type := Bool × List yb
abbrev yxx : Type := Int × Int × Int × List yf × List y0 × List yb
abbrev yxy : List Ty := [(.int .i64), (.int .i64), (.int .i64), (.sl 3 yi), (.sl 140 yh), (.sl 58 yn)]
abbrev yzC : Type := Int × Bool × Int × List yf × List y0 × List yb
abbrev ysM : Type := Int × Int × List yf × List y0 × List yb
abbrev yxz : List Ty := [(.int .i64), (.int .i64), (.sl 3 yi), (.sl 140 yh), (.sl 58 yn)]
abbrev ylc : Type := List yf × List y0 × Int
abbrev yld : List Ty := [(.sl 3 yi), (.sl 140 yh), (.int .i64)]
abbrev y8L : Type := Int × List yf × List y0
abbrev ydN : List Ty := [(.int .i64), (.sl 3 yi), (.sl 140 yh)]
abbrev yzD : Type := Bool × List yf × List y0
abbrev ysN : Type := List yd × Int × Int
abbrev ysO : List Ty := [(.sl 146 yo), (.int .i64), (.int .i64)]
abbrev yet : Type := List yd × Int
abbrev yeu : List Ty := [(.sl 146 yo), (.int .i64)]
abbrev ysc : Type := List yd × Bool
abbrev yxA : List Ty := [(.sl 146 yo), .bool]
abbrev ygq : Type := List y9 × Int
abbrev ygr : List Ty := [(.sl 113 ye), (.int .i64)]
abbrev yxB : Type := List y9 × Bool
abbrev ysd : Type := ByteArray × Int
abbrev yse : List Ty := [.str, (.int .i64)]
abbrev yxC : Type := ByteArray × Bool
abbrev yxD : Type := List yd × Int × Int × List yf
abbrev yxE : List Ty := [(.sl 146 yo), (.int .i64), (.int .i64), (.sl 3 yi)]
abbrev yxF : Type := Int × Int × List yf × List y0 × List yd × List y9 × List ym × Int × ByteArray × Int × Int × Bool
abbrev yxG : List Ty := [(.int .i64), (.int .i64), (.sl 3 yi), (.sl 140 yh), (.sl 146 yo), (.sl 113 ye), (.sl 46 yx), (.int .i64), .str, (.int .i64), (.int .i64), .bool]
abbrev ysP : Type := Bool × Int × List yf × List y0 × List yd × List y9 × List ym × Int
abbrev ybB : Type := Int × List yf × List y0 × List yd × List y9 × List ym × Int
abbrev ygs : List Ty := [(.int .i64), (.sl 3 yi), (.sl 140 yh), (.sl 146 yo), (.sl 113 ye), (.sl 46 yx), (.int .i64)]
abbrev yi1 : Type := Bool × List yf × List y0 × List yd × List y9 × List ym × Int
abbrev ysQ : List Ty := [.bool, (.sl 3 yi), (.sl 140 yh), (.sl 146 yo), (.sl 113 ye), (.sl 46 yx), (.int .i64)]
abbrev ykJ : Type := List y9 × Int × Int
abbrev ykK : List Ty := [(.sl 113 ye), (.int .i64), (.int .i64)]
abbrev yxH : Type := Int × Bool
abbrev yxI : List Ty := [(.int .i64), .bool]
abbrev ysR : Type := Int × Int × Int × List yf × List y0 × List yd × List y9 × List ym × Int × List ya
abbrev yxJ : List Ty := [(.int .i64), (.int .i64), (.int .i64), (.sl 3 yi), (.sl 140 yh), (.sl 146 yo), (.sl 113 ye), (.sl 46 yx), (.int .i64), (.sl 64 yk)]
abbrev yzE : Type := Bool × Int × Int × List yf × List y0 × List yd × List y9 × List ym × Int × List ya
abbrev yi2 : Type := Int × Int × List yf × List y0 × List yd × List y9 × List ym × Int × List ya
abbrev ykL : List Ty := [(.int .i64), (.int .i64), (.sl 3 yi), (.sl 140 yh), (.sl 146 yo), (.sl 113 ye), (.sl 46 yx), (.int .i64), (.sl 64 yk)]
abbrev ysf : Type := List yf × List y0 × List yd × List y9 × List ym × Int × ByteArray
abbrev ysg : List Ty := [(.sl 3 yi), (.sl 140 yh), (.sl 146 yo), (.sl 113 ye), (.sl 46 yx), (.int .i64), .str]
abbrev yxK : Type := ByteArray × Int × List yf × List y0 × List yd × List y9 × List ym × Int
abbrev yxL : List Ty := [.str, (.int .i64), (.sl 3 yi), (.sl 140 yh), (.sl 146 yo), (.sl 113 ye), (.sl 46 yx), (.int .i64)]
abbrev yxM : Type := List yd × Int × Int × Bool × Int × List yd
abbrev yxN : List Ty := [(.sl 146 yo), (.int .i64), (.int .i64), .bool, (.int .i64), (.sl 146 yo)]
abbrev yzF : Type := List yd × Int × Int × Bool × List yd
abbrev ysS : Type := Int × ByteArray × Int × Int × Bool × List ym
abbrev yxO : List Ty := [(.int .i64), .str, (.int .i64), (.int .i64), .bool, (.sl 46 yx)]
abbrev ysT : Type := List ym × ByteArray × Int × Int × Bool
abbrev ysU : List Ty := [(.sl 46 yx), .str, (.int .i64), (.int .i64), .bool]
abbrev yzG : Type := List yf × List y0 × List yd × List y9 × List ym × Int × List yf × List y0 × List yd × List y9 × List ym × Int × Bool
abbrev yzH : List Ty := [(.sl 3 yi), (.sl 140 yh), (.sl 146 yo), (.sl 113 ye), (.sl 46 yx), (.int .i64), (.sl 3 yi), (.sl 140 yh), (.sl 146 yo), (.sl 113 ye), (.sl 46 yx), (.int .i64), .bool]
abbrev y7c : Type := List yf × List y0 × List yd × List y9 × List ym × Int × Int
abbrev y7d : List Ty := [(.sl 3 yi), (.sl 140 yh), (.sl 146 yo), (.sl 113 ye), (.sl 46 yx), (.int .i64), (.int .i64)]
abbrev ysh : Type := List yf × List y0 × List yd × List y9 × List ym × Int × ByteArray × Int
abbrev ysi : List Ty := [(.sl 3 yi), (.sl 140 yh), (.sl 146 yo), (.sl 113 ye), (.sl 46 yx), (.int .i64), .str, (.int .i64)]
abbrev yzI : Type := List yf × List y0 × List yd × List y9 × List ym × Int × ByteArray × ByteArray × Bool
abbrev yzJ : List Ty := [(.sl 3 yi), (.sl 140 yh), (.sl 146 yo), (.sl 113 ye), (.sl 46 yx), (.int .i64), .str, .str, .bool]
abbrev yxP : Type := List y9 × Int × Int × List y9
abbrev yxQ : List Ty := [(.sl 113 ye), (.int .i64), (.int .i64), (.sl 113 ye)]
abbrev yzK : Type := Int × Bool × List y9
abbrev yxR : Type := List y9 × Int × Bool
abbrev yxS : List Ty := [(.sl 113 ye), (.int .i64), .bool]
abbrev yxT : Type := Int × Int × Int × Int × List yf × List y0
abbrev yxU : List Ty := [(.int .i64), (.int .i64), (.int .i64), (.int .i64), (.sl 3 yi), (.sl 140 yh)]
abbrev ysV : Type := List yf × List y0 × Int × Int
abbrev ysW : List Ty := [(.sl 3 yi), (.sl 140 yh), (.int .i64), (.int .i64)]
abbrev yxV : Type := List ya × Int × Int × Int × Int × Int × Int × Int × Int
abbrev yxW : List Ty := [(.sl 64 yk), (.int .i64), (.int .i64), (.int .i64), (.int .i64), (.int .i64), (.int .i64), (.int .i64), (.int .i64)]
abbrev ysX : Type := Bool × Int × Int × Int × Int × Int
abbrev yxX : Type := List ya × Int × Int
abbrev yxY : List Ty := [(.sl 64 yk), (.int .i64), (.int .i64)]
abbrev yi3 : Type := Int × Int × Int × Int × Int × Bool
abbrev yi4 : List Ty := [(.int .i64), (.int .i64), (.int .i64), (.int .i64), (.int .i64), .bool]
abbrev ysY : Type := List yb × Int × Int × Int × Int × Int
abbrev ysZ : List Ty := [(.sl 58 yn), (.int .i64), (.int .i64), (.int .i64), (.int .i64), (.int .i64)]
abbrev yxZ : Type := List yb × Bool
abbrev yy0 : List Ty := [(.sl 58 yn), .bool]
abbrev yzL : Type := List yf × List y0 × Int × List yf × List y0
abbrev yzM : List Ty := [(.sl 3 yi), (.sl 140 yh), (.int .i64), (.sl 3 yi), (.sl 140 yh)]
abbrev yy1 : Type := List yf × List y0 × Int × Int × Int × Int × Int
abbrev yy2 : List Ty := [(.sl 3 yi), (.sl 140 yh), (.int .i64), (.int .i64), (.int .i64), (.int .i64), (.int .i64)]
abbrev yy3 : Type := List yf × List y0 × Bool
abbrev yy4 : List Ty := [(.sl 3 yi), (.sl 140 yh), .bool]
abbrev yy5 : Type := Int × Int × Int × List yb × Int × Int × Int × Int × Int
abbrev yy6 : List Ty := [(.int .i64), (.int .i64), (.int .i64), (.sl 58 yn), (.int .i64), (.int .i64), (.int .i64), (.int .i64), (.int .i64)]
abbrev ykM : Type := List yb × Int × Int
abbrev yt0 : List Ty := [(.sl 58 yn), (.int .i64), (.int .i64)]
abbrev yzN : Type := List yf × List y0 × List yd × List y9 × List ym × Int × Int × Int × Int × Int × Int × Bool
abbrev yzO : List Ty := [(.sl 3 yi), (.sl 140 yh), (.sl 146 yo), (.sl 113 ye), (.sl 46 yx), (.int .i64), (.int .i64), (.int .i64), (.int .i64), (.int .i64), (.int .i64), .bool]
abbrev ysj : Type := List yf × List y0 × List yd × List y9 × List ym × Int × Int × Int × Int × Int × Int
abbrev ysk : List Ty := [(.sl 3 yi), (.sl 140 yh), (.sl 146 yo), (.sl 113 ye), (.sl 46 yx), (.int .i64), (.int .i64), (.int .i64), (.int .i64), (.int .i64), (.int .i64)]
abbrev yzP : Type := List yf × List y0 × List yd × List y9 × List ym × Int × ByteArray × Int × Int
abbrev yzQ : List Ty := [(.sl 3 yi), (.sl 140 yh), (.sl 146 yo), (.sl 113 ye), (.sl 46 yx), (.int .i64), .str, (.int .i64), (.int .i64)]
abbrev yy7 : Type := List yd × Int × List yf
abbrev yy8 : List Ty := [(.sl 146 yo), (.int .i64), (.sl 3 yi)]
abbrev yy9 : Type := Int × Int × List ya × List ya
abbrev yya : List Ty := [(.int .i64), (.int .i64), (.sl 64 yk), (.sl 64 yk)]
abbrev yyb : Type := List yf × Int × Int
abbrev yyc : List Ty := [(.sl 3 yi), (.int .i64), (.int .i64)]
abbrev yzR : Type := List yf × Int
abbrev yzS : List Ty := [(.sl 3 yi), (.int .i64)]
abbrev yyd : Type := List yf × Bool × Int × Int × Int × Int × Int × Int × Int × Int × Int × Int × Int × List ya
abbrev yye : List Ty := [(.sl 3 yi), .bool, (.int .i64), (.int .i64), (.int .i64), (.int .i64), (.int .i64), (.int .i64), (.int .i64), (.int .i64), (.int .i64), (.int .i64), (.int .i64), (.sl 64 yk)]
abbrev yzT : Type := Bool × Int × Int × Int × Int × Int × Int × Int × Int × Int × Int
abbrev yzU : Type := List yf × List y0 × Int × List yf
abbrev yzV : List Ty := [(.sl 3 yi), (.sl 140 yh), (.int .i64), (.sl 3 yi)]
abbrev yyf : Type := List yf × List y0 × List yd × Int × Int
abbrev yyg : List Ty := [(.sl 3 yi), (.sl 140 yh), (.sl 146 yo), (.int .i64), (.int .i64)]
abbrev yzW : Type := List yf × List y0 × List yd × List y9 × List ym × Int × Int × Int
abbrev yzX : List Ty := [(.sl 3 yi), (.sl 140 yh), (.sl 146 yo), (.sl 113 ye), (.sl 46 yx), (.int .i64), (.int .i64), (.int .i64)]
abbrev yle : Type := Int × Int × Bool × Int × List yf × List y0 × List yd × List y9 × List ym × Int × Int × Int × List yf × List y0 × List yd × List y9 × List ym
abbrev yyh : List Ty := [(.int .i64), (.int .i64), .bool, (.int .i64), (.sl 3 yi), (.sl 140 yh), (.sl 146 yo), (.sl 113 ye), (.sl 46 yx), (.int .i64), (.int .i64), (.int .i64), (.sl 3 yi), (.sl 140 yh), (.sl 146 yo), (.sl 113 ye), (.sl 46 yx)]
abbrev ylf : Type := Int × Int × Bool × Int × List yf × List y0 × List yd × List y9 × List ym × Int × Int × List yf × List y0 × List yd × Int × List y9 × List ym
abbrev yyi : List Ty := [(.int .i64), (.int .i64), .bool, (.int .i64), (.sl 3 yi), (.sl 140 yh), (.sl 146 yo), (.sl 113 ye), (.sl 46 yx), (.int .i64), (.int .i64), (.sl 3 yi), (.sl 140 yh), (.sl 146 yo), (.int .i64), (.sl 113 ye), (.sl 46 yx)]
abbrev yzY : Type := Int × Int × Bool × List yf × List y0 × List yd × List y9 × List ym × Int × Int × Int × List yf × List y0 × List yd × List y9 × List ym
abbrev yzZ : Type := Int × Int × Bool × List yf × List y0 × List yd × List y9 × List ym × Int × Int × List yf × List y0 × List yd × Int × List y9 × List ym
abbrev yyj : Type := Int × ByteArray × ByteArray × Int × Int
abbrev yi5 : List Ty := [(.int .i64), .str, .str, (.int .i64), (.int .i64)]
abbrev ykN : Type := List yf × List y0 × List yd × List y9 × List ym × Int × Bool
abbrev ykO : List Ty := [(.sl 3 yi), (.sl 140 yh), (.sl 146 yo), (.sl 113 ye), (.sl 46 yx), (.int .i64), .bool]
abbrev yyk : Type := Int × Int × Int × Int × Int × Int × Int × List ya
abbrev yyl : List Ty := [(.int .i64), (.int .i64), (.int .i64), (.int .i64), (.int .i64), (.int .i64), (.int .i64), (.sl 64 yk)]
abbrev yA0 : Type := List yf × List y0 × List yd × Int × Int × Int × Int × Int × Int
abbrev yA1 : List Ty := [(.sl 3 yi), (.sl 140 yh), (.sl 146 yo), (.int .i64), (.int .i64), (.int .i64), (.int .i64), (.int .i64), (.int .i64)]
abbrev yym : Type := Int × List yf × List y0 × List yd × List y9 × List ym × Int × Int × Int × Int × Int × Int
abbrev yyn : List Ty := [(.int .i64), (.sl 3 yi), (.sl 140 yh), (.sl 146 yo), (.sl 113 ye), (.sl 46 yx), (.int .i64), (.int .i64), (.int .i64), (.int .i64), (.int .i64), (.int .i64)]
abbrev yt1 : Type := Int × Int × List yf × List y0 × List yd × List y9 × List ym × Int
abbrev yyo : List Ty := [(.int .i64), (.int .i64), (.sl 3 yi), (.sl 140 yh), (.sl 146 yo), (.sl 113 ye), (.sl 46 yx), (.int .i64)]
abbrev yt2 : Type := List yf × List y0 × List yd × List y9 × List ym × Int × Int × Int × Int × Int × Int × Int
abbrev yt3 : List Ty := [(.sl 3 yi), (.sl 140 yh), (.sl 146 yo), (.sl 113 ye), (.sl 46 yx), (.int .i64), (.int .i64), (.int .i64), (.int .i64), (.int .i64), (.int .i64), (.int .i64)]
abbrev yt4 : Type := Int × Bool × List yf × List y0 × List yd × List y9 × List ym × Int
abbrev yi6 : Type := Int × List yf × List y0 × List yd × List y9 × List ym × Int × List ya
abbrev ylg : List Ty := [(.int .i64), (.sl 3 yi), (.sl 140 yh), (.sl 146 yo), (.sl 113 ye), (.sl 46 yx), (.int .i64), (.sl 64 yk)]
abbrev ylh : Type := List yd × Int × Int × Int × List yd
abbrev yli : List Ty := [(.sl 146 yo), (.int .i64), (.int .i64), (.int .i64), (.sl 146 yo)]
abbrev ylj : Type := List yf × List y0 × List yd × List y9 × List ym × Int × Int × ByteArray × ByteArray × Int × Int
abbrev ylk : List Ty := [(.sl 3 yi), (.sl 140 yh), (.sl 146 yo), (.sl 113 ye), (.sl 46 yx), (.int .i64), (.int .i64), .str, .str, (.int .i64), (.int .i64)]
abbrev ycA : Type := Int × List vu × Int × Int × Int × Int × List yf × List y0 × List yd × List y9 × List ym
abbrev yll : List Ty := [(.int .i64), (.sl 5 Ym), (.int .i64), (.int .i64), (.int .i64), (.int .i64), (.sl 3 yi), (.sl 140 yh), (.sl 146 yo), (.sl 113 ye), (.sl 46 yx)]
abbrev ycB : Type := Int × List vu × Int × Int × Int × List yf × List y0 × List yd × Int × List y9 × List ym
abbrev ylm : List Ty := [(.int .i64), (.sl 5 Ym), (.int .i64), (.int .i64), (.int .i64), (.sl 3 yi), (.sl 140 yh), (.sl 146 yo), (.int .i64), (.sl 113 ye), (.sl 46 yx)]
abbrev yt5 : Type := List vu × Int × Int × Int × Int × List yf × List y0 × List yd × List y9 × List ym
abbrev yt6 : Type := List vu × Int × Int × Int × List yf × List y0 × List yd × Int × List y9 × List ym
abbrev yln : Type := List yf × List y0 × List yd × List y9 × List ym × Int × List vu × Int × Int
abbrev ylo : List Ty := [(.sl 3 yi), (.sl 140 yh), (.sl 146 yo), (.sl 113 ye), (.sl 46 yx), (.int .i64), (.sl 5 Ym), (.int .i64), (.int .i64)]
abbrev yi7 : Type := Int × Int × Int × Int × Int × List vu × Int × Int
abbrev yi8 : List Ty := [(.int .i64), (.int .i64), (.int .i64), (.int .i64), (.int .i64), (.sl 5 Ym), (.int .i64), (.int .i64)]
abbrev ylp : Type := Int × List vu × Int × Int × List yf × List y0
abbrev ylq : List Ty := [(.int .i64), (.sl 5 Ym), (.int .i64), (.int .i64), (.sl 3 yi), (.sl 140 yh)]
abbrev yt7 : Type := List vu × Int × Int × List yf × List y0
abbrev ylr : Type := List yf × List y0 × List vu × Int × Int
abbrev yls : List Ty := [(.sl 3 yi), (.sl 140 yh), (.sl 5 Ym), (.int .i64), (.int .i64)]
abbrev ycC : Type := Int × List vu × Int × Int × List yb
abbrev ylt : List Ty := [(.int .i64), (.sl 5 Ym), (.int .i64), (.int .i64), (.sl 58 yn)]
abbrev yt8 : Type := List vu × Int × Int × List yb
abbrev ylu : Type := List yb × List vu × Int × Int
abbrev ylv : List Ty := [(.sl 58 yn), (.sl 5 Ym), (.int .i64), (.int .i64)]
abbrev ylw : Type := Int × List vu × Int × Int × List ya
abbrev ylx : List Ty := [(.int .i64), (.sl 5 Ym), (.int .i64), (.int .i64), (.sl 64 yk)]
abbrev yt9 : Type := List vu × Int × Int × List ya
abbrev yly : Type := List ya × List vu × Int × Int
abbrev ylz : List Ty := [(.sl 64 yk), (.sl 5 Ym), (.int .i64), (.int .i64)]
abbrev yta : Type := Bool × List vu × Int × Int
abbrev ytb : List Ty := [.bool, (.sl 5 Ym), (.int .i64), (.int .i64)]
abbrev yev : Type := Int × List vu × Int × Int × List yd
abbrev yew : List Ty := [(.int .i64), (.sl 5 Ym), (.int .i64), (.int .i64), (.sl 146 yo)]
abbrev ylA : Type := List vu × Int × Int × List yd
abbrev ylB : Type := List yd × List vu × Int × Int
abbrev ylC : List Ty := [(.sl 146 yo), (.sl 5 Ym), (.int .i64), (.int .i64)]
abbrev ylD : Type := Int × List vu × Int × Int × List y9
abbrev ylE : List Ty := [(.int .i64), (.sl 5 Ym), (.int .i64), (.int .i64), (.sl 113 ye)]
abbrev ytc : Type := List vu × Int × Int × List y9
abbrev ylF : Type := List y9 × List vu × Int × Int
abbrev ylG : List Ty := [(.sl 113 ye), (.sl 5 Ym), (.int .i64), (.int .i64)]
abbrev ytd : Type := List vu × Int × Int × List yf × List y0 × List yd × List y9 × List ym × Int
abbrev yte : List Ty := [(.sl 5 Ym), (.int .i64), (.int .i64), (.sl 3 yi), (.sl 140 yh), (.sl 146 yo), (.sl 113 ye), (.sl 46 yx), (.int .i64)]
abbrev ylH : Type := Bool × List ya × Int × Int × Int × Int × Int × Int × Int × List ya
abbrev ylI : List Ty := [.bool, (.sl 64 yk), (.int .i64), (.int .i64), (.int .i64), (.int .i64), (.int .i64), (.int .i64), (.int .i64), (.sl 64 yk)]
abbrev yex : Type := List ya × Int × Int × List ya
abbrev yey : List Ty := [(.sl 64 yk), (.int .i64), (.int .i64), (.sl 64 yk)]
abbrev ylJ : Type := List yb × Int × Int × List ya
abbrev ylK : List Ty := [(.sl 58 yn), (.int .i64), (.int .i64), (.sl 64 yk)]
abbrev ylL : Type := List ya × List ya × Int × Int
abbrev ylM : List Ty := [(.sl 64 yk), (.sl 64 yk), (.int .i64), (.int .i64)]
abbrev ylN : Type := Int × List yb × Int × Int × List yb
abbrev ylO : List Ty := [(.int .i64), (.sl 58 yn), (.int .i64), (.int .i64), (.sl 58 yn)]
abbrev ytf : Type := Bool × Int × List yb
abbrev ylP : Type := Int × List yb × Int × Int × List ya × Int × Int × List yf × List y0
abbrev ylQ : List Ty := [(.int .i64), (.sl 58 yn), (.int .i64), (.int .i64), (.sl 64 yk), (.int .i64), (.int .i64), (.sl 3 yi), (.sl 140 yh)]
abbrev ytg : Type := Int × Bool × List yb × Int × Int × List yf × List y0
abbrev yi9 : Type := Int × List yb × Int × Int × List yf × List y0
abbrev ylR : List Ty := [(.int .i64), (.sl 58 yn), (.int .i64), (.int .i64), (.sl 3 yi), (.sl 140 yh)]
abbrev ylS : Type := Int × List y0 × Int × Int × List yf × List y0
abbrev ylT : List Ty := [(.int .i64), (.sl 140 yh), (.int .i64), (.int .i64), (.sl 3 yi), (.sl 140 yh)]
abbrev ylU : Type := Bool × Int
abbrev yth : List Ty := [.bool, (.int .i64)]
abbrev ylV : Type := List yd × Int × Int × Int
abbrev ylW : List Ty := [(.sl 146 yo), (.int .i64), (.int .i64), (.int .i64)]
abbrev ylX : Type := List yd × List yd × Int × Int
abbrev ylY : List Ty := [(.sl 146 yo), (.sl 146 yo), (.int .i64), (.int .i64)]
abbrev ylZ : Type := List y9 × List y9 × Int × Int
abbrev ym0 : List Ty := [(.sl 113 ye), (.sl 113 ye), (.int .i64), (.int .i64)]
abbrev ym1 : Type := Int × List yd × Int × Int × List yf
abbrev ym2 : List Ty := [(.int .i64), (.sl 146 yo), (.int .i64), (.int .i64), (.sl 3 yi)]
abbrev yti : Type := ByteArray × Int × Int × Bool × ByteArray × Int × Int × Bool
abbrev ytj : List Ty := [.str, (.int .i64), (.int .i64), .bool, .str, (.int .i64), (.int .i64), .bool]
abbrev ym3 : Type := Bool × ByteArray × Int × Int × Bool
abbrev ym4 : List Ty := [.bool, .str, (.int .i64), (.int .i64), .bool]
abbrev ym5 : Type := List ym × Int × Int × ByteArray × Int × Int × Bool
abbrev ym6 : List Ty := [(.sl 46 yx), (.int .i64), (.int .i64), .str, (.int .i64), (.int .i64), .bool]
abbrev ym7 : Type := Int × ByteArray × Int × Int × Bool
abbrev ytk : List Ty := [(.int .i64), .str, (.int .i64), (.int .i64), .bool]
abbrev ytl : Type := ByteArray × Int × Int × Bool
abbrev ycD : List Ty := [.str, (.int .i64), (.int .i64), .bool]
abbrev ym8 : Type := List ym × Int × Int × List yf × List y0 × List yd × List y9 × List ym × Int
abbrev ym9 : List Ty := [(.sl 46 yx), (.int .i64), (.int .i64), (.sl 3 yi), (.sl 140 yh), (.sl 146 yo), (.sl 113 ye), (.sl 46 yx), (.int .i64)]
abbrev yma : Type := Int × List y9 × Int × Int
abbrev ymb : List Ty := [(.int .i64), (.sl 113 ye), (.int .i64), (.int .i64)]
abbrev ymc : Type := List y0 × Int × Int × List ya
abbrev ymd : List Ty := [(.sl 140 yh), (.int .i64), (.int .i64), (.sl 64 yk)]
abbrev yme : Type := Int × Int × Int × List yf × List y0 × List yd × List y9 × List ym × Int × List yaq × List ya
abbrev ymf : List Ty := [(.int .i64), (.int .i64), (.int .i64), (.sl 3 yi), (.sl 140 yh), (.sl 146 yo), (.sl 113 ye), (.sl 46 yx), (.int .i64), (.sl 4 y3j), (.sl 64 yk)]
abbrev ymg : Type := List yd × Int × Int × List yf × List y0 × List yd × List y9 × List ym × Int
abbrev ymh : List Ty := [(.sl 146 yo), (.int .i64), (.int .i64), (.sl 3 yi), (.sl 140 yh), (.sl 146 yo), (.sl 113 ye), (.sl 46 yx), (.int .i64)]
abbrev ycE : Type := List yb × Int × Int × List yb
abbrev ymi : List Ty := [(.sl 58 yn), (.int .i64), (.int .i64), (.sl 58 yn)]
abbrev ycF : Type := List y0 × Int × Int × List yf
abbrev ymj : List Ty := [(.sl 140 yh), (.int .i64), (.int .i64), (.sl 3 yi)]
abbrev ycG : Type := List y0 × Int × Int × List yf × List y0
abbrev ymk : List Ty := [(.sl 140 yh), (.int .i64), (.int .i64), (.sl 3 yi), (.sl 140 yh)]
abbrev yml : Type := Int × Int × Int × List yf × List y0
abbrev ymm : List Ty := [(.int .i64), (.int .i64), (.int .i64), (.sl 3 yi), (.sl 140 yh)]
abbrev ymn : Type := Int × Int × List ya × Int × Int × Int × Int × Int × Int × Int
abbrev ymo : List Ty := [(.int .i64), (.int .i64), (.sl 64 yk), (.int .i64), (.int .i64), (.int .i64), (.int .i64), (.int .i64), (.int .i64), (.int .i64)]
abbrev ytm : Type := List yf × List y0 × Int × Int × List yf × List y0
abbrev ytn : List Ty := [(.sl 3 yi), (.sl 140 yh), (.int .i64), (.int .i64), (.sl 3 yi), (.sl 140 yh)]
abbrev ycH : Type := Int × Int × Int × Int × List yf × List y0 × List yd × List y9 × List ym × Int × Int × Int × List y9 × List ya × List yf × List y0 × List yd × List y9 × List ym
abbrev ymp : List Ty := [(.int .i64), (.int .i64), (.int .i64), (.int .i64), (.sl 3 yi), (.sl 140 yh), (.sl 146 yo), (.sl 113 ye), (.sl 46 yx), (.int .i64), (.int .i64), (.int .i64), (.sl 113 ye), (.sl 64 yk), (.sl 3 yi), (.sl 140 yh), (.sl 146 yo), (.sl 113 ye), (.sl 46 yx)]
abbrev ycI : Type := Int × Int × Int × Int × List yf × List y0 × List yd × List y9 × List ym × Int × Int × List yf × List y0 × Int × List y9 × List ya × List yd × List y9 × List ym
abbrev ymq : List Ty := [(.int .i64), (.int .i64), (.int .i64), (.int .i64), (.sl 3 yi), (.sl 140 yh), (.sl 146 yo), (.sl 113 ye), (.sl 46 yx), (.int .i64), (.int .i64), (.sl 3 yi), (.sl 140 yh), (.int .i64), (.sl 113 ye), (.sl 64 yk), (.sl 146 yo), (.sl 113 ye), (.sl 46 yx)]
abbrev yto : Type := Int × Bool × List yf × List y0 × List yd × List y9 × List ym × Int × Int × Int × List y9 × List yf × List y0 × List yd × List y9 × List ym × List yf × List y0 × List yd × List y9 × List ym
abbrev ytp : Type := Int × List yf × List y0 × List yd × List y9 × List ym × Int × Int × Int × List y9 × List yf × List y0 × List yd × List y9 × List ym
abbrev ytq : Type := Int × Bool × List yf × List y0 × List yd × List y9 × List ym × Int × Int × List yf × List y0 × Int × List y9 × List yf × List y0 × List yd × List y9 × List ym × List yd × List y9 × List ym
abbrev ytr : Type := Int × List yf × List y0 × List yd × List y9 × List ym × Int × Int × List yf × List y0 × Int × List y9 × List yd × List y9 × List ym
abbrev ycJ : Type := Int × Int × List vu × Int × Int × List yf × List y0 × List yd × List y9 × Int × List ym
abbrev ymr : List Ty := [(.int .i64), (.int .i64), (.sl 5 Ym), (.int .i64), (.int .i64), (.sl 3 yi), (.sl 140 yh), (.sl 146 yo), (.sl 113 ye), (.int .i64), (.sl 46 yx)]
abbrev ycK : Type := Int × Int × List vu × Int × Int × List yf × List y0 × List yd × Int × List y9 × List ym
abbrev yms : List Ty := [(.int .i64), (.int .i64), (.sl 5 Ym), (.int .i64), (.int .i64), (.sl 3 yi), (.sl 140 yh), (.sl 146 yo), (.int .i64), (.sl 113 ye), (.sl 46 yx)]
abbrev yts : Type := Int × List yf × List y0 × List yd × List y9 × Int × List ym
abbrev ytt : Type := Int × List yf × List y0 × List yd × Int × List y9 × List ym
abbrev ymt : Type := List yf × List yf × Int
abbrev ymu : List Ty := [(.sl 3 yi), (.sl 3 yi), (.int .i64)]
abbrev ytu : Type := List yf × List yf
abbrev ytv : List Ty := [(.sl 3 yi), (.sl 3 yi)]
abbrev ymv : Type := List ya × List ya × Int
abbrev ymw : List Ty := [(.sl 64 yk), (.sl 64 yk), (.int .i64)]
abbrev ytw : Type := List yb × List yb
abbrev ytx : List Ty := [(.sl 58 yn), (.sl 58 yn)]
abbrev yty : Type := List yf × List y0 × List yf × List y0
abbrev ytz : List Ty := [(.sl 3 yi), (.sl 140 yh), (.sl 3 yi), (.sl 140 yh)]
abbrev ymx : Type := List yd × List yd × Int
abbrev ymy : List Ty := [(.sl 146 yo), (.sl 146 yo), (.int .i64)]
abbrev ytA : Type := List yd × List yd
abbrev ytB : List Ty := [(.sl 146 yo), (.sl 146 yo)]
abbrev ymz : Type := List y9 × List y9 × Int
abbrev ymA : List Ty := [(.sl 113 ye), (.sl 113 ye), (.int .i64)]
abbrev ytC : Type := List y9 × List y9
abbrev ytD : List Ty := [(.sl 113 ye), (.sl 113 ye)]
abbrev ymB : Type := Int × List yf × List y0 × List yd × List y9 × List ym × Int × List yf × List y0 × List yd × List y9 × List ym × Int
abbrev ymC : List Ty := [(.int .i64), (.sl 3 yi), (.sl 140 yh), (.sl 146 yo), (.sl 113 ye), (.sl 46 yx), (.int .i64), (.sl 3 yi), (.sl 140 yh), (.sl 146 yo), (.sl 113 ye), (.sl 46 yx), (.int .i64)]
abbrev ymD : Type := List yf × List y0 × List yd × List y9 × List ym × Int × List yf × List y0 × List yd × List y9 × List ym × Int
abbrev ytE : List Ty := [(.sl 3 yi), (.sl 140 yh), (.sl 146 yo), (.sl 113 ye), (.sl 46 yx), (.int .i64), (.sl 3 yi), (.sl 140 yh), (.sl 146 yo), (.sl 113 ye), (.sl 46 yx), (.int .i64)]
abbrev y9k : Type := Int × Int × Int × List yf × List y0 × List yd × List y9 × List ym
abbrev yez : List Ty := [(.int .i64), (.int .i64), (.int .i64), (.sl 3 yi), (.sl 140 yh), (.sl 146 yo), (.sl 113 ye), (.sl 46 yx)]
abbrev ycL : Type := Int × Int × List yf × List y0 × Int × List yd × List y9 × List ym
abbrev ymE : List Ty := [(.int .i64), (.int .i64), (.sl 3 yi), (.sl 140 yh), (.int .i64), (.sl 146 yo), (.sl 113 ye), (.sl 46 yx)]
abbrev ymF : Type := Int × Int × List yf × List y0 × List yd × List y9 × List ym
abbrev ytF : Type := Int × List yf × List y0 × Int × List yd × List y9 × List ym
def ymG : List (Nat × TI) := [
 (3, .c (.int .i64) 8),
 (4, .c (.bool) 1),
 (5, .c (.int .u8) 1),
 (9, .c (.str) 16),
 (22, .c (.sl 5 Ym) 24),
 (24, .c (.sl 3 yi) 24),
 (25, .c (.sl 140 yh) 24),
 (27, .s [(0, 24), (1, 25)] [(.sl 3 yi), (.sl 140 yh)] 48),
 (28, .c (.sl 146 yo) 24),
 (29, .c (.sl 113 ye) 24),
 (30, .c (.sl 46 yx) 24),
 (32, .s [(0, 27), (2, 28), (3, 29), (4, 30), (5, 3)] [(.sl 3 yi), (.sl 140 yh), (.sl 146 yo), (.sl 113 ye), (.sl 46 yx), (.int .i64)] 128),
 (41, .s [(0, 3), (1, 9), (2, 9), (3, 3), (4, 3)] [(.int .i64), .str, .str, (.int .i64), (.int .i64)] 56),
 (46, .s [(0, 9), (1, 3), (2, 3), (3, 4)] [.str, (.int .i64), (.int .i64), .bool] 40),
 (58, .c (.sl 64 yk) 24),
 (64, .s [(0, 3), (1, 3), (2, 3), (3, 3), (4, 3)] [(.int .i64), (.int .i64), (.int .i64), (.int .i64), (.int .i64)] 40),
 (113, .s [(0, 3), (1, 4), (2, 3)] [(.int .i64), .bool, (.int .i64)] 24),
 (138, .c (.sl 58 yn) 24),
 (140, .s [(0, 138)] [(.sl 58 yn)] 24),
 (146, .s [(0, 3), (1, 3)] [(.int .i64), (.int .i64)] 16),
 (218, .s [(0, 22), (1, 3), (2, 3)] [(.sl 5 Ym), (.int .i64), (.int .i64)] 40),
 (221, .c (.sl 9 qN) 24),
 (235, .c (.sl 4 y3j) 24)]
def sg9 : Sig := ⟨[.v false [(.sl 5 Ym)] [false]], [⟨false, [.bool], [false]⟩], false, false⟩
def ymH : Sig := ⟨[.v false [(.sl 5 Ym)] [false]], [⟨true, qz0, (nf 3)⟩], true, false⟩
def ymI : Sig := ⟨[.v false [(.sl 5 Ym)] [false], .v false [(.int .i64)] [false]], [⟨false, [(.int .i64)], [false]⟩], false, false⟩
def ymJ : Sig := ⟨[.p none qz0 (nf 3)], [⟨false, [(.int .i64)], [false]⟩], false, false⟩
def ymK : Sig := ⟨[.p none qz0 (nf 3), .v false [(.int .i64)] [false]], [⟨false, [(.int .i64)], [false]⟩], false, false⟩
def yyp : Sig := ⟨[.p none qz0 (nf 3), .v false [(.sl 3 yi)] [false]], [⟨false, [(.int .i64)], [false]⟩], false, false⟩
def ymL : Sig := ⟨[.p none qz0 (nf 3), .v false [(.sl 9 qN)] [false]], [⟨false, [.str], [false]⟩], false, false⟩
def ymM : Sig := ⟨[.p none qz0 (nf 3)], [⟨false, [.str], [false]⟩], false, false⟩
def ymN : Sig := ⟨[.p none qz0 (nf 3)], [⟨false, [(.int .i64)], [false]⟩], false, false⟩
def ymO : Sig := ⟨[.p none qz0 (nf 3)], [⟨true, yi5, (nf 5)⟩], false, false⟩
def ymP : Sig := ⟨[], [⟨true, qz8, [true, true]⟩], false, false⟩
def ymQ : Sig := ⟨[], [⟨false, [(.sl 113 ye)], [true]⟩], false, false⟩
def ymR : Sig := ⟨[], [⟨true, qz9, [true, true, true, true, true, false]⟩], false, false⟩
def ymS : Sig := ⟨[.v true [(.sl 58 yn)] [false]], [⟨true, [(.sl 58 yn)], [true]⟩], false, false⟩
def ymT : Sig := ⟨[.v true qz8 [false, false]], [⟨true, qz8, [true, true]⟩], false, false⟩
def ymU : Sig := ⟨[.v false [(.sl 113 ye)] [false]], [⟨false, [(.sl 113 ye)], [true]⟩], false, false⟩
def yyq : Sig := ⟨[.v true qz9 (nf 6)], [⟨true, qz9, [true, true, true, true, true, false]⟩], false, false⟩
def yyr : Sig := ⟨[.v false [(.int .i64)] [false], .v false [(.int .i64)] [false], .v false [(.int .i64)] [false]], [⟨false, [.bool], [false]⟩], false, false⟩
def ymV : Sig := ⟨[.v false [(.sl 64 yk)] [false]], [⟨false, [(.sl 64 yk)], [true]⟩], false, false⟩
def ymW : Sig := ⟨[.v true VA (nf 5), .v true VA (nf 5)], [⟨false, [.bool], [false]⟩], false, false⟩
def ymX : Sig := ⟨[.v true VA (nf 5), .v true VA (nf 5)], [⟨false, [.bool], [false]⟩], false, false⟩
def ymY : Sig := ⟨[.v false [(.sl 64 yk)] [false], .v true VA (nf 5)], [⟨false, [(.sl 64 yk)], [true]⟩], false, false⟩
def ymZ : Sig := ⟨[.v false [(.sl 64 yk)] [false], .v false [(.sl 64 yk)] [false]], [⟨false, [(.sl 64 yk)], [true]⟩], false, false⟩
def yn0 : Sig := ⟨[.v true [(.sl 58 yn)] [false]], [⟨false, [(.sl 64 yk)], [true]⟩], false, false⟩
def yn1 : Sig := ⟨[.v true qz8 [false, false]], [⟨false, [(.sl 64 yk)], [true]⟩], false, false⟩
def yn2 : Sig := ⟨[.v false [(.int .i64)] [false], .v false [(.int .i64)] [false]], [⟨false, [(.int .i64)], [false]⟩], false, false⟩
def yn3 : Sig := ⟨[.v true VA (nf 5)], [⟨false, [(.int .i64)], [false]⟩], false, false⟩
def yn4 : Sig := ⟨[.v true VA (nf 5)], [⟨false, [.bool], [false]⟩], false, false⟩
def yn5 : Sig := ⟨[.v false [(.sl 64 yk)] [false]], [⟨false, [.bool], [false]⟩], false, false⟩
def yn6 : Sig := ⟨[.v false [(.sl 64 yk)] [false]], [⟨false, [.bool], [false]⟩], false, false⟩
def yn7 : Sig := ⟨[.v true [(.sl 58 yn)] [false]], [⟨false, [(.int .i64)], [false]⟩], false, false⟩
def yn8 : Sig := ⟨[.v true [(.sl 58 yn)] [false]], [⟨false, [.bool], [false]⟩], false, false⟩
def yn9 : Sig := ⟨[.v true qz8 [false, false], .v false [(.int .i64)] [false]], [⟨false, [.bool], [false]⟩], false, false⟩
def yna : Sig := ⟨[.v true qz8 [false, false]], [⟨false, [.bool], [false]⟩], false, false⟩
def ynb : Sig := ⟨[.v false [(.sl 146 yo)] [false], .v false [(.int .i64)] [false]], [⟨false, [(.int .i64)], [false]⟩], false, false⟩
def ync : Sig := ⟨[.v false [(.sl 146 yo)] [false]], [⟨false, [.bool], [false]⟩], false, false⟩
def ynd : Sig := ⟨[.v false [(.int .i64)] [false]], [⟨false, [.bool], [false]⟩], false, false⟩
def yne : Sig := ⟨[.v false [(.sl 113 ye)] [false]], [⟨false, [.bool], [false]⟩], false, false⟩
def ynf : Sig := ⟨[.v false [.str] [false]], [⟨false, [.bool], [false]⟩], false, false⟩
def yng : Sig := ⟨[.v false [(.sl 146 yo)] [false], .v false [(.int .i64)] [false]], [⟨false, [(.sl 3 yi)], [true]⟩], false, false⟩
def ynh : Sig := ⟨[.v true qz9 (nf 6)], [⟨false, [.bool], [false]⟩], false, false⟩
def yni : Sig := ⟨[.v false [(.sl 113 ye)] [false]], [⟨false, [(.int .i64)], [false]⟩], false, false⟩
def ynj : Sig := ⟨[.v false [(.sl 113 ye)] [false], .v false [(.int .i64)] [false], .v false [(.int .i64)] [false]], [⟨false, [(.int .i64)], [false]⟩, ⟨false, [.bool], [false]⟩], false, false⟩
def ynk : Sig := ⟨[.v true qz9 (nf 6)], [⟨false, [.bool], [false]⟩], false, false⟩
def yys : Sig := ⟨[.v true qz9 (nf 6)], [⟨false, [.bool], [false]⟩], false, false⟩
def ynl : Sig := ⟨[.v true qz9 (nf 6), .v false [.str] [false]], [⟨false, [(.int .i64)], [false]⟩], false, false⟩
def ynm : Sig := ⟨[.v true qz9 (nf 6), .v false [.str] [false]], [⟨false, [(.int .i64)], [false]⟩], false, false⟩
def ynn : Sig := ⟨[.v false [(.sl 146 yo)] [false], .v false [(.int .i64)] [false], .v false [(.int .i64)] [false]], [⟨false, [(.sl 146 yo)], [true]⟩, ⟨false, [.bool], [false]⟩], false, false⟩
def yno : Sig := ⟨[.v false [(.sl 46 yx)] [false], .v true ycD (nf 4)], [⟨false, [(.sl 46 yx)], [true]⟩], false, false⟩
def ynp : Sig := ⟨[.v true qz9 (nf 6), .v true qz9 [false, false, false, true, true, false], .v false [.bool] [false]], [⟨true, qz9, [false, false, false, true, true, false]⟩, ⟨false, [(.int .i64)], [false]⟩], false, false⟩
def yyt : Sig := ⟨[.v true qz9 (nf 6), .v false [.str] [false], .v false [(.int .i64)] [false]], [⟨true, qz9, [false, false, false, true, true, false]⟩, ⟨false, [(.int .i64)], [false]⟩], false, false⟩
def yyu : Sig := ⟨[.v true qz9 (nf 6), .v false [.str] [false], .v false [.str] [false], .v false [.bool] [false]], [⟨true, qz9, [false, false, false, true, true, false]⟩, ⟨false, [(.int .i64)], [false]⟩], false, false⟩
def ynq : Sig := ⟨[.v true qz9 (nf 6), .v false [.str] [false]], [⟨false, [(.int .i64)], [false]⟩], false, false⟩
def yyv : Sig := ⟨[.v true qz9 (nf 6), .v false [.str] [false]], [⟨true, qz9, [false, false, false, true, true, false]⟩, ⟨false, [(.int .i64)], [false]⟩], false, false⟩
def ynr : Sig := ⟨[.v false [(.sl 113 ye)] [false], .v false [(.int .i64)] [false]], [⟨false, [(.sl 113 ye)], [true]⟩, ⟨false, [(.int .i64)], [false]⟩, ⟨false, [.bool], [false]⟩], false, false⟩
def yns : Sig := ⟨[.v true qz9 (nf 6), .v false [.str] [false], .v false [(.int .i64)] [false]], [⟨false, [(.int .i64)], [false]⟩], false, false⟩
def ynt : Sig := ⟨[.v true qz8 [false, false], .v false [(.int .i64)] [false], .v false [(.int .i64)] [false]], [⟨false, [(.int .i64)], [false]⟩], false, false⟩
def ynu : Sig := ⟨[.v false [(.sl 64 yk)] [false]], [⟨true, [(.sl 58 yn)], [true]⟩], false, false⟩
def ynv : Sig := ⟨[.v false [(.sl 64 yk)] [false], .v false [(.int .i64)] [false], .v false [(.int .i64)] [false]], [⟨true, VA, (nf 5)⟩, ⟨false, [.bool], [false]⟩], false, false⟩
def ynw : Sig := ⟨[.v true [(.sl 58 yn)] [false], .v true VA (nf 5)], [⟨true, [(.sl 58 yn)], [true]⟩, ⟨false, [.bool], [false]⟩], false, false⟩
def ynx : Sig := ⟨[.v true qz8 [true, true], .v false [(.int .i64)] [false], .v false [(.sl 3 yi)] [false], .v false [(.sl 140 yh)] [false]], [⟨true, qz8, [true, true]⟩], false, true⟩
def yny : Sig := ⟨[.v true qz8 [false, false]], [⟨false, [(.int .i64)], [false]⟩], false, false⟩
def ynz : Sig := ⟨[.v true qz8 [true, true]], [⟨true, qz8, [true, true]⟩], false, false⟩
def ynA : Sig := ⟨[.v true qz8 [false, false], .v true VA (nf 5)], [⟨true, qz8, [true, true]⟩, ⟨false, [.bool], [false]⟩], false, false⟩
def ynB : Sig := ⟨[.v true [(.sl 58 yn)] [false], .v false [(.int .i64)] [false], .v false [(.int .i64)] [false]], [⟨true, VA, (nf 5)⟩, ⟨false, [.bool], [false]⟩], false, false⟩
def ynC : Sig := ⟨[.v true qz8 [false, false], .v false [(.int .i64)] [false], .v false [(.int .i64)] [false]], [⟨true, VA, (nf 5)⟩, ⟨false, [.bool], [false]⟩], false, false⟩
def ynD : Sig := ⟨[.v false [(.sl 113 ye)] [false], .v false [(.int .i64)] [false]], [⟨false, [(.sl 113 ye)], [true]⟩], false, false⟩
def ynE : Sig := ⟨[.p none qz9 [false, false, false, true, true, false], .v true VA (nf 5), .v false [.bool] [false]], [], false, false⟩
def ynF : Sig := ⟨[.p none qz9 [false, false, false, true, true, false], .v true VA (nf 5)], [⟨false, [.bool], [false]⟩], false, false⟩
def yyw : Sig := ⟨[.v true qz9 (nf 6), .v false [.str] [false], .v false [(.int .i64)] [false], .v false [(.int .i64)] [false]], [⟨true, qz9, [false, false, false, true, true, false]⟩, ⟨false, [(.int .i64)], [false]⟩], false, false⟩
def ynG : Sig := ⟨[.v false [(.sl 146 yo)] [false], .v false [(.int .i64)] [false]], [⟨false, [(.sl 3 yi)], [true]⟩], false, false⟩
def ynH : Sig := ⟨[.v true qz8 [false, false], .v false [(.int .i64)] [false]], [⟨false, [(.sl 64 yk)], [true]⟩], false, false⟩
def ynI : Sig := ⟨[.v false [(.sl 3 yi)] [false], .v false [(.int .i64)] [false]], [⟨false, [.bool], [false]⟩], false, false⟩
def ynJ : Sig := ⟨[.v true qz8 [false, false], .v false [(.int .i64)] [false], .v false [(.sl 3 yi)] [false]], [⟨true, VA, (nf 5)⟩, ⟨false, [.bool], [false]⟩], false, false⟩
def ynK : Sig := ⟨[.v true qz8 [false, false], .v false [(.sl 146 yo)] [false], .v false [(.int .i64)] [false], .v false [(.int .i64)] [false]], [⟨true, VA, (nf 5)⟩, ⟨false, [.bool], [false]⟩], false, false⟩
def ynL : Sig := ⟨[.p none qz9 [false, false, false, true, true, false], .v false [(.int .i64)] [false], .v false [(.int .i64)] [false]], [⟨false, [.bool], [false]⟩], false, false⟩
def yyx : Sig := ⟨[.v true qz9 (nf 6), .v false [.str] [false], .v false [(.int .i64)] [false]], [⟨true, qz9, [false, false, false, true, true, false]⟩, ⟨false, [(.int .i64)], [false]⟩], false, false⟩
def yyy : Sig := ⟨[.v true qz9 (nf 6), .v false [.str] [false], .v false [(.int .i64)] [false]], [⟨true, qz9, [false, false, false, true, true, false]⟩, ⟨false, [(.int .i64)], [false]⟩], false, false⟩
def ynM : Sig := ⟨[.v true yi5 (nf 5)], [⟨false, [.bool], [false]⟩], false, false⟩
def ynN : Sig := ⟨[.v true yi5 (nf 5)], [⟨false, [.bool], [false]⟩], false, false⟩
def ynO : Sig := ⟨[.v true [(.sl 58 yn)] [false]], [⟨true, [(.sl 58 yn)], [true]⟩], false, false⟩
def yyz : Sig := ⟨[.v true qz8 [false, false], .v false [(.int .i64)] [false]], [⟨true, qz8, [true, true]⟩], false, false⟩
def yyA : Sig := ⟨[.v true qz9 (nf 6), .v false [(.int .i64)] [false]], [⟨true, qz9, [true, true, true, true, true, false]⟩, ⟨false, [.bool], [false]⟩], false, false⟩
def ynP : Sig := ⟨[.v true qz9 (nf 6), .v false [(.int .i64)] [false]], [⟨true, VA, (nf 5)⟩], false, false⟩
def yyB : Sig := ⟨[.v true qz9 (nf 6), .v false [(.int .i64)] [false]], [⟨true, qz9, [true, true, true, true, true, false]⟩, ⟨false, [.bool], [false]⟩], false, false⟩
def ynQ : Sig := ⟨[.v true qz8 [false, false], .v false [(.sl 146 yo)] [false], .v false [(.int .i64)] [false], .v false [(.int .i64)] [false]], [⟨true, VA, (nf 5)⟩, ⟨false, [.bool], [false]⟩], false, false⟩
def ynR : Sig := ⟨[.v true qz8 [false, false], .v false [(.sl 146 yo)] [false], .v true VA (nf 5), .v false [(.int .i64)] [false]], [⟨false, [.bool], [false]⟩], false, false⟩
def yyC : Sig := ⟨[.v true qz9 (nf 6), .v true VA (nf 5)], [⟨false, [.bool], [false]⟩], false, false⟩
def ynS : Sig := ⟨[.v true qz9 (nf 6), .v false [(.int .i64)] [false]], [⟨false, [.bool], [false]⟩], false, false⟩
def ynT : Sig := ⟨[.v true qz9 (nf 6), .v false [(.int .i64)] [false]], [⟨false, [(.int .i64)], [false]⟩], false, false⟩
def ynU : Sig := ⟨[.v true qz9 (nf 6), .v true VA (nf 5)], [⟨false, [.bool], [false]⟩], false, false⟩
def ynV : Sig := ⟨[.v true qz9 (nf 6), .v false [(.int .i64)] [false], .v true VA (nf 5)], [⟨false, [.bool], [false]⟩], false, false⟩
def ynW : Sig := ⟨[.v true qz9 (nf 6), .v false [(.int .i64)] [false]], [⟨false, [.bool], [false]⟩], false, false⟩
def yyD : Sig := ⟨[.v true qz9 (nf 6)], [⟨false, [(.int .i64)], [false]⟩, ⟨false, [(.int .i64)], [false]⟩], false, false⟩
def ynX : Sig := ⟨[.p none qz9 [false, false, false, true, true, false], .v true VA (nf 5)], [⟨false, [.bool], [false]⟩], false, false⟩
def ynY : Sig := ⟨[.v false [(.sl 146 yo)] [false], .v false [(.int .i64)] [false]], [⟨false, [(.sl 146 yo)], [true]⟩, ⟨false, [.bool], [false]⟩], false, false⟩
def yyE : Sig := ⟨[.v true qz9 (nf 6)], [⟨true, qz9, [false, false, false, true, true, false]⟩, ⟨false, [.bool], [false]⟩], false, false⟩
def ynZ : Sig := ⟨[.v true qz9 (nf 6), .v true yi5 (nf 5)], [⟨true, qz9, [false, false, false, true, true, false]⟩, ⟨false, [.bool], [false]⟩], false, false⟩
def yo0 : Sig := ⟨[.v true qz9 (nf 6), .v true yi5 (nf 5)], [⟨true, qz9, [false, false, false, true, true, false]⟩, ⟨false, [(.int .i64)], [false]⟩], false, false⟩
def yo1 : Sig := ⟨[.p none qz0 (nf 3), .v false [(.int .i64)] [false]], [⟨true, qz9, [false, false, false, true, true, false]⟩], false, false⟩
def yo2 : Sig := ⟨[.p none qz0 (nf 3)], [⟨true, VA, (nf 5)⟩], false, false⟩
def yo3 : Sig := ⟨[.p none qz0 (nf 3)], [⟨true, VA, (nf 5)⟩], false, false⟩
def yo4 : Sig := ⟨[.p none qz0 (nf 3), .v false [(.int .i64)] [false]], [⟨true, qz8, [true, true]⟩], false, false⟩
def yo5 : Sig := ⟨[.p none qz0 (nf 3)], [⟨true, [(.sl 58 yn)], [true]⟩], false, false⟩
def yo6 : Sig := ⟨[.p none qz0 (nf 3), .v false [(.int .i64)] [false]], [⟨false, [(.sl 64 yk)], [true]⟩], false, false⟩
def yo7 : Sig := ⟨[.p none qz0 (nf 3)], [⟨true, VA, (nf 5)⟩], false, false⟩
def yo8 : Sig := ⟨[.p none qz0 (nf 3), .v false [(.int .i64)] [false]], [⟨false, [(.sl 64 yk)], [true]⟩], false, false⟩
def yo9 : Sig := ⟨[.p none qz0 (nf 3)], [⟨true, [(.sl 58 yn)], [true]⟩], false, false⟩
def yoa : Sig := ⟨[.p none qz0 (nf 3), .v false [(.int .i64)] [false]], [⟨true, qz8, [true, true]⟩], false, false⟩
def yob : Sig := ⟨[.p none qz0 (nf 3), .v false [(.int .i64)] [false]], [⟨false, [.bool], [false]⟩], false, false⟩
def yoc : Sig := ⟨[.p none qz0 (nf 3)], [⟨false, [(.sl 146 yo)], [true]⟩], false, false⟩
def yod : Sig := ⟨[.p none qz0 (nf 3)], [⟨false, [(.sl 146 yo)], [true]⟩], false, false⟩
def yoe : Sig := ⟨[.p none qz0 (nf 3)], [⟨false, [(.sl 113 ye)], [true]⟩], false, false⟩
def yof : Sig := ⟨[.p none qz0 (nf 3)], [⟨false, [(.sl 113 ye)], [false]⟩], false, false⟩
def yog : Sig := ⟨[.p none qz0 (nf 3), .v false [(.int .i64)] [false]], [⟨true, qz9, [false, false, false, false, true, false]⟩], false, false⟩
def yyF : Sig := ⟨[.v false [(.sl 5 Ym)] [false]], [⟨true, qz0, (nf 3)⟩, ⟨true, qz9, [false, false, false, false, true, false]⟩], true, false⟩
def yyG : Sig := ⟨[.v false [(.sl 5 Ym)] [false]], [⟨true, qz9, [false, false, false, false, true, false]⟩, ⟨false, [(.int .i64)], [false]⟩], false, false⟩
def yyH : Sig := ⟨[.v false [(.int .i64)] [false], .v false [(.int .i64)] [false], .v false [(.int .i64)] [false]], [⟨false, [.bool], [false]⟩], false, false⟩
def yoh : Sig := ⟨[.v true VA (nf 5), .v true VA (nf 5)], [⟨false, [.bool], [false]⟩], false, false⟩
def yoi : Sig := ⟨[.v true VA (nf 5), .v true VA (nf 5)], [⟨false, [.bool], [false]⟩], false, false⟩
def yoj : Sig := ⟨[.v false [(.sl 64 yk)] [false], .v true VA (nf 5)], [⟨false, [(.sl 64 yk)], [true]⟩], false, false⟩
def yok : Sig := ⟨[.v false [(.sl 64 yk)] [false]], [⟨false, [(.sl 64 yk)], [true]⟩], false, false⟩
def yol : Sig := ⟨[.v false [(.sl 64 yk)] [false], .v false [(.sl 64 yk)] [false]], [⟨false, [(.sl 64 yk)], [true]⟩], false, false⟩
def yom : Sig := ⟨[.v false [(.sl 64 yk)] [false]], [⟨false, [(.sl 64 yk)], [true]⟩], false, false⟩
def yon : Sig := ⟨[.v true [(.sl 58 yn)] [false]], [⟨false, [(.sl 64 yk)], [true]⟩], false, false⟩
def yoo : Sig := ⟨[.v true VA (nf 5)], [⟨false, [.bool], [false]⟩], false, false⟩
def yop : Sig := ⟨[.v false [(.sl 64 yk)] [false]], [⟨false, [.bool], [false]⟩], false, false⟩
def yoq : Sig := ⟨[.v true [(.sl 58 yn)] [false]], [⟨false, [.bool], [false]⟩], false, false⟩
def yor : Sig := ⟨[.v false [(.int .i64)] [false], .v false [(.int .i64)] [false]], [⟨false, [(.int .i64)], [false]⟩], false, false⟩
def yos : Sig := ⟨[.v true qz8 [false, false], .v false [(.int .i64)] [false]], [⟨false, [.bool], [false]⟩], false, false⟩
def yot : Sig := ⟨[.v true qz8 [false, false]], [⟨false, [.bool], [false]⟩], false, false⟩
def yov : Sig := ⟨[.v true ylb [false, false], .p none [(.int .i64)] [false]], [⟨false, [.bool], [false]⟩], false, false⟩
def yar : Sig := ⟨[.v false [(.sl 146 yo)] [false], .p (some 319) [(.int .i64)] [false]], [⟨false, [(.int .i64)], [false]⟩], false, false⟩
def yow : Sig := ⟨[.v false [(.sl 146 yo)] [false], .v false [(.int .i64)] [false]], [⟨false, [(.int .i64)], [false]⟩], false, false⟩
def yox : Sig := ⟨[.v false [(.sl 146 yo)] [false]], [⟨false, [.bool], [false]⟩], false, false⟩
def yoy : Sig := ⟨[.v false [(.int .i64)] [false]], [⟨false, [.bool], [false]⟩], false, false⟩
def yoz : Sig := ⟨[.v false [(.sl 113 ye)] [false]], [⟨false, [.bool], [false]⟩], false, false⟩
def yoA : Sig := ⟨[.v false [.str] [false]], [⟨false, [.bool], [false]⟩], false, false⟩
def yoB : Sig := ⟨[.v false [(.sl 146 yo)] [false], .v false [(.int .i64)] [false]], [⟨false, [(.sl 3 yi)], [true]⟩], false, false⟩
def yoC : Sig := ⟨[.v true ycD (nf 4), .p none ycD (nf 4)], [⟨false, [.bool], [false]⟩], false, false⟩
def yas : Sig := ⟨[.v false [(.sl 46 yx)] [false], .p (some 254) ycD (nf 4)], [⟨false, [(.int .i64)], [false]⟩], false, false⟩
def yat : Sig := ⟨[.v false [(.sl 46 yx)] [false], .p (some 254) ycD (nf 4)], [⟨false, [.bool], [false]⟩], false, false⟩
def yoD : Sig := ⟨[.v true qz9 (nf 6)], [⟨false, [.bool], [false]⟩], false, false⟩
def yyI : Sig := ⟨[.v false [(.sl 113 ye)] [false]], [⟨false, [(.int .i64)], [false]⟩], false, false⟩
def yyJ : Sig := ⟨[.v true qz8 [false, false]], [⟨false, [(.sl 64 yk)], [true]⟩], false, false⟩
def yoE : Sig := ⟨[.v false [(.sl 113 ye)] [false], .v false [(.int .i64)] [false], .v false [(.int .i64)] [false]], [⟨false, [(.int .i64)], [false]⟩, ⟨false, [.bool], [false]⟩], false, false⟩
def yoF : Sig := ⟨[.v true qz9 (nf 6)], [⟨false, [.bool], [false]⟩], false, false⟩
def yyK : Sig := ⟨[.v true qz9 (nf 6)], [⟨false, [.bool], [false]⟩], false, false⟩
def yoG : Sig := ⟨[.v false [(.sl 3 yi)] [false]], [⟨false, [(.sl 3 yi)], [true]⟩], false, false⟩
def yoH : Sig := ⟨[.v true [(.sl 58 yn)] [false]], [⟨true, [(.sl 58 yn)], [true]⟩], false, false⟩
def yoI : Sig := ⟨[.v true qz8 [false, false]], [⟨true, qz8, [true, true]⟩], false, false⟩
def yoJ : Sig := ⟨[.v false [(.sl 146 yo)] [false]], [⟨false, [(.sl 146 yo)], [true]⟩], false, false⟩
def yoK : Sig := ⟨[.v false [(.sl 113 ye)] [false]], [⟨false, [(.sl 113 ye)], [true]⟩], false, false⟩
def yyL : Sig := ⟨[.v true qz9 (nf 6)], [⟨true, qz9, [true, true, true, true, true, false]⟩], false, false⟩
def yoL : Sig := ⟨[.v false [(.sl 64 yk)] [false]], [⟨true, [(.sl 58 yn)], [true]⟩], false, false⟩
def yoM : Sig := ⟨[.v true [(.sl 58 yn)] [false]], [⟨true, [(.sl 58 yn)], [true]⟩], false, false⟩
def yyM : Sig := ⟨[.v true qz8 [false, false], .v false [(.int .i64)] [false]], [⟨true, qz8, [true, true]⟩], false, false⟩
def yyN : Sig := ⟨[.v true qz9 (nf 6), .v false [(.int .i64)] [false]], [⟨true, qz9, [true, true, true, true, true, false]⟩, ⟨false, [.bool], [false]⟩], false, false⟩
def yyO : Sig := ⟨[.v false [(.sl 5 Ym)] [false]], [⟨true, qz9, [false, false, false, false, true, false]⟩, ⟨false, [(.int .i64)], [false]⟩], false, false⟩
def yyP : Sig := ⟨[.v false [(.sl 113 ye)] [false]], [⟨false, [(.int .i64)], [false]⟩], false, false⟩
def yyQ : Sig := ⟨[.v false [(.sl 113 ye)] [false], .v false [(.int .i64)] [false]], [⟨false, [(.sl 113 ye)], [true]⟩, ⟨false, [(.int .i64)], [false]⟩, ⟨false, [.bool], [false]⟩], false, false⟩
def yoN : Sig := ⟨[.v true qz8 [false, false], .v false [(.int .i64)] [false], .v false [(.int .i64)] [false]], [⟨false, [(.int .i64)], [false]⟩], false, false⟩
def yoO : Sig := ⟨[.v true [(.sl 58 yn)] [false], .v true VA (nf 5)], [⟨false, [(.sl 64 yk)], [true]⟩], false, false⟩
def yoP : Sig := ⟨[.v false [(.sl 64 yk)] [false], .v false [(.int .i64)] [false], .v false [(.int .i64)] [false]], [⟨true, VA, (nf 5)⟩, ⟨false, [.bool], [false]⟩], false, false⟩
def yoQ : Sig := ⟨[.v true [(.sl 58 yn)] [false], .v true VA (nf 5)], [⟨true, [(.sl 58 yn)], [true]⟩, ⟨false, [.bool], [false]⟩], false, false⟩
def yoR : Sig := ⟨[.v true qz8 [false, false], .v false [(.int .i64)] [false], .v false [(.int .i64)] [false], .v false [(.sl 3 yi)] [false], .v false [(.sl 140 yh)] [false]], [⟨true, qz8, [true, true]⟩], false, false⟩
def yoS : Sig := ⟨[.v true qz8 [false, false]], [⟨true, qz8, [false, false]⟩], false, false⟩
def yoT : Sig := ⟨[.v true qz8 [false, false], .v true VA (nf 5)], [⟨true, qz8, [false, false]⟩, ⟨false, [.bool], [false]⟩], false, false⟩
def yoU : Sig := ⟨[.v false [(.sl 113 ye)] [false], .v false [(.int .i64)] [false]], [⟨false, [(.sl 113 ye)], [true]⟩], false, false⟩
def yyR : Sig := ⟨[.v true qz9 (nf 6), .v false [(.int .i64)] [false]], [⟨true, qz9, [false, false, true, true, true, false]⟩, ⟨false, [.bool], [false]⟩], false, false⟩
def yoV : Sig := ⟨[.v false [(.sl 5 Ym)] [false]], [⟨true, qz9, [false, false, false, false, true, false]⟩], false, false⟩
def yyS : Sig := ⟨[.v false [(.sl 5 Ym)] [false]], [⟨true, qz9, [false, false, false, false, true, false]⟩], false, false⟩
def yyT : Sig := ⟨[.v false [(.sl 3 yi)] [false], .v false [(.sl 3 yi)] [false]], [⟨false, [.bool], [false]⟩], false, false⟩
def yoW : Sig := ⟨[.v false [(.sl 64 yk)] [false], .v false [(.sl 64 yk)] [false]], [⟨false, [.bool], [false]⟩], false, false⟩
def yoX : Sig := ⟨[.v true [(.sl 58 yn)] [false], .v true [(.sl 58 yn)] [false]], [⟨false, [.bool], [false]⟩], false, false⟩
def yoY : Sig := ⟨[.v true qz8 [false, false], .v true qz8 [false, false]], [⟨false, [.bool], [false]⟩], false, false⟩
def yoZ : Sig := ⟨[.v false [(.sl 146 yo)] [false], .v false [(.sl 146 yo)] [false]], [⟨false, [.bool], [false]⟩], false, false⟩
def yp0 : Sig := ⟨[.v false [(.sl 113 ye)] [false], .v false [(.sl 113 ye)] [false]], [⟨false, [.bool], [false]⟩], false, false⟩
def yyU : Sig := ⟨[.v true qz9 (nf 6), .v true qz9 (nf 6)], [⟨false, [.bool], [false]⟩], false, false⟩
def yp1 : Sig := ⟨[.v false [(.sl 113 ye)] [false]], [⟨false, [(.int .i64)], [false]⟩], false, false⟩
def yyV : Sig := ⟨[.v true qz9 (nf 6)], [⟨true, qz9, (nf 6)⟩], false, false⟩
def yp2 : Sig := ⟨[.v true qz9 (nf 6)], [⟨false, [(.int .i64)], [false]⟩], false, false⟩
def yyW : Sig := ⟨[.v true qz9 (nf 6)], [⟨true, qz9, (nf 6)⟩], false, false⟩
def sg3 : Sig := ⟨[.v false [(.sl 5 Ym)] [false]], [⟨false, [.bool], [false]⟩], false, false⟩
def yA2 : List (Nat × Sig) := [(9, sg9), (112, ymH), (114, ymI), (263, ymJ), (145, ymK), (90, yyp), (240, ymL), (236, ymM), (241, ymN), (115, ymO), (312, ymP), (313, ymQ), (238, ymR), (299, ymS), (210, ymT), (211, ymU), (94, yyq), (96, yyr), (230, ymV), (307, ymW), (308, ymX), (231, ymY), (309, ymZ), (232, yn0), (137, yn1), (304, yn2), (233, yn3), (226, yn4), (359, yn5), (344, yn6), (345, yn7), (306, yn8), (300, yn9), (212, yna), (262, ynb), (213, ync), (182, ynd), (214, yne), (178, ynf), (260, yng), (215, ynh), (147, yni), (285, ynj), (216, ynk), (95, yys), (173, ynl), (174, ynm), (175, ynn), (176, yno), (177, ynp), (59, yyt), (61, yyu), (179, ynq), (64, yyv), (103, ynr), (181, yns), (227, ynt), (234, ynu), (305, ynv), (228, ynw), (229, ynx), (310, yny), (235, ynz), (104, ynA), (336, ynB), (283, ynC), (105, ynD), (284, ynE), (183, ynF), (66, yyw), (324, ynG), (350, ynH), (351, ynI), (325, ynJ), (257, ynK), (186, ynL), (70, yyx), (73, yyy), (346, ynM), (314, ynN), (217, ynO), (97, yyz), (12, yyA), (102, ynP), (15, yyB), (265, ynQ), (149, ynR), (41, yyC), (259, ynS), (142, ynT), (258, ynU), (138, ynV), (139, ynW), (33, yyD), (141, ynX), (143, ynY), (35, yyE), (315, ynZ), (239, yo0), (113, yo1), (264, yo2), (146, yo3), (332, yo4), (352, yo5), (362, yo6), (363, yo7), (353, yo8), (333, yo9), (277, yoa), (144, yob), (334, yoc), (278, yod), (335, yoe), (279, yof), (165, yog), (89, yyF), (10, yyG), (92, yyH), (342, yoh), (343, yoi), (302, yoj), (303, yok), (249, yol), (250, yom), (127, yon), (218, yoo), (323, yop), (251, yoq), (223, yor), (252, yos), (128, yot), (319, yov), (100000, yar), (245, yow), (129, yox), (125, yoy), (130, yoz), (117, yoA), (135, yoB), (254, yoC), (100002, yas), (100001, yat), (131, yoD), (28, yyI), (29, yyJ), (247, yoE), (132, yoF), (30, yyK), (297, yoG), (298, yoH), (206, yoI), (207, yoJ), (208, yoK), (91, yyL), (224, yoL), (209, yoM), (93, yyM), (11, yyN), (13, yyO), (98, yyP), (99, yyQ), (219, yoN), (221, yoO), (301, yoP), (220, yoQ), (222, yoR), (225, yoS), (100, yoT), (101, yoU), (14, yyR), (106, yoV), (16, yyS), (27, yyT), (311, yoW), (237, yoX), (107, yoY), (108, yoZ), (109, yp0), (17, yyU), (110, yp1), (18, yyV), (111, yp2), (19, yyW), (3, sg3)]
def ytG : List (Nat × (List Nat × List Nat)) := [
 (11200003, [0, 3, 4, 13, 14], [0, 3]),
 (29900003, [1, 2, 3, 4], [2, 3]),
 (21000003, [1, 2, 3, 4], [2, 3]),
 (23000003, [0, 3, 4], [3]),
 (23100004, [0, 3, 5, 6, 7, 18, 19, 20, 21, 22, 23, 24], [3, 5, 6]),
 (30900003, [1, 5, 6], [5]),
 (23200003, [1, 3, 4], [3]),
 (13700003, [1, 3, 4], [3]),
 (35900002, [0, 3], [2]),
 (34400002, [0, 3, 19, 20, 21], [0, 2, 19, 20, 21]),
 (34500003, [1, 3, 4], [3]),
 (30600002, [1, 3, 19, 20, 21, 22, 23, 24, 25, 32, 33, 34], [1, 2, 32, 33, 34]),
 (30000005, [1, 2, 5, 6, 61, 62, 63, 64, 65, 66, 67, 68, 69, 70, 71, 72, 73, 74, 75, 76], [4]),
 (30000008, [1, 2, 5, 6, 7, 61, 62, 63, 64, 65, 66, 67, 68, 69, 70, 71, 72, 73, 74, 75, 76], [1, 2, 4, 5, 6, 61, 62, 63, 64, 65, 66, 67, 68, 69, 70, 71, 72, 73, 74, 75, 76]),
 (21200004, [1, 3, 35, 36, 37, 38, 39, 40, 41, 42, 43, 44, 45, 46, 49, 50, 51, 52], [1, 2]),
 (26200002, [0, 1, 5], [4]),
 (21300002, [0, 3, 18, 19, 20, 21, 22, 23, 24, 25, 26, 27, 28, 29, 30, 31, 32, 33, 42, 43, 44, 45, 46, 47, 48, 49, 50, 51], [0, 2]),
 (21400002, [0, 3, 18, 19, 20, 21, 22, 23, 24, 27, 28, 29, 30, 31, 32, 33, 34, 35, 36, 37, 38, 39, 40], [0, 2]),
 (17800002, [0, 3, 17, 18, 19, 20, 21, 22], [0, 2]),
 (26000003, [0, 1, 5, 6, 22, 23], [5]),
 (21500002, [1, 3, 23, 24, 25, 26, 29, 30, 31, 32, 33, 34, 37, 38, 39, 40, 41, 42, 43, 46, 47, 48, 49, 50, 51, 52, 53, 54, 55, 56, 57, 58, 59], [1, 2]),
 (21500008, [1, 3, 4, 5, 23, 24, 25, 26, 29, 30, 31, 32, 33, 34, 37, 38, 39, 40, 41, 42, 43, 46, 47, 48, 49, 50, 51, 52, 53, 54, 55, 56, 57, 58, 59], [1, 2, 3, 23, 24, 25, 26, 29, 30, 31, 32, 33, 34, 37, 38, 39, 40, 41, 42, 43, 46, 47, 48, 49, 50, 51, 52, 53, 54, 55, 56, 57, 58, 59]),
 (14700003, [0, 3, 4], [3]),
 (21600004, [1, 3, 4, 5, 65, 66, 67, 68, 69, 70, 71, 72, 73, 74, 75], [1, 2, 4]),
 (21600014, [1, 3, 4, 5, 8, 65, 66, 67, 68, 69, 70, 71, 72, 73, 74, 75], [1, 2, 3, 4, 5, 65, 66, 67, 68, 69, 70, 71, 72, 73, 74, 75]),
 (9500002, [1, 3, 24, 25, 26, 29, 30, 31, 34, 35, 36, 39, 40, 43, 44], [1, 2, 24, 25, 26, 29, 30, 31, 34, 35, 36, 39, 40, 43, 44]),
 (17400002, [1, 2, 5], [4]),
 (17500004, [0, 1, 2, 8, 9, 10, 25, 26, 27, 28, 29, 30, 31, 59, 60, 61], [0, 1, 2, 8, 9, 59, 60, 61]),
 (17600003, [3, 5, 6, 19, 20, 21, 22, 23, 24, 25, 26, 27], [3, 5, 6]),
 (10300003, [0, 1, 7, 8, 16, 17, 20, 21], [4, 5, 6, 7]),
 (22700003, [1, 2, 3, 7, 8], [7]),
 (30500002, [0, 1, 2, 6, 8, 23, 24, 25, 26, 27, 28, 29], [6, 7]),
 (31000002, [1, 3], [2]),
 (23500002, [1, 2, 3], [1, 2]),
 (33600002, [1, 2, 3, 6, 8, 32, 33, 34], [6, 7]),
 (32400003, [0, 5, 6, 14, 15, 16, 17, 18], [5]),
 (35000004, [1, 5, 6, 7], [5]),
 (35100002, [0, 1, 5], [4]),
 (32500005, [2, 6, 8, 9, 10, 11, 30, 31, 32, 33, 34, 35, 36, 37, 38, 39, 40, 41], [6, 8, 9]),
 (7300010, [2, 3, 6, 8, 10, 11, 12, 43], [2, 3, 6, 8, 10, 11]),
 (10200003, [1, 4, 5, 6, 23, 24, 25, 26, 27, 28, 29], [4]),
 (4100002, [2, 3, 5, 23, 24, 25, 26, 27, 28, 29, 30, 31, 32, 33, 34], [4]),
 (25900002, [1, 2, 5], [4]),
 (13900003, [1, 2, 5, 6, 27, 28, 29, 30, 31, 32], [1, 2, 4, 27, 28, 29, 30, 31, 32]),
 (3300005, [1, 4, 5], [1, 2, 3]),
 (3300008, [1, 4, 5, 6], [1, 2, 3, 4, 5]),
 (3300013, [1, 7], [2, 3]),
 (14300006, [0, 1, 6, 7, 8], [7]),
 (11300003, [0, 4, 5, 6], [0, 4, 5]),
 (33200003, [0, 4, 5, 6], [0, 4, 5]),
 (35200003, [0, 2, 3, 4], [0, 2, 3]),
 (36200003, [0, 5, 6], [0, 5]),
 (33400003, [0, 3, 4, 17, 18, 19], [0, 3]),
 (27800010, [0, 3, 4], [0, 3]),
 (33500003, [0, 3, 4], [0, 3]),
 (30200004, [3, 5, 6, 10, 11, 12, 19, 20, 21, 22], [3, 5, 6]),
 (24900003, [5, 10, 11, 12], [5]),
 (25000003, [3, 7, 8, 9], [3]),
 (12700003, [3, 8, 9, 10], [3]),
 (32300002, [0, 5, 6, 7, 16, 17, 18, 19, 20, 21, 22, 23, 24, 25, 26, 27], [0, 2]),
 (25100003, [1, 3, 7, 8, 9, 17, 18, 19, 31, 32], [1, 2, 3, 31, 32]),
 (25200002, [1, 2, 15, 16, 17, 40, 41, 42, 43, 44, 45, 46, 47, 48, 49, 50, 51, 52, 53, 54, 55], [4]),
 (25200005, [1, 2, 15, 16, 17, 21, 22, 23, 40, 41, 42, 43, 44, 45, 46, 47, 48, 49, 50, 51, 52, 53, 54, 55], [1, 2, 4, 15, 16, 17, 40, 41, 42, 43, 44, 45, 46, 47, 48, 49, 50, 51, 52, 53, 54, 55]),
 (12800005, [1, 3, 29, 30, 31, 39, 40, 41, 42, 43, 44, 45, 46, 47, 48, 49, 50, 53, 54, 55, 58, 59, 60, 61, 69, 70], [2, 3]),
 (10000000002, [0, 1, 7, 8], [1, 4]),
 (12900002, [0, 5, 6, 7, 17, 18, 19, 20, 21, 22, 23, 24, 25, 26, 27, 28, 29, 32, 33, 34, 35, 36, 37, 38, 39, 40, 41, 42, 43], [0, 2]),
 (13000002, [0, 5, 6, 7, 16, 17, 18, 19, 22, 23, 24, 25, 26, 27, 28, 29], [0, 2]),
 (11700002, [0, 3, 17, 18, 19, 20, 21, 22], [0, 2]),
 (13500005, [1, 5, 12, 13, 14], [5]),
 (10000200002, [0, 1, 7, 8], [1, 4]),
 (13100002, [1, 6, 7, 8, 18, 19, 20, 21, 22, 23, 24, 25, 26, 27, 28, 29, 30, 31, 34, 35, 36, 37, 46, 47, 48, 49, 50, 51, 52], [1, 2]),
 (2800003, [3, 6, 7, 8], [3]),
 (2900003, [3, 8, 9, 10], [3]),
 (13200004, [1, 3, 4, 12, 13, 14, 40, 41, 42, 43, 44], [1, 2, 4]),
 (3000004, [1, 28, 29, 30, 43, 44], [1, 2, 43, 44]),
 (29800003, [2, 3, 8, 9, 10], [2, 3]),
 (20600003, [2, 3, 11, 12, 13], [2, 3]),
 (9800002, [5, 6, 7], [2]),
 (21900002, [1, 2, 3, 7], [6]),
 (30100002, [1, 2, 6, 10, 11, 12, 21, 22, 23, 24], [6, 7]),
 (22500002, [1, 2, 3], [1, 2]),
 (1400007, [1, 2, 4, 7, 8, 9, 63, 64, 65, 73, 74, 75, 76], [1, 2, 4, 5, 7, 8]),
 (10600004, [2, 3, 4, 5], [2, 4]),
 (2700004, [0, 1, 5], [4]),
 (31100004, [0, 1, 5], [4]),
 (23700004, [2, 3, 5], [4]),
 (10700004, [2, 3, 5], [4]),
 (10800004, [0, 1, 5], [4]),
 (10900004, [0, 1, 5], [4]),
 (1700004, [2, 3, 5], [4]),
 (11000002, [0, 3], [2]),
 (1800003, [2, 3, 8], [2, 3]),
 (11100002, [1, 3, 11, 12, 13, 14, 15, 16, 17], [3]),
 (1900003, [2, 3, 4], [2, 3])]
def yyX : List (Nat × List Nat × Nat) := [(318, [319], 100000), (253, [254], 100001), (242, [254], 100002)]
def ytH : List (Nat × List Nat) := [(299, [22]), (210, [25]), (235, [2000000000006000001, 2000000000007000001, 1000033000000027, 1000046000000041, 1000048000000025, 49, 1000049000049000, 1000050000000046]), (104, [2000000000010000011, 49, 1000037000999999, 1000049000038000, 1000050000000047, 1000050000000049, 1000082000999999, 1000086000999999, 87, 1000087000083000, 1000087000087000]), (66, [60]), (257, [21]), (113, [1000019000000900]), (332, [1000019000000900]), (352, [1000015000000900]), (333, [1000013000000900, 14, 1000014000014000, 1000022000000900, 1000025000000900, 27, 1000027000000023, 1000027000000026]), (277, [1000019000000900, 1000022000000021, 1000022000000900, 1000029000000900, 30, 1000030000030000, 1000041000000900, 1000043000000900]), (165, [1000032000000031, 1000032000000900, 1000034000000900, 1000038000000037, 1000038000000900, 1000057000000900, 1000069000000900]), (10, [1000014000000013, 1000014000009500]), (298, [18]), (206, [21]), (13, [1000014000000013, 1000014000009500]), (225, [40, 1000039000000026, 1000040000040000]), (100, [2000000000011000010, 1000038000999999, 1000080000999999, 1000084000999999, 85, 1000085000081000, 1000085000085000]), (14, [1000084000000012]), (106, [1000022000008500])]
def C : Ctx := { info := y8M ymG, sig := y8M yA2, live := fun f i => y8M ytG (100000 * f + i), key := Jf yyX, fid := ykT yyX, hint := ygd ytH }
theorem tok : TOk C Tryz.prog := yl8 (l := ymG) rfl (by kernel_rfl)
theorem ytI : Tryz.prog.follows .mixedOrders = true := by kernel_rfl
abbrev QF := Qf C Tryz.prog
abbrev EV (l : List QF) (lp : Lp) (n : Nat) (fn : Func) (sg : Sig) (ins outs : List Ty) (F : z9 ins → Option (z9 outs)) : Prop := ∀ x, ydQ C (yhX l) lp n fn (Vf fn) sg ins outs x = F x
abbrev LF (l : List QF) (lp : Lp) (n i : Nat) (fn : Func) (k : Nat) {T V : Type} (e : T → St) (g : Gk T) (inj : V → T) : Prop := LC C (yhX l) lp n i (cL fn k) e g inj
abbrev LK (l : List QF) (lp : Lp) (n : Nat) (fn : Func) (k : Nat) : Prop := y1G C (yhX l) lp n (cL fn k)
theorem okN {l : List QF} {lp : Lp} {f g : Nat} {fn : Func} {sg : Sig} {n : Nat} (hfn : Tryz.prog.funcs[g]? = some fn) (hl : yl7 (y1G C (yhX l) lp f) (ZK (Vf fn)) n 0) {F : z9 (C.ins f) → Option (z9 (C.outs f))} (hF : ∀ x, ydQ C (yhX l) lp f fn (Vf fn) sg (C.ins f) (C.outs f) x = F x) (hsig : C.sig f = some sg := by kernel_rfl) (hB : fnB C f g fn sg n = true := by kernel_rfl) : Jh C Tryz.prog f F := ysE tok ytI hfn hsig hB hl hF
theorem lkN {call : C.Sem} {lp : Lp} {f i : Nat} {c : Code} {T : Type} {e : T → St} {u : St → Option T} {g : Gk T} (hu : ∀ s t, u s = some t → e t = s) (hc : LC C call lp f i c e @g (fun t => t)) (hl : laB C f i c = true := by kernel_rfl) (hb : LB lp i u @g := by intro R κ s; kernel_rfl) : y1G C call lp f c := yen hl hu hb hc
end Go.Proofs.YthgdjjdigalckaaGreat.XT
