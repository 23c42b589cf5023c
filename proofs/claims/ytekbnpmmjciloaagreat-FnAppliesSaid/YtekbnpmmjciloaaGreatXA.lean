/- The context of the evaluator for A: types, signatures, slots that live at loops; by a program (dec.py). No condition. -/
import Derived.Test.YtekbnpmmjciloaaGreatProg
import Derived.Test.YtekbnpmmjciloaaGreatRC
import Derived.KernelRfl
set_option linter.all false
namespace Go.Proofs.YtekbnpmmjciloaaGreat.XA
open Go.Proofs.YtekbnpmmjciloaaGreat.R
set_option maxRecDepth 100000
abbrev Zo:List Ty:=[(.int .u8)]
abbrev qN:Type:=Int
abbrev ylK (xs:List qN) (i:Int):qN:=rdE Zo xs i
def y64 (x:List qN):A:= .val (.sl 5 Zo) x
abbrev yg:List Ty:=[(.int .i64)]
abbrev y9:Type:=Int
abbrev y2d:y9:=Wx yg
abbrev zB (xs:List y9) (i:Int):y9:=rdE yg xs i
def z6 (x:List y9):A:= .val (.sl 3 yg) x
abbrev yl:List Ty:=[(.int .i64),(.int .i64),(.int .i64),(.int .i64),(.int .i64)]
abbrev y8:Type:=Int×Int×Int×Int×Int
abbrev yX:y8:=Wx yl
abbrev yi (xs:List y8) (i:Int):y8:=rdE yl xs i
def y0M (x:List y8):A:= .val (.sl 91 yl) x
abbrev yq:List Ty:=[(.sl 91 yl)]
abbrev ya:Type:=List y8
abbrev zk:ya:=Wx yq
abbrev yu (xs:List ya) (i:Int):ya:=rdE yq xs i
def Zh (x:List ya):A:= .val (.sl 89 yq) x
abbrev yj:List Ty:=[(.sl 89 yq)]
abbrev y0:Type:=List ya
abbrev yH:y0:=Wx yj
abbrev yk (xs:List y0) (i:Int):y0:=rdE yj xs i
def yA (x:List y0):A:= .val (.sl 88 yj) x
abbrev yh:List Ty:=[(.int .i64),(.int .i64)]
abbrev y7:Type:=Int×Int
abbrev YS:y7:=Wx yh
abbrev yD (xs:List y7) (i:Int):y7:=rdE yh xs i
def zl (x:List y7):A:= .val (.sl 79 yh) x
abbrev yc:List Ty:=[(.int .i64),.bool,(.int .i64)]
abbrev y6:Type:=Int×Bool×Int
abbrev zv:y6:=Wx yc
abbrev ym (xs:List y6) (i:Int):y6:=rdE yc xs i
def yU (x:List y6):A:= .val (.sl 85 yc) x
abbrev yt:List Ty:=[.str,(.int .i64),(.int .i64),.bool]
abbrev yf:Type:=ByteArray×Int×Int×Bool
abbrev Yu:yf:=Wx yt
abbrev yd (xs:List yf) (i:Int):yf:=rdE yt xs i
def Y6 (x:List yf):A:= .val (.sl 81 yt) x
abbrev y2e:List Ty:=[(.int .i64),.str,.str,(.int .i64),(.int .i64)]
abbrev y5f:Type:=Int×ByteArray×ByteArray×Int×Int
abbrev yDy:y5f:=Wx y2e
abbrev vN (xs:List y5f) (i:Int):y5f:=rdE y2e xs i
def yDz (x:List y5f):A:= .val (.sl 63 y2e) x
abbrev yr:List Ty:=[.str,.bool,(.sl 3 yg)]
abbrev yO:Type:=ByteArray×Bool×List y9
abbrev y0N:yO:=Wx yr
abbrev yG (xs:List yO) (i:Int):yO:=rdE yr xs i
def y5z (x:List yO):A:= .val (.sl 141 yr) x
abbrev y2f:List Ty:=[.str]
abbrev y03:Type:=ByteArray
abbrev ylL:y03:=Wx y2f
abbrev yje (xs:List y03) (i:Int):y03:=rdE y2f xs i
abbrev y7O:List Ty:=[.bool]
abbrev ygK:Type:=Bool
abbrev yjf:ygK:=Wx y7O
abbrev yjg (xs:List ygK) (i:Int):ygK:=rdE y7O xs i
abbrev Qz0:Type:=List qN×Int
abbrev qz0:List Ty:=[(.sl 5 Zo),(.int .i64)]
abbrev Qz1:Type:=List qN×Int×Int
abbrev qz1:List Ty:=[(.sl 5 Zo),(.int .i64),(.int .i64)]
abbrev Qz2:Type:=Int×List qN×Int×Int
abbrev qz2:List Ty:=[(.int .i64),(.sl 5 Zo),(.int .i64),(.int .i64)]
abbrev Qz3:Type:=List qN×Int×Int×Int
abbrev qz3:List Ty:=[(.sl 5 Zo),(.int .i64),(.int .i64),(.int .i64)]
abbrev Qz4:Type:=List qN×Int×Int×List y9
abbrev qz4:List Ty:=[(.sl 5 Zo),(.int .i64),(.int .i64),(.sl 3 yg)]
abbrev Qz5:Type:=Int×Int×Int
abbrev qz5:List Ty:=[(.int .i64),(.int .i64),(.int .i64)]
abbrev Qz6:Type:=ByteArray×Int
abbrev qz6:List Ty:=[.str,(.int .i64)]
abbrev Qz7:Type:=ByteArray×Bool
abbrev Qz8:Type:=Int×ByteArray×ByteArray×Int×Int
abbrev qz8:List Ty:=[(.int .i64),.str,.str,(.int .i64),(.int .i64)]
abbrev Qz9:Type:=Int×Int×Int×Int×Int
abbrev qz9:List Ty:=[(.int .i64),(.int .i64),(.int .i64),(.int .i64),(.int .i64)]
abbrev yDA:Type:=Int×Int×Int×Int×Int×Int×Int×Int×Int×Int
abbrev yDB:List Ty:=[(.int .i64),(.int .i64),(.int .i64),(.int .i64),(.int .i64),(.int .i64),(.int .i64),(.int .i64),(.int .i64),(.int .i64)]
abbrev yuq:Type:=List y8×Int
abbrev yur:List Ty:=[(.sl 91 yl),(.int .i64)]
abbrev yJU:Type:=List y8×Bool
abbrev yJV:Type:=Int×Int×List ya
abbrev yJW:List Ty:=[(.int .i64),(.int .i64),(.sl 89 yq)]
abbrev ynD:Type:=Int×List ya
abbrev yDC:List Ty:=[(.int .i64),(.sl 89 yq)]
abbrev yMJ:Type:=Bool×List ya
abbrev yDD:Type:=List y8×Int×List y8
abbrev yDE:List Ty:=[(.sl 91 yl),(.int .i64),(.sl 91 yl)]
abbrev yJX:Type:=List y8×Bool×Int×Int×Int×Int×Int×Int×List y8
abbrev yJY:List Ty:=[(.sl 91 yl),.bool,(.int .i64),(.int .i64),(.int .i64),(.int .i64),(.int .i64),(.int .i64),(.sl 91 yl)]
abbrev yJZ:Type:=Bool×Int×Int×Int×Int×Int×List y8
abbrev yK0:Type:=List y8×Int×Int×Int×Int×Int
abbrev yK1:List Ty:=[(.sl 91 yl),(.int .i64),(.int .i64),(.int .i64),(.int .i64),(.int .i64)]
abbrev yEf:Type:=List y8×List y8
abbrev yEg:List Ty:=[(.sl 91 yl),(.sl 91 yl)]
abbrev yK2:Type:=Int×List ya×List y8
abbrev yK3:List Ty:=[(.int .i64),(.sl 89 yq),(.sl 91 yl)]
abbrev yiq:Type:=Int×Int
abbrev ylM:List Ty:=[(.int .i64),(.int .i64)]
abbrev yK4:Type:=Int×Int×Int×List y9×List y0×List ya
abbrev yK5:List Ty:=[(.int .i64),(.int .i64),(.int .i64),(.sl 3 yg),(.sl 88 yj),(.sl 89 yq)]
abbrev yMK:Type:=Int×Bool×Int×List y9×List y0×List ya
abbrev yEh:Type:=Int×Int×List y9×List y0×List ya
abbrev yK6:List Ty:=[(.int .i64),(.int .i64),(.sl 3 yg),(.sl 88 yj),(.sl 89 yq)]
abbrev ytO:Type:=List y9×List y0×Int
abbrev ytP:List Ty:=[(.sl 3 yg),(.sl 88 yj),(.int .i64)]
abbrev yK7:Type:=Int×List y9×List y0×List y8
abbrev yK8:List Ty:=[(.int .i64),(.sl 3 yg),(.sl 88 yj),(.sl 91 yl)]
abbrev y6M:Type:=List y9×List y0
abbrev kI:List Ty:=[(.sl 3 yg),(.sl 88 yj)]
abbrev yeU:Type:=Int×List y9×List y0
abbrev yl0:List Ty:=[(.int .i64),(.sl 3 yg),(.sl 88 yj)]
abbrev yML:Type:=Bool×List y9×List y0
abbrev yDF:Type:=List y7×Int×Int
abbrev yDG:List Ty:=[(.sl 79 yh),(.int .i64),(.int .i64)]
abbrev yjh:Type:=List y7×Int
abbrev yji:List Ty:=[(.sl 79 yh),(.int .i64)]
abbrev ytQ:Type:=List y7×Bool
abbrev yDH:List Ty:=[(.sl 79 yh),.bool]
abbrev ytR:Type:=List y6×Int
abbrev ytS:List Ty:=[(.sl 85 yc),(.int .i64)]
abbrev yK9:Type:=List y6×Bool
abbrev yKa:Type:=List y7×Int×Int×List y9
abbrev yKb:List Ty:=[(.sl 79 yh),(.int .i64),(.int .i64),(.sl 3 yg)]
abbrev yKc:Type:=Int×Int×List y9×List y0×List y7×List y6×List yf×Int×ByteArray×Int×Int×Bool
abbrev yKd:List Ty:=[(.int .i64),(.int .i64),(.sl 3 yg),(.sl 88 yj),(.sl 79 yh),(.sl 85 yc),(.sl 81 yt),(.int .i64),.str,(.int .i64),(.int .i64),.bool]
abbrev yEi:Type:=Bool×Int×List y9×List y0×List y7×List y6×List yf×Int
abbrev yjj:Type:=Int×List y9×List y0×List y7×List y6×List yf×Int
abbrev ytT:List Ty:=[(.int .i64),(.sl 3 yg),(.sl 88 yj),(.sl 79 yh),(.sl 85 yc),(.sl 81 yt),(.int .i64)]
abbrev yl1:Type:=Bool×List y9×List y0×List y7×List y6×List yf×Int
abbrev ytU:List Ty:=[.bool,(.sl 3 yg),(.sl 88 yj),(.sl 79 yh),(.sl 85 yc),(.sl 81 yt),(.int .i64)]
abbrev y7P:Type:=List y9×List y0×List y7×List y6×List yf×Int
abbrev Z0:List Ty:=[(.sl 3 yg),(.sl 88 yj),(.sl 79 yh),(.sl 85 yc),(.sl 81 yt),(.int .i64)]
abbrev ytV:Type:=List y6×Int×Int
abbrev ytW:List Ty:=[(.sl 85 yc),(.int .i64),(.int .i64)]
abbrev yKe:Type:=Int×Bool
abbrev yKf:List Ty:=[(.int .i64),.bool]
abbrev yEj:Type:=Int×Int×Int×List y9×List y0×List y7×List y6×List yf×Int×List y8
abbrev yKg:List Ty:=[(.int .i64),(.int .i64),(.int .i64),(.sl 3 yg),(.sl 88 yj),(.sl 79 yh),(.sl 85 yc),(.sl 81 yt),(.int .i64),(.sl 91 yl)]
abbrev yMM:Type:=Bool×Int×Int×List y9×List y0×List y7×List y6×List yf×Int×List y8
abbrev ynE:Type:=Int×Int×List y9×List y0×List y7×List y6×List yf×Int×List y8
abbrev ytX:List Ty:=[(.int .i64),(.int .i64),(.sl 3 yg),(.sl 88 yj),(.sl 79 yh),(.sl 85 yc),(.sl 81 yt),(.int .i64),(.sl 91 yl)]
abbrev ypH:Type:=Int×List ya×List ya
abbrev yDI:List Ty:=[(.int .i64),(.sl 89 yq),(.sl 89 yq)]
abbrev yus:Type:=Int×List y9×List y0×List y9
abbrev yKh:List Ty:=[(.int .i64),(.sl 3 yg),(.sl 88 yj),(.sl 3 yg)]
abbrev ypI:Type:=Int×List y9×List y0×List y9×List y0
abbrev yDJ:List Ty:=[(.int .i64),(.sl 3 yg),(.sl 88 yj),(.sl 3 yg),(.sl 88 yj)]
abbrev ytY:Type:=List y9×List y0×List y7×List y6×List yf×Int×ByteArray
abbrev ytZ:List Ty:=[(.sl 3 yg),(.sl 88 yj),(.sl 79 yh),(.sl 85 yc),(.sl 81 yt),(.int .i64),.str]
abbrev yKi:Type:=ByteArray×Int×List y9×List y0×List y7×List y6×List yf×Int
abbrev yKj:List Ty:=[.str,(.int .i64),(.sl 3 yg),(.sl 88 yj),(.sl 79 yh),(.sl 85 yc),(.sl 81 yt),(.int .i64)]
abbrev yKk:Type:=List y7×Int×Int×Bool×Int×List y7
abbrev yKl:List Ty:=[(.sl 79 yh),(.int .i64),(.int .i64),.bool,(.int .i64),(.sl 79 yh)]
abbrev yMN:Type:=List y7×Int×Int×Bool×List y7
abbrev yEk:Type:=Int×ByteArray×Int×Int×Bool×List yf
abbrev yKm:List Ty:=[(.int .i64),.str,(.int .i64),(.int .i64),.bool,(.sl 81 yt)]
abbrev yDK:Type:=List yf×ByteArray×Int×Int×Bool
abbrev yDL:List Ty:=[(.sl 81 yt),.str,(.int .i64),(.int .i64),.bool]
abbrev yKn:Type:=List y9×List y0×List y7×List y6×List yf×Int×List y9×List y0×List y7×List y6×List yf×Int×Bool
abbrev yKo:List Ty:=[(.sl 3 yg),(.sl 88 yj),(.sl 79 yh),(.sl 85 yc),(.sl 81 yt),(.int .i64),(.sl 3 yg),(.sl 88 yj),(.sl 79 yh),(.sl 85 yc),(.sl 81 yt),(.int .i64),.bool]
abbrev y6o:Type:=List y9×List y0×List y7×List y6×List yf×Int×Int
abbrev y6p:List Ty:=[(.sl 3 yg),(.sl 88 yj),(.sl 79 yh),(.sl 85 yc),(.sl 81 yt),(.int .i64),(.int .i64)]
abbrev ypJ:Type:=List y9×List y0×List y7×List y6×List yf×Int×ByteArray×Int
abbrev ypK:List Ty:=[(.sl 3 yg),(.sl 88 yj),(.sl 79 yh),(.sl 85 yc),(.sl 81 yt),(.int .i64),.str,(.int .i64)]
abbrev yKp:Type:=List y9×List y0×List y7×List y6×List yf×Int×ByteArray×ByteArray×Bool
abbrev yKq:List Ty:=[(.sl 3 yg),(.sl 88 yj),(.sl 79 yh),(.sl 85 yc),(.sl 81 yt),(.int .i64),.str,.str,.bool]
abbrev yKr:Type:=List y6×Int×Int×List y6
abbrev yKs:List Ty:=[(.sl 85 yc),(.int .i64),(.int .i64),(.sl 85 yc)]
abbrev yMO:Type:=Int×Bool×List y6
abbrev yKt:Type:=List y6×Int×Bool
abbrev yKu:List Ty:=[(.sl 85 yc),(.int .i64),.bool]
abbrev yKv:Type:=Int×Int×Int×Int×List y9×List y0
abbrev yKw:List Ty:=[(.int .i64),(.int .i64),(.int .i64),(.int .i64),(.sl 3 yg),(.sl 88 yj)]
abbrev yDM:Type:=List y9×List y0×Int×Int
abbrev yDN:List Ty:=[(.sl 3 yg),(.sl 88 yj),(.int .i64),(.int .i64)]
abbrev yKx:Type:=List y8×Int×Int×Int×Int×Int×Int×Int×Int
abbrev yKy:List Ty:=[(.sl 91 yl),(.int .i64),(.int .i64),(.int .i64),(.int .i64),(.int .i64),(.int .i64),(.int .i64),(.int .i64)]
abbrev yDO:Type:=Bool×Int×Int×Int×Int×Int
abbrev yKz:Type:=List y8×Int×Int
abbrev yKA:List Ty:=[(.sl 91 yl),(.int .i64),(.int .i64)]
abbrev yir:Type:=Int×Int×Int×Int×Int×Bool
abbrev yis:List Ty:=[(.int .i64),(.int .i64),(.int .i64),(.int .i64),(.int .i64),.bool]
abbrev yDP:Type:=Int×Int×Int×List ya×Int×Int×Int×Int×Int
abbrev yDQ:List Ty:=[(.int .i64),(.int .i64),(.int .i64),(.sl 89 yq),(.int .i64),(.int .i64),(.int .i64),(.int .i64),(.int .i64)]
abbrev ypL:Type:=List ya×Int×Int
abbrev yDR:List Ty:=[(.sl 89 yq),(.int .i64),(.int .i64)]
abbrev yEl:Type:=List ya×Int×Int×Int×Int×Int
abbrev yEm:List Ty:=[(.sl 89 yq),(.int .i64),(.int .i64),(.int .i64),(.int .i64),(.int .i64)]
abbrev yKB:Type:=List ya×Bool
abbrev yKC:List Ty:=[(.sl 89 yq),.bool]
abbrev yMP:Type:=List y9×List y0×Int×List y9×List y0
abbrev yMQ:List Ty:=[(.sl 3 yg),(.sl 88 yj),(.int .i64),(.sl 3 yg),(.sl 88 yj)]
abbrev yKD:Type:=List y9×List y0×Int×Int×Int×Int×Int
abbrev yKE:List Ty:=[(.sl 3 yg),(.sl 88 yj),(.int .i64),(.int .i64),(.int .i64),(.int .i64),(.int .i64)]
abbrev yKF:Type:=List y9×List y0×Bool
abbrev yKG:List Ty:=[(.sl 3 yg),(.sl 88 yj),.bool]
abbrev yMR:Type:=List y9×List y0×List y7×List y6×List yf×Int×Int×Int×Int×Int×Int×Bool
abbrev yMS:List Ty:=[(.sl 3 yg),(.sl 88 yj),(.sl 79 yh),(.sl 85 yc),(.sl 81 yt),(.int .i64),(.int .i64),(.int .i64),(.int .i64),(.int .i64),(.int .i64),.bool]
abbrev yu0:Type:=List y9×List y0×List y7×List y6×List yf×Int×Int×Int×Int×Int×Int
abbrev yu1:List Ty:=[(.sl 3 yg),(.sl 88 yj),(.sl 79 yh),(.sl 85 yc),(.sl 81 yt),(.int .i64),(.int .i64),(.int .i64),(.int .i64),(.int .i64),(.int .i64)]
abbrev yKH:Type:=List y9×List y0×List y7×List y6×List yf×Int×ByteArray×Int×Int
abbrev yKI:List Ty:=[(.sl 3 yg),(.sl 88 yj),(.sl 79 yh),(.sl 85 yc),(.sl 81 yt),(.int .i64),.str,(.int .i64),(.int .i64)]
abbrev yKJ:Type:=List y7×Int×List y9
abbrev yKK:List Ty:=[(.sl 79 yh),(.int .i64),(.sl 3 yg)]
abbrev yKL:Type:=Int×Int×List y8×List y8
abbrev yKM:List Ty:=[(.int .i64),(.int .i64),(.sl 91 yl),(.sl 91 yl)]
abbrev yKN:Type:=List y9×Int×Int
abbrev yKO:List Ty:=[(.sl 3 yg),(.int .i64),(.int .i64)]
abbrev yEn:Type:=List y9×Int
abbrev yEo:List Ty:=[(.sl 3 yg),(.int .i64)]
abbrev yKP:Type:=List y9×Bool×Int×Int×Int×Int×Int×Int×Int×Int×Int×Int×Int×List y8
abbrev yKQ:List Ty:=[(.sl 3 yg),.bool,(.int .i64),(.int .i64),(.int .i64),(.int .i64),(.int .i64),(.int .i64),(.int .i64),(.int .i64),(.int .i64),(.int .i64),(.int .i64),(.sl 91 yl)]
abbrev yKR:Type:=Bool×Int×Int×Int×Int×Int×Int×Int×Int×Int×Int
abbrev yKS:Type:=List y9×List y0×Int×List y9
abbrev yKT:List Ty:=[(.sl 3 yg),(.sl 88 yj),(.int .i64),(.sl 3 yg)]
abbrev yDS:Type:=List y9×List y0×List y7×Int×Int
abbrev yDT:List Ty:=[(.sl 3 yg),(.sl 88 yj),(.sl 79 yh),(.int .i64),(.int .i64)]
abbrev yEp:Type:=List y9×List y0×List y7×List y6×List yf×Int×Int×Int
abbrev yEq:List Ty:=[(.sl 3 yg),(.sl 88 yj),(.sl 79 yh),(.sl 85 yc),(.sl 81 yt),(.int .i64),(.int .i64),(.int .i64)]
abbrev yut:Type:=Int×Int×Bool×Int×List y9×List y0×List y7×List y6×List yf×Int×Int×Int×List y9×List y0×List y7×List y6×List yf
abbrev yKU:List Ty:=[(.int .i64),(.int .i64),.bool,(.int .i64),(.sl 3 yg),(.sl 88 yj),(.sl 79 yh),(.sl 85 yc),(.sl 81 yt),(.int .i64),(.int .i64),(.int .i64),(.sl 3 yg),(.sl 88 yj),(.sl 79 yh),(.sl 85 yc),(.sl 81 yt)]
abbrev yuu:Type:=Int×Int×Bool×Int×List y9×List y0×List y7×List y6×List yf×Int×Int×List y9×List y0×List y7×Int×List y6×List yf
abbrev yKV:List Ty:=[(.int .i64),(.int .i64),.bool,(.int .i64),(.sl 3 yg),(.sl 88 yj),(.sl 79 yh),(.sl 85 yc),(.sl 81 yt),(.int .i64),(.int .i64),(.sl 3 yg),(.sl 88 yj),(.sl 79 yh),(.int .i64),(.sl 85 yc),(.sl 81 yt)]
abbrev yMT:Type:=Int×Int×Bool×List y9×List y0×List y7×List y6×List yf×Int×Int×Int×List y9×List y0×List y7×List y6×List yf
abbrev yMU:Type:=Int×Int×Bool×List y9×List y0×List y7×List y6×List yf×Int×Int×List y9×List y0×List y7×Int×List y6×List yf
abbrev yKW:Type:=List y9×List y0×List y7×Int×Int×Int×Int×Int×Int
abbrev yKX:List Ty:=[(.sl 3 yg),(.sl 88 yj),(.sl 79 yh),(.int .i64),(.int .i64),(.int .i64),(.int .i64),(.int .i64),(.int .i64)]
abbrev yKY:Type:=Int×List y9×List y0×List y7×List y6×List yf×Int×Int×Int×Int×Int×Int
abbrev yKZ:List Ty:=[(.int .i64),(.sl 3 yg),(.sl 88 yj),(.sl 79 yh),(.sl 85 yc),(.sl 81 yt),(.int .i64),(.int .i64),(.int .i64),(.int .i64),(.int .i64),(.int .i64)]
abbrev yEr:Type:=Int×Int×List y9×List y0×List y7×List y6×List yf×Int
abbrev yL0:List Ty:=[(.int .i64),(.int .i64),(.sl 3 yg),(.sl 88 yj),(.sl 79 yh),(.sl 85 yc),(.sl 81 yt),(.int .i64)]
abbrev yL1:Type:=List y9×List y0×List y7×List y6×List yf×Int×Int×Int×Int×Int×Int×Int
abbrev yL2:List Ty:=[(.sl 3 yg),(.sl 88 yj),(.sl 79 yh),(.sl 85 yc),(.sl 81 yt),(.int .i64),(.int .i64),(.int .i64),(.int .i64),(.int .i64),(.int .i64),(.int .i64)]
abbrev yMV:Type:=Int×Bool×List y9×List y0×List y7×List y6×List yf×Int
abbrev yEs:Type:=Int×List y9×List y0×List y7×List y6×List yf×Int×List y8
abbrev yL3:List Ty:=[(.int .i64),(.sl 3 yg),(.sl 88 yj),(.sl 79 yh),(.sl 85 yc),(.sl 81 yt),(.int .i64),(.sl 91 yl)]
abbrev yL4:Type:=List y7×Int×Int×Int×List y7
abbrev yL5:List Ty:=[(.sl 79 yh),(.int .i64),(.int .i64),(.int .i64),(.sl 79 yh)]
abbrev ypM:Type:=List y9×List y0×List y7×List y6×List yf×Int×Bool
abbrev ypN:List Ty:=[(.sl 3 yg),(.sl 88 yj),(.sl 79 yh),(.sl 85 yc),(.sl 81 yt),(.int .i64),.bool]
abbrev yuv:Type:=Int×Int×Int×Int×Int×Int×Int×List y8
abbrev yuw:List Ty:=[(.int .i64),(.int .i64),(.int .i64),(.int .i64),(.int .i64),(.int .i64),(.int .i64),(.sl 91 yl)]
abbrev ylN:Type:=List y9×List y0×List y7×List y6×List yf×Int×Int×ByteArray×ByteArray×Int×Int
abbrev ylO:List Ty:=[(.sl 3 yg),(.sl 88 yj),(.sl 79 yh),(.sl 85 yc),(.sl 81 yt),(.int .i64),(.int .i64),.str,.str,(.int .i64),(.int .i64)]
abbrev yEt:Type:=List qN×Int×Int×List y03
abbrev yEu:List Ty:=[(.sl 5 Zo),(.int .i64),(.int .i64),(.sl 9 y2f)]
abbrev ypO:Type:=ByteArray×List qN×Int×Int
abbrev ypP:List Ty:=[.str,(.sl 5 Zo),(.int .i64),(.int .i64)]
abbrev yux:Type:=Int×ByteArray×ByteArray×Int×Int×List qN×Int×Int
abbrev yuy:List Ty:=[(.int .i64),.str,.str,(.int .i64),(.int .i64),(.sl 5 Zo),(.int .i64),(.int .i64)]
abbrev yjk:Type:=Int×List qN×Int×Int×Int×Int×List y9×List y0×List y7×List y6×List yf
abbrev yuz:List Ty:=[(.int .i64),(.sl 5 Zo),(.int .i64),(.int .i64),(.int .i64),(.int .i64),(.sl 3 yg),(.sl 88 yj),(.sl 79 yh),(.sl 85 yc),(.sl 81 yt)]
abbrev yjl:Type:=Int×List qN×Int×Int×Int×List y9×List y0×List y7×Int×List y6×List yf
abbrev yuA:List Ty:=[(.int .i64),(.sl 5 Zo),(.int .i64),(.int .i64),(.int .i64),(.sl 3 yg),(.sl 88 yj),(.sl 79 yh),(.int .i64),(.sl 85 yc),(.sl 81 yt)]
abbrev yEv:Type:=List qN×Int×Int×Int×Int×List y9×List y0×List y7×List y6×List yf
abbrev yEw:Type:=List qN×Int×Int×Int×List y9×List y0×List y7×Int×List y6×List yf
abbrev yuB:Type:=List y9×List y0×List y7×List y6×List yf×Int×List qN×Int×Int
abbrev yuC:List Ty:=[(.sl 3 yg),(.sl 88 yj),(.sl 79 yh),(.sl 85 yc),(.sl 81 yt),(.int .i64),(.sl 5 Zo),(.int .i64),(.int .i64)]
abbrev ypQ:Type:=Int×Int×Int×Int×Int×List qN×Int×Int
abbrev ypR:List Ty:=[(.int .i64),(.int .i64),(.int .i64),(.int .i64),(.int .i64),(.sl 5 Zo),(.int .i64),(.int .i64)]
abbrev yuD:Type:=Int×List qN×Int×Int×List y9×List y0
abbrev yuE:List Ty:=[(.int .i64),(.sl 5 Zo),(.int .i64),(.int .i64),(.sl 3 yg),(.sl 88 yj)]
abbrev yEx:Type:=List qN×Int×Int×List y9×List y0
abbrev yuF:Type:=List y9×List y0×List qN×Int×Int
abbrev yuG:List Ty:=[(.sl 3 yg),(.sl 88 yj),(.sl 5 Zo),(.int .i64),(.int .i64)]
abbrev yjm:Type:=Int×List qN×Int×Int×List ya
abbrev yuH:List Ty:=[(.int .i64),(.sl 5 Zo),(.int .i64),(.int .i64),(.sl 89 yq)]
abbrev yEy:Type:=List qN×Int×Int×List ya
abbrev yuI:Type:=List ya×List qN×Int×Int
abbrev yuJ:List Ty:=[(.sl 89 yq),(.sl 5 Zo),(.int .i64),(.int .i64)]
abbrev yuK:Type:=Int×List qN×Int×Int×List y8
abbrev yuL:List Ty:=[(.int .i64),(.sl 5 Zo),(.int .i64),(.int .i64),(.sl 91 yl)]
abbrev yEz:Type:=List qN×Int×Int×List y8
abbrev yuM:Type:=List y8×List qN×Int×Int
abbrev yuN:List Ty:=[(.sl 91 yl),(.sl 5 Zo),(.int .i64),(.int .i64)]
abbrev yEA:Type:=Bool×List qN×Int×Int
abbrev yEB:List Ty:=[.bool,(.sl 5 Zo),(.int .i64),(.int .i64)]
abbrev ylP:Type:=Int×List qN×Int×Int×List y7
abbrev ylQ:List Ty:=[(.int .i64),(.sl 5 Zo),(.int .i64),(.int .i64),(.sl 79 yh)]
abbrev yuO:Type:=List qN×Int×Int×List y7
abbrev yuP:Type:=List y7×List qN×Int×Int
abbrev yuQ:List Ty:=[(.sl 79 yh),(.sl 5 Zo),(.int .i64),(.int .i64)]
abbrev yuR:Type:=Int×List qN×Int×Int×List y6
abbrev yuS:List Ty:=[(.int .i64),(.sl 5 Zo),(.int .i64),(.int .i64),(.sl 85 yc)]
abbrev yEC:Type:=List qN×Int×Int×List y6
abbrev yuT:Type:=List y6×List qN×Int×Int
abbrev yuU:List Ty:=[(.sl 85 yc),(.sl 5 Zo),(.int .i64),(.int .i64)]
abbrev yuV:Type:=Int×List qN×Int×Int×List y5f
abbrev yuW:List Ty:=[(.int .i64),(.sl 5 Zo),(.int .i64),(.int .i64),(.sl 63 y2e)]
abbrev yED:Type:=List qN×Int×Int×List y5f
abbrev yEE:Type:=List y5f×List qN×Int×Int
abbrev yEF:List Ty:=[(.sl 63 y2e),(.sl 5 Zo),(.int .i64),(.int .i64)]
abbrev ypS:Type:=List y9×List y0×List y7×List y6×List yf×Int×List y5f
abbrev ypT:List Ty:=[(.sl 3 yg),(.sl 88 yj),(.sl 79 yh),(.sl 85 yc),(.sl 81 yt),(.int .i64),(.sl 63 y2e)]
abbrev yuX:Type:=List y8×List y8×Int×Int
abbrev yuY:List Ty:=[(.sl 91 yl),(.sl 91 yl),(.int .i64),(.int .i64)]
abbrev yuZ:Type:=Int×List ya×Int×Int×List ya
abbrev yv0:List Ty:=[(.int .i64),(.sl 89 yq),(.int .i64),(.int .i64),(.sl 89 yq)]
abbrev yEG:Type:=Bool×Int×List ya
abbrev yv1:Type:=Int×List ya×Int×Int×List y8×Int×Int×List y9×List y0
abbrev yv2:List Ty:=[(.int .i64),(.sl 89 yq),(.int .i64),(.int .i64),(.sl 91 yl),(.int .i64),(.int .i64),(.sl 3 yg),(.sl 88 yj)]
abbrev yEH:Type:=Int×Bool×List ya×Int×Int×List y9×List y0
abbrev ypU:Type:=Int×List ya×Int×Int×List y9×List y0
abbrev yv3:List Ty:=[(.int .i64),(.sl 89 yq),(.int .i64),(.int .i64),(.sl 3 yg),(.sl 88 yj)]
abbrev yv4:Type:=Bool×List y8×Int×Int×Int×Int×Int×Int×Int×List y8
abbrev yv5:List Ty:=[.bool,(.sl 91 yl),(.int .i64),(.int .i64),(.int .i64),(.int .i64),(.int .i64),(.int .i64),(.int .i64),(.sl 91 yl)]
abbrev ylR:Type:=List y8×Int×Int×List y8
abbrev ylS:List Ty:=[(.sl 91 yl),(.int .i64),(.int .i64),(.sl 91 yl)]
abbrev yv6:Type:=List ya×Int×Int×List y8
abbrev yv7:List Ty:=[(.sl 89 yq),(.int .i64),(.int .i64),(.sl 91 yl)]
abbrev yv8:Type:=Int×List y0×Int×Int×List y9×List y0
abbrev yv9:List Ty:=[(.int .i64),(.sl 88 yj),(.int .i64),(.int .i64),(.sl 3 yg),(.sl 88 yj)]
abbrev ylT:Type:=Bool×Int
abbrev ypV:List Ty:=[.bool,(.int .i64)]
abbrev yjn:Type:=List y7×Int×Int×Int
abbrev ylU:List Ty:=[(.sl 79 yh),(.int .i64),(.int .i64),(.int .i64)]
abbrev yva:Type:=List y7×List y7×Int×Int
abbrev yvb:List Ty:=[(.sl 79 yh),(.sl 79 yh),(.int .i64),(.int .i64)]
abbrev yvc:Type:=List y6×List y6×Int×Int
abbrev yvd:List Ty:=[(.sl 85 yc),(.sl 85 yc),(.int .i64),(.int .i64)]
abbrev yve:Type:=Int×List y7×Int×Int×List y9
abbrev yvf:List Ty:=[(.int .i64),(.sl 79 yh),(.int .i64),(.int .i64),(.sl 3 yg)]
abbrev yEI:Type:=ByteArray×Int×Int×Bool×ByteArray×Int×Int×Bool
abbrev yEJ:List Ty:=[.str,(.int .i64),(.int .i64),.bool,.str,(.int .i64),(.int .i64),.bool]
abbrev yvg:Type:=Bool×ByteArray×Int×Int×Bool
abbrev yvh:List Ty:=[.bool,.str,(.int .i64),(.int .i64),.bool]
abbrev yvi:Type:=List yf×Int×Int×ByteArray×Int×Int×Bool
abbrev yvj:List Ty:=[(.sl 81 yt),(.int .i64),(.int .i64),.str,(.int .i64),(.int .i64),.bool]
abbrev yvk:Type:=Int×ByteArray×Int×Int×Bool
abbrev yEK:List Ty:=[(.int .i64),.str,(.int .i64),(.int .i64),.bool]
abbrev yEL:Type:=ByteArray×Int×Int×Bool
abbrev ydp:List Ty:=[.str,(.int .i64),(.int .i64),.bool]
abbrev yvl:Type:=List yf×Int×Int×List y9×List y0×List y7×List y6×List yf×Int
abbrev yvm:List Ty:=[(.sl 81 yt),(.int .i64),(.int .i64),(.sl 3 yg),(.sl 88 yj),(.sl 79 yh),(.sl 85 yc),(.sl 81 yt),(.int .i64)]
abbrev yvn:Type:=List y0×Int×Int×List y8
abbrev yvo:List Ty:=[(.sl 88 yj),(.int .i64),(.int .i64),(.sl 91 yl)]
abbrev yvp:Type:=Int×List y6×Int×Int
abbrev yvq:List Ty:=[(.int .i64),(.sl 85 yc),(.int .i64),(.int .i64)]
abbrev yvr:Type:=Int×Int×Int×List y9×List y0×List y7×List y6×List yf×Int×List ygK×List y8
abbrev yvs:List Ty:=[(.int .i64),(.int .i64),(.int .i64),(.sl 3 yg),(.sl 88 yj),(.sl 79 yh),(.sl 85 yc),(.sl 81 yt),(.int .i64),(.sl 4 y7O),(.sl 91 yl)]
abbrev yvt:Type:=List y7×Int×Int×List y9×List y0×List y7×List y6×List yf×Int
abbrev yvu:List Ty:=[(.sl 79 yh),(.int .i64),(.int .i64),(.sl 3 yg),(.sl 88 yj),(.sl 79 yh),(.sl 85 yc),(.sl 81 yt),(.int .i64)]
abbrev yjo:Type:=List ya×Int×Int×List ya
abbrev yvv:List Ty:=[(.sl 89 yq),(.int .i64),(.int .i64),(.sl 89 yq)]
abbrev yjp:Type:=List y0×Int×Int×List y9
abbrev yvw:List Ty:=[(.sl 88 yj),(.int .i64),(.int .i64),(.sl 3 yg)]
abbrev yjq:Type:=List y0×Int×Int×List y9×List y0
abbrev yvx:List Ty:=[(.sl 88 yj),(.int .i64),(.int .i64),(.sl 3 yg),(.sl 88 yj)]
abbrev yEM:Type:=ByteArray×Int×Int×Bool×ByteArray
abbrev yEN:List Ty:=[.str,(.int .i64),(.int .i64),.bool,.str]
abbrev yvy:Type:=Bool×ByteArray
abbrev yvz:List Ty:=[.bool,.str]
abbrev yvA:Type:=List yf×Int×Int×ByteArray
abbrev yvB:List Ty:=[(.sl 81 yt),(.int .i64),(.int .i64),.str]
abbrev ylV:Type:=Int×ByteArray
abbrev yvC:List Ty:=[(.int .i64),.str]
abbrev yEO:Type:=List yf×ByteArray
abbrev yEP:List Ty:=[(.sl 81 yt),.str]
abbrev yvD:Type:=Bool×List yf×Int×Int×ByteArray×Int×Int×Bool×List yf
abbrev yvE:List Ty:=[.bool,(.sl 81 yt),(.int .i64),(.int .i64),.str,(.int .i64),(.int .i64),.bool,(.sl 81 yt)]
abbrev yEQ:Type:=Bool×ByteArray×Int×Int×Bool×List yf
abbrev yER:Type:=List y9×List y0×List y7×List y6×List yf×Int×ByteArray×Int×Bool
abbrev yES:List Ty:=[(.sl 3 yg),(.sl 88 yj),(.sl 79 yh),(.sl 85 yc),(.sl 81 yt),(.int .i64),.str,(.int .i64),.bool]
abbrev yvF:Type:=Int×Int×Int×List y9×List y0
abbrev yvG:List Ty:=[(.int .i64),(.int .i64),(.int .i64),(.sl 3 yg),(.sl 88 yj)]
abbrev yvH:Type:=Int×Int×List y8×Int×Int×Int×Int×Int×Int×Int
abbrev yvI:List Ty:=[(.int .i64),(.int .i64),(.sl 91 yl),(.int .i64),(.int .i64),(.int .i64),(.int .i64),(.int .i64),(.int .i64),(.int .i64)]
abbrev yET:Type:=List y9×List y0×Int×Int×List y9×List y0
abbrev yEU:List Ty:=[(.sl 3 yg),(.sl 88 yj),(.int .i64),(.int .i64),(.sl 3 yg),(.sl 88 yj)]
abbrev yvJ:Type:=List y7×Int×Int×Int×List y9
abbrev yvK:List Ty:=[(.sl 79 yh),(.int .i64),(.int .i64),(.int .i64),(.sl 3 yg)]
abbrev yvL:Type:=Int×Int×Int×List y8×List y8
abbrev yvM:List Ty:=[(.int .i64),(.int .i64),(.int .i64),(.sl 91 yl),(.sl 91 yl)]
abbrev yvN:Type:=List y9×Int×Int×Int
abbrev yvO:List Ty:=[(.sl 3 yg),(.int .i64),(.int .i64),(.int .i64)]
abbrev yvP:Type:=List y9×Bool×Int×Int×Int×Int×Int×Int×Int×Int×Int×Int×Int×Int×List y8
abbrev yvQ:List Ty:=[(.sl 3 yg),.bool,(.int .i64),(.int .i64),(.int .i64),(.int .i64),(.int .i64),(.int .i64),(.int .i64),(.int .i64),(.int .i64),(.int .i64),(.int .i64),(.int .i64),(.sl 91 yl)]
abbrev yjr:Type:=Int×Int×Int×List y9×List y0×List y7×List y6×List yf×Int×Int×Int×List y9×List y0×List y7×List y6×List yf
abbrev yvR:List Ty:=[(.int .i64),(.int .i64),(.int .i64),(.sl 3 yg),(.sl 88 yj),(.sl 79 yh),(.sl 85 yc),(.sl 81 yt),(.int .i64),(.int .i64),(.int .i64),(.sl 3 yg),(.sl 88 yj),(.sl 79 yh),(.sl 85 yc),(.sl 81 yt)]
abbrev yjs:Type:=Int×Int×Int×List y9×List y0×List y7×List y6×List yf×Int×Int×List y9×List y0×List y7×List y6×Int×List yf
abbrev yvS:List Ty:=[(.int .i64),(.int .i64),(.int .i64),(.sl 3 yg),(.sl 88 yj),(.sl 79 yh),(.sl 85 yc),(.sl 81 yt),(.int .i64),(.int .i64),(.sl 3 yg),(.sl 88 yj),(.sl 79 yh),(.sl 85 yc),(.int .i64),(.sl 81 yt)]
abbrev yEV:Type:=Int×Int×Int×List y9×List y0×List y7×List y6×List yf×Int×Int×List y9×List y0×List y7×List y6×Int×List y9×List y0×List y7×List y6×List yf×List yf
abbrev yEW:Type:=Int×Int×List y9×List y0×List y7×List y6×List yf×Int×Int×Int×List y9×List y0×List y7×List y6×List yf
abbrev yEX:Type:=Int×Int×List y9×List y0×List y7×List y6×List yf×Int×Int×List y9×List y0×List y7×List y6×Int×List yf
abbrev yEY:Type:=ByteArray×Int×Int×Bool×Int
abbrev yEZ:List Ty:=[.str,(.int .i64),(.int .i64),.bool,(.int .i64)]
abbrev yvT:Type:=List yf×Int×Int×Int
abbrev yvU:List Ty:=[(.sl 81 yt),(.int .i64),(.int .i64),(.int .i64)]
abbrev yvV:Type:=List yf×Int
abbrev yvW:List Ty:=[(.sl 81 yt),(.int .i64)]
abbrev yvX:Type:=List yf×Int×Int×List y9×List y0×List y7×List y6×List yf×Int×Int×Int×Int×Int×Int
abbrev yvY:List Ty:=[(.sl 81 yt),(.int .i64),(.int .i64),(.sl 3 yg),(.sl 88 yj),(.sl 79 yh),(.sl 85 yc),(.sl 81 yt),(.int .i64),(.int .i64),(.int .i64),(.int .i64),(.int .i64),(.int .i64)]
abbrev yvZ:Type:=Int×List y8×Int×Int
abbrev yw0:List Ty:=[(.int .i64),(.sl 91 yl),(.int .i64),(.int .i64)]
abbrev yw1:Type:=Int×Int×Int×Int×Int×List y9×List y0×List y7×List y6×List yf×Int×List y8×List y9
abbrev yw2:List Ty:=[(.int .i64),(.int .i64),(.int .i64),(.int .i64),(.int .i64),(.sl 3 yg),(.sl 88 yj),(.sl 79 yh),(.sl 85 yc),(.sl 81 yt),(.int .i64),(.sl 91 yl),(.sl 3 yg)]
abbrev yF0:Type:=Int×Int×Int×Int×List y9×List y0×List y7×List y6×List yf×Int×List y8×List y9
abbrev ypW:Type:=Int×Int×List y9×List y0×List y7×List y6×List yf×Int×List y8×List y9
abbrev yw3:List Ty:=[(.int .i64),(.int .i64),(.sl 3 yg),(.sl 88 yj),(.sl 79 yh),(.sl 85 yc),(.sl 81 yt),(.int .i64),(.sl 91 yl),(.sl 3 yg)]
abbrev yF1:Type:=List y9×List y0×List y7×List y6×List yf×Int×List y8
abbrev yw4:Type:=List y7×Int×Int×List y9×List y0×List y7×List y6×List yf×Int×List y8
abbrev yw5:List Ty:=[(.sl 79 yh),(.int .i64),(.int .i64),(.sl 3 yg),(.sl 88 yj),(.sl 79 yh),(.sl 85 yc),(.sl 81 yt),(.int .i64),(.sl 91 yl)]
abbrev yw6:Type:=List y7×Int×Int×Int×Int×List y7
abbrev yw7:List Ty:=[(.sl 79 yh),(.int .i64),(.int .i64),(.int .i64),(.int .i64),(.sl 79 yh)]
abbrev yF2:Type:=Int×List y7
abbrev yjt:Type:=Int×Int×Int×Int×List y9×List y0×List y7×List y6×List yf×Int×Int×Int×List y6×List y8×List y9×List y0×List y7×List y6×List yf
abbrev yw8:List Ty:=[(.int .i64),(.int .i64),(.int .i64),(.int .i64),(.sl 3 yg),(.sl 88 yj),(.sl 79 yh),(.sl 85 yc),(.sl 81 yt),(.int .i64),(.int .i64),(.int .i64),(.sl 85 yc),(.sl 91 yl),(.sl 3 yg),(.sl 88 yj),(.sl 79 yh),(.sl 85 yc),(.sl 81 yt)]
abbrev yju:Type:=Int×Int×Int×Int×List y9×List y0×List y7×List y6×List yf×Int×Int×List y9×List y0×Int×List y6×List y8×List y7×List y6×List yf
abbrev yw9:List Ty:=[(.int .i64),(.int .i64),(.int .i64),(.int .i64),(.sl 3 yg),(.sl 88 yj),(.sl 79 yh),(.sl 85 yc),(.sl 81 yt),(.int .i64),(.int .i64),(.sl 3 yg),(.sl 88 yj),(.int .i64),(.sl 85 yc),(.sl 91 yl),(.sl 79 yh),(.sl 85 yc),(.sl 81 yt)]
abbrev yF3:Type:=Int×Bool×List y9×List y0×List y7×List y6×List yf×Int×Int×Int×List y6×List y9×List y0×List y7×List y6×List yf×List y9×List y0×List y7×List y6×List yf
abbrev yF4:Type:=Int×List y9×List y0×List y7×List y6×List yf×Int×Int×Int×List y6×List y9×List y0×List y7×List y6×List yf
abbrev yF5:Type:=Int×Bool×List y9×List y0×List y7×List y6×List yf×Int×Int×List y9×List y0×Int×List y6×List y9×List y0×List y7×List y6×List yf×List y7×List y6×List yf
abbrev yF6:Type:=Int×List y9×List y0×List y7×List y6×List yf×Int×Int×List y9×List y0×Int×List y6×List y7×List y6×List yf
abbrev yjv:Type:=List y5f×Int×Int×Int×Int×List y9×List y0×List y7×List y6×List yf
abbrev ywa:List Ty:=[(.sl 63 y2e),(.int .i64),(.int .i64),(.int .i64),(.int .i64),(.sl 3 yg),(.sl 88 yj),(.sl 79 yh),(.sl 85 yc),(.sl 81 yt)]
abbrev yjw:Type:=List y5f×Int×Int×Int×List y9×List y0×List y7×List y6×List yf×Int
abbrev ywb:List Ty:=[(.sl 63 y2e),(.int .i64),(.int .i64),(.int .i64),(.sl 3 yg),(.sl 88 yj),(.sl 79 yh),(.sl 85 yc),(.sl 81 yt),(.int .i64)]
abbrev ywc:Type:=Int×Int×List y9×List y0×List y7×List y6×List yf
abbrev yF7:Type:=List qN×Int×Int×List y9×List y0×List y7×List y6×List yf×Int
abbrev yF8:List Ty:=[(.sl 5 Zo),(.int .i64),(.int .i64),(.sl 3 yg),(.sl 88 yj),(.sl 79 yh),(.sl 85 yc),(.sl 81 yt),(.int .i64)]
abbrev ylW:Type:=List yO×Int×List yO
abbrev ylX:List Ty:=[(.sl 141 yr),(.int .i64),(.sl 141 yr)]
abbrev yi6:Type:=List yO×ByteArray×Int
abbrev yi7:List Ty:=[(.sl 141 yr),.str,(.int .i64)]
abbrev yfr:Type:=List yO×ByteArray
abbrev yfs:List Ty:=[(.sl 141 yr),.str]
abbrev ypX:Type:=Int×ByteArray×Bool×List y9×List yO
abbrev ywd:List Ty:=[(.int .i64),.str,.bool,(.sl 3 yg),(.sl 141 yr)]
abbrev ywe:Type:=List yO×ByteArray×Bool×List y9
abbrev ywf:List Ty:=[(.sl 141 yr),.str,.bool,(.sl 3 yg)]
abbrev y6q:Type:=List yO×Int
abbrev y6r:List Ty:=[(.sl 141 yr),(.int .i64)]
abbrev ywg:Type:=List yO×ByteArray×ByteArray×Bool
abbrev ywh:List Ty:=[(.sl 141 yr),.str,.str,.bool]
abbrev ywi:Type:=List yO×ByteArray×Int×Int
abbrev ywj:List Ty:=[(.sl 141 yr),.str,(.int .i64),(.int .i64)]
abbrev ywk:Type:=List yO×Int×Int×Int×List yO×List y9
abbrev ywl:List Ty:=[(.sl 141 yr),(.int .i64),(.int .i64),(.int .i64),(.sl 141 yr),(.sl 3 yg)]
abbrev yF9:Type:=Int×List yO×List y9
abbrev ypY:Type:=List yO×Int×ByteArray×ByteArray×Int×Int
abbrev ypZ:List Ty:=[(.sl 141 yr),(.int .i64),.str,.str,(.int .i64),(.int .i64)]
abbrev yjx:Type:=Int×List qN×Int×Int×List yO
abbrev ywm:List Ty:=[(.int .i64),(.sl 5 Zo),(.int .i64),(.int .i64),(.sl 141 yr)]
abbrev yjy:Type:=List yO×Int×List qN×Int×Int
abbrev ywn:List Ty:=[(.sl 141 yr),(.int .i64),(.sl 5 Zo),(.int .i64),(.int .i64)]
abbrev yFa:Type:=List qN×Int×Int×List yO
abbrev yq0:Type:=List yO×List qN×Int×Int
abbrev yFb:List Ty:=[(.sl 141 yr),(.sl 5 Zo),(.int .i64),(.int .i64)]
abbrev ylY:Type:=List yO×Int×Int×List yO
abbrev ylZ:List Ty:=[(.sl 141 yr),(.int .i64),(.int .i64),(.sl 141 yr)]
abbrev yFc:Type:=ByteArray×Bool×List y9×ByteArray
abbrev yFd:List Ty:=[.str,.bool,(.sl 3 yg),.str]
abbrev ywo:Type:=List yO×Int×Int×ByteArray
abbrev ywp:List Ty:=[(.sl 141 yr),(.int .i64),(.int .i64),.str]
abbrev yq1:Type:=List yO×Int×ByteArray×Bool×List y9
abbrev ywq:List Ty:=[(.sl 141 yr),(.int .i64),.str,.bool,(.sl 3 yg)]
abbrev ywr:Type:=List y9×List y9×Int
abbrev yws:List Ty:=[(.sl 3 yg),(.sl 3 yg),(.int .i64)]
abbrev yFe:Type:=List y9×List y9
abbrev yFf:List Ty:=[(.sl 3 yg),(.sl 3 yg)]
abbrev ywt:Type:=List y8×List y8×Int
abbrev ywu:List Ty:=[(.sl 91 yl),(.sl 91 yl),(.int .i64)]
abbrev yFg:Type:=List ya×List ya
abbrev yFh:List Ty:=[(.sl 89 yq),(.sl 89 yq)]
abbrev yFi:Type:=List y9×List y0×List y9×List y0
abbrev yFj:List Ty:=[(.sl 3 yg),(.sl 88 yj),(.sl 3 yg),(.sl 88 yj)]
abbrev ywv:Type:=List y7×List y7×Int
abbrev yww:List Ty:=[(.sl 79 yh),(.sl 79 yh),(.int .i64)]
abbrev yFk:Type:=List y7×List y7
abbrev yFl:List Ty:=[(.sl 79 yh),(.sl 79 yh)]
abbrev ywx:Type:=List y6×List y6×Int
abbrev ywy:List Ty:=[(.sl 85 yc),(.sl 85 yc),(.int .i64)]
abbrev yFm:Type:=List y6×List y6
abbrev yFn:List Ty:=[(.sl 85 yc),(.sl 85 yc)]
abbrev ywz:Type:=Int×List y9×List y0×List y7×List y6×List yf×Int×List y9×List y0×List y7×List y6×List yf×Int
abbrev ywA:List Ty:=[(.int .i64),(.sl 3 yg),(.sl 88 yj),(.sl 79 yh),(.sl 85 yc),(.sl 81 yt),(.int .i64),(.sl 3 yg),(.sl 88 yj),(.sl 79 yh),(.sl 85 yc),(.sl 81 yt),(.int .i64)]
abbrev yFo:Type:=List y9×List y0×List y7×List y6×List yf×Int×List y9×List y0×List y7×List y6×List yf×Int
abbrev yFp:List Ty:=[(.sl 3 yg),(.sl 88 yj),(.sl 79 yh),(.sl 85 yc),(.sl 81 yt),(.int .i64),(.sl 3 yg),(.sl 88 yj),(.sl 79 yh),(.sl 85 yc),(.sl 81 yt),(.int .i64)]
abbrev yjz:Type:=List y5f×Int×Int×Int×List y9×List y0×List y7×List y6×List yf
abbrev ywB:List Ty:=[(.sl 63 y2e),(.int .i64),(.int .i64),(.int .i64),(.sl 3 yg),(.sl 88 yj),(.sl 79 yh),(.sl 85 yc),(.sl 81 yt)]
abbrev yjA:Type:=List y5f×Int×Int×List y9×List y0×List y7×Int×List y6×List yf
abbrev ywC:List Ty:=[(.sl 63 y2e),(.int .i64),(.int .i64),(.sl 3 yg),(.sl 88 yj),(.sl 79 yh),(.int .i64),(.sl 85 yc),(.sl 81 yt)]
abbrev yFq:Type:=Int×List y9×List y0×List y7×Int×List y6×List yf
abbrev ywD:Type:=List yO×List yO×Int
abbrev ywE:List Ty:=[(.sl 141 yr),(.sl 141 yr),(.int .i64)]
abbrev yFr:Type:=List yO×List yO
abbrev yFs:List Ty:=[(.sl 141 yr),(.sl 141 yr)]
abbrev yq2:List Ty:=[.str,.bool,(.sl 3 yg)]
def ywF:List (Nat×TI):=[
 (3,.c (.int .i64) 8),
 (4,.c (.bool) 1),
 (5,.c (.int .u8) 1),
 (9,.c (.str) 16),
 (22,.c (.sl 5 Zo) 24),
 (29,.c (.sl 3 yg) 24),
 (30,.c (.sl 88 yj) 24),
 (32,.s [(0,29),(1,30)] [(.sl 3 yg),(.sl 88 yj)] 48),
 (33,.c (.sl 79 yh) 24),
 (34,.c (.sl 85 yc) 24),
 (35,.c (.sl 81 yt) 24),
 (37,.s [(0,32),(2,33),(3,34),(4,35),(5,3)] [(.sl 3 yg),(.sl 88 yj),(.sl 79 yh),(.sl 85 yc),(.sl 81 yt),(.int .i64)] 128),
 (58,.c (.sl 63 y2e) 24),
 (63,.s [(0,3),(1,9),(2,9),(3,3),(4,3)] [(.int .i64),.str,.str,(.int .i64),(.int .i64)] 56),
 (68,.c (.sl 141 yr) 24),
 (79,.s [(0,3),(1,3)] [(.int .i64),(.int .i64)] 16),
 (81,.s [(0,9),(1,3),(2,3),(3,4)] [.str,(.int .i64),(.int .i64),.bool] 40),
 (85,.s [(0,3),(1,4),(2,3)] [(.int .i64),.bool,(.int .i64)] 24),
 (86,.c (.sl 89 yq) 24),
 (88,.s [(0,86)] [(.sl 89 yq)] 24),
 (89,.c (.sl 91 yl) 24),
 (91,.s [(0,3),(1,3),(2,3),(3,3),(4,3)] [(.int .i64),(.int .i64),(.int .i64),(.int .i64),(.int .i64)] 40),
 (141,.s [(0,9),(1,4),(2,29)] [.str,.bool,(.sl 3 yg)] 48),
 (152,.s [(0,22),(1,3),(2,3)] [(.sl 5 Zo),(.int .i64),(.int .i64)] 40),
 (178,.c (.sl 9 y2f) 24),
 (218,.c (.sl 4 y7O) 24)]
def sg5:Sig:=⟨[.v false [(.sl 5 Zo)] [false]],[⟨false,[.bool],[false]⟩],false,false,false⟩
def sg9:Sig:=⟨[.v false [(.sl 5 Zo)] [false],.v false [(.int .i64)] [false]],[⟨false,[(.int .i64)],[false]⟩],false,false,false⟩
def yL6:Sig:=⟨[.v false [(.sl 5 Zo)] [false]],[⟨true,qz1,(nf 3)⟩],true,false,false⟩
def yL7:Sig:=⟨[.v false [(.sl 5 Zo)] [false],.v false [(.int .i64)] [false]],[⟨false,[(.int .i64)],[false]⟩],false,false,false⟩
def ywG:Sig:=⟨[.p none qz1 (nf 3)],[⟨false,[(.int .i64)],[false]⟩],false,false,false⟩
def yL8:Sig:=⟨[.p none qz1 (nf 3),.v false [(.int .i64)] [false]],[⟨false,[(.int .i64)],[false]⟩],false,false,false⟩
def yL9:Sig:=⟨[.p none qz1 (nf 3),.v false [(.sl 3 yg)] [false]],[⟨false,[(.int .i64)],[false]⟩],false,false,false⟩
def yLa:Sig:=⟨[.v false [(.int .i64)] [false],.v false [(.int .i64)] [false],.v false [(.int .i64)] [false]],[⟨false,[.bool],[false]⟩],false,false,false⟩
def ywH:Sig:=⟨[.v false [.str] [false]],[⟨false,[.bool],[false]⟩],false,false,false⟩
def ywI:Sig:=⟨[.v false [(.int .i64)] [false]],[⟨false,[.bool],[false]⟩],false,false,false⟩
def ywJ:Sig:=⟨[.v true qz8 (nf 5)],[⟨false,[.bool],[false]⟩],false,false,false⟩
def yLb:Sig:=⟨[.v true qz8 (nf 5)],[⟨false,[.bool],[false]⟩],false,false,false⟩
def ywK:Sig:=⟨[.v true qz9 (nf 5)],[⟨false,[.bool],[false]⟩],false,false,false⟩
def ywL:Sig:=⟨[.v true qz9 (nf 5),.v true qz9 (nf 5)],[⟨false,[.bool],[false]⟩],false,false,false⟩
def ywM:Sig:=⟨[.v false [(.sl 91 yl)] [false]],[⟨false,[.bool],[false]⟩],false,false,false⟩
def ywN:Sig:=⟨[.v false [(.sl 91 yl)] [false]],[⟨false,[.bool],[false]⟩],false,false,false⟩
def ywO:Sig:=⟨[.v true [(.sl 89 yq)] [false]],[⟨false,[(.int .i64)],[false]⟩],false,false,false⟩
def ywP:Sig:=⟨[.v true [(.sl 89 yq)] [false]],[⟨false,[.bool],[false]⟩],false,false,false⟩
def ywQ:Sig:=⟨[.v false [(.sl 91 yl)] [false]],[⟨false,[(.sl 91 yl)],[true]⟩],false,false,false⟩
def ywR:Sig:=⟨[.v true qz9 (nf 5),.v true qz9 (nf 5)],[⟨false,[.bool],[false]⟩],false,false,false⟩
def ywS:Sig:=⟨[.v false [(.sl 91 yl)] [false],.v true qz9 (nf 5)],[⟨false,[(.sl 91 yl)],[true]⟩],false,false,false⟩
def ywT:Sig:=⟨[.v false [(.sl 91 yl)] [false],.v false [(.sl 91 yl)] [false]],[⟨false,[(.sl 91 yl)],[true]⟩],false,false,false⟩
def ywU:Sig:=⟨[.v true [(.sl 89 yq)] [false]],[⟨false,[(.sl 91 yl)],[true]⟩],false,false,false⟩
def ywV:Sig:=⟨[.v false [(.int .i64)] [false],.v false [(.int .i64)] [false]],[⟨false,[(.int .i64)],[false]⟩],false,false,false⟩
def ywW:Sig:=⟨[.v true qz9 (nf 5)],[⟨false,[(.int .i64)],[false]⟩],false,false,false⟩
def ywX:Sig:=⟨[.v true kI [false,false],.v false [(.int .i64)] [false]],[⟨false,[.bool],[false]⟩],false,false,false⟩
def ywY:Sig:=⟨[.v true kI [false,false]],[⟨false,[(.sl 91 yl)],[true]⟩],false,false,false⟩
def ywZ:Sig:=⟨[.v true kI [false,false]],[⟨false,[.bool],[false]⟩],false,false,false⟩
def yx0:Sig:=⟨[.v false [(.sl 79 yh)] [false],.v false [(.int .i64)] [false]],[⟨false,[(.int .i64)],[false]⟩],false,false,false⟩
def yx1:Sig:=⟨[.v false [(.sl 79 yh)] [false]],[⟨false,[.bool],[false]⟩],false,false,false⟩
def yx2:Sig:=⟨[.v false [(.sl 85 yc)] [false]],[⟨false,[.bool],[false]⟩],false,false,false⟩
def yx3:Sig:=⟨[.v false [(.sl 79 yh)] [false],.v false [(.int .i64)] [false]],[⟨false,[(.sl 3 yg)],[true]⟩],false,false,false⟩
def yx4:Sig:=⟨[.v true Z0 (nf 6)],[⟨false,[.bool],[false]⟩],false,false,false⟩
def yx5:Sig:=⟨[.v false [(.sl 85 yc)] [false],.v false [(.int .i64)] [false],.v false [(.int .i64)] [false]],[⟨false,[(.int .i64)],[false]⟩,⟨false,[.bool],[false]⟩],false,false,false⟩
def yx6:Sig:=⟨[.v false [(.sl 85 yc)] [false]],[⟨false,[(.int .i64)],[false]⟩],false,false,false⟩
def yx7:Sig:=⟨[.v true Z0 (nf 6)],[⟨false,[.bool],[false]⟩],false,false,false⟩
def yLc:Sig:=⟨[.v true Z0 (nf 6)],[⟨false,[.bool],[false]⟩],false,false,false⟩
def yx8:Sig:=⟨[.v true [(.sl 89 yq)] [false]],[⟨true,[(.sl 89 yq)],[true]⟩],false,false,false⟩
def yx9:Sig:=⟨[.v true kI [false,false]],[⟨true,kI,[true,true]⟩],false,false,false⟩
def yxa:Sig:=⟨[.v false [(.sl 85 yc)] [false]],[⟨false,[(.sl 85 yc)],[true]⟩],false,false,false⟩
def yLd:Sig:=⟨[.v true Z0 (nf 6)],[⟨true,Z0,[true,true,true,true,true,false]⟩],false,false,false⟩
def yxb:Sig:=⟨[.v true Z0 (nf 6),.v false [.str] [false]],[⟨false,[(.int .i64)],[false]⟩],false,false,false⟩
def yxc:Sig:=⟨[.v true Z0 (nf 6),.v false [.str] [false]],[⟨false,[(.int .i64)],[false]⟩],false,false,false⟩
def yxd:Sig:=⟨[.v false [(.sl 79 yh)] [false],.v false [(.int .i64)] [false],.v false [(.int .i64)] [false]],[⟨false,[(.sl 79 yh)],[true]⟩,⟨false,[.bool],[false]⟩],false,false,false⟩
def yxe:Sig:=⟨[.v false [(.sl 81 yt)] [false],.v true ydp (nf 4)],[⟨false,[(.sl 81 yt)],[true]⟩],false,false,false⟩
def yxf:Sig:=⟨[.v true Z0 (nf 6),.v true Z0 [false,false,false,true,true,false],.v false [.bool] [false]],[⟨true,Z0,[false,false,false,true,true,false]⟩,⟨false,[(.int .i64)],[false]⟩],false,false,false⟩
def yLe:Sig:=⟨[.v true Z0 (nf 6),.v false [.str] [false],.v false [(.int .i64)] [false]],[⟨true,Z0,[false,false,false,true,true,false]⟩,⟨false,[(.int .i64)],[false]⟩],false,false,false⟩
def yLf:Sig:=⟨[.v true Z0 (nf 6),.v false [.str] [false],.v false [.str] [false],.v false [.bool] [false]],[⟨true,Z0,[false,false,false,true,true,false]⟩,⟨false,[(.int .i64)],[false]⟩],false,false,false⟩
def yxg:Sig:=⟨[.v true Z0 (nf 6),.v false [.str] [false]],[⟨false,[(.int .i64)],[false]⟩],false,false,false⟩
def yLg:Sig:=⟨[.v true Z0 (nf 6),.v false [.str] [false]],[⟨true,Z0,[false,false,false,true,true,false]⟩,⟨false,[(.int .i64)],[false]⟩],false,false,false⟩
def yxh:Sig:=⟨[.v true Z0 (nf 6),.v false [.str] [false],.v false [(.int .i64)] [false]],[⟨false,[(.int .i64)],[false]⟩],false,false,false⟩
def yxi:Sig:=⟨[.v false [(.sl 85 yc)] [false],.v false [(.int .i64)] [false]],[⟨false,[(.sl 85 yc)],[true]⟩,⟨false,[(.int .i64)],[false]⟩,⟨false,[.bool],[false]⟩],false,false,false⟩
def yxj:Sig:=⟨[.v true kI [false,false],.v false [(.int .i64)] [false],.v false [(.int .i64)] [false]],[⟨false,[(.int .i64)],[false]⟩],false,false,false⟩
def yxk:Sig:=⟨[.v false [(.sl 91 yl)] [false],.v false [(.int .i64)] [false],.v false [(.int .i64)] [false]],[⟨true,qz9,(nf 5)⟩,⟨false,[.bool],[false]⟩],false,false,false⟩
def yxl:Sig:=⟨[.v true [(.sl 89 yq)] [false],.v false [(.int .i64)] [false],.v false [(.int .i64)] [false]],[⟨true,qz9,(nf 5)⟩,⟨false,[.bool],[false]⟩],false,false,false⟩
def yxm:Sig:=⟨[.v true kI [false,false],.v false [(.int .i64)] [false],.v false [(.int .i64)] [false]],[⟨true,qz9,(nf 5)⟩,⟨false,[.bool],[false]⟩],false,false,false⟩
def yxn:Sig:=⟨[.v false [(.sl 91 yl)] [false]],[⟨true,[(.sl 89 yq)],[true]⟩],false,false,false⟩
def yxo:Sig:=⟨[.v true [(.sl 89 yq)] [false],.v true qz9 (nf 5)],[⟨true,[(.sl 89 yq)],[true]⟩,⟨false,[.bool],[false]⟩],false,false,false⟩
def yxp:Sig:=⟨[.v true kI [true,true],.v false [(.int .i64)] [false],.v false [(.sl 3 yg)] [false],.v false [(.sl 88 yj)] [false]],[⟨true,kI,[true,true]⟩],false,false,true⟩
def yxq:Sig:=⟨[.v true kI [false,false]],[⟨false,[(.int .i64)],[false]⟩],false,false,false⟩
def yxr:Sig:=⟨[.v true kI [true,true]],[⟨true,kI,[true,true]⟩],false,false,false⟩
def yxs:Sig:=⟨[.v true kI [false,false],.v true qz9 (nf 5)],[⟨true,kI,[true,true]⟩,⟨false,[.bool],[false]⟩],false,false,false⟩
def yxt:Sig:=⟨[.v false [(.sl 85 yc)] [false],.v false [(.int .i64)] [false]],[⟨false,[(.sl 85 yc)],[true]⟩],false,false,false⟩
def yxu:Sig:=⟨[.p none Z0 [false,false,false,true,true,false],.v true qz9 (nf 5),.v false [.bool] [false]],[],false,false,false⟩
def yxv:Sig:=⟨[.p none Z0 [false,false,false,true,true,false],.v true qz9 (nf 5)],[⟨false,[.bool],[false]⟩],false,false,false⟩
def yLh:Sig:=⟨[.v true Z0 (nf 6),.v false [.str] [false],.v false [(.int .i64)] [false],.v false [(.int .i64)] [false]],[⟨true,Z0,[false,false,false,true,true,false]⟩,⟨false,[(.int .i64)],[false]⟩],false,false,false⟩
def yxw:Sig:=⟨[.v false [(.sl 79 yh)] [false],.v false [(.int .i64)] [false]],[⟨false,[(.sl 3 yg)],[true]⟩],false,false,false⟩
def yxx:Sig:=⟨[.v true kI [false,false],.v false [(.int .i64)] [false]],[⟨false,[(.sl 91 yl)],[true]⟩],false,false,false⟩
def yxy:Sig:=⟨[.v false [(.sl 3 yg)] [false],.v false [(.int .i64)] [false]],[⟨false,[.bool],[false]⟩],false,false,false⟩
def yxz:Sig:=⟨[.v true kI [false,false],.v false [(.int .i64)] [false],.v false [(.sl 3 yg)] [false]],[⟨true,qz9,(nf 5)⟩,⟨false,[.bool],[false]⟩],false,false,false⟩
def yxA:Sig:=⟨[.v true kI [false,false],.v false [(.sl 79 yh)] [false],.v false [(.int .i64)] [false],.v false [(.int .i64)] [false]],[⟨true,qz9,(nf 5)⟩,⟨false,[.bool],[false]⟩],false,false,false⟩
def yxB:Sig:=⟨[.p none Z0 [false,false,false,true,true,false],.v false [(.int .i64)] [false],.v false [(.int .i64)] [false]],[⟨false,[.bool],[false]⟩],false,false,false⟩
def yLi:Sig:=⟨[.v true Z0 (nf 6),.v false [.str] [false],.v false [(.int .i64)] [false]],[⟨true,Z0,[false,false,false,true,true,false]⟩,⟨false,[(.int .i64)],[false]⟩],false,false,false⟩
def yLj:Sig:=⟨[.v true Z0 (nf 6),.v false [.str] [false],.v false [(.int .i64)] [false]],[⟨true,Z0,[false,false,false,true,true,false]⟩,⟨false,[(.int .i64)],[false]⟩],false,false,false⟩
def yxC:Sig:=⟨[.v true kI [false,false],.v false [(.sl 79 yh)] [false],.v false [(.int .i64)] [false],.v false [(.int .i64)] [false]],[⟨true,qz9,(nf 5)⟩,⟨false,[.bool],[false]⟩],false,false,false⟩
def yxD:Sig:=⟨[.v true kI [false,false],.v false [(.sl 79 yh)] [false],.v true qz9 (nf 5),.v false [(.int .i64)] [false]],[⟨false,[.bool],[false]⟩],false,false,false⟩
def yxE:Sig:=⟨[.v true Z0 (nf 6),.v true qz9 (nf 5)],[⟨false,[.bool],[false]⟩],false,false,false⟩
def yxF:Sig:=⟨[.v true Z0 (nf 6),.v false [(.int .i64)] [false]],[⟨false,[.bool],[false]⟩],false,false,false⟩
def yxG:Sig:=⟨[.v true Z0 (nf 6),.v false [(.int .i64)] [false]],[⟨false,[(.int .i64)],[false]⟩],false,false,false⟩
def yxH:Sig:=⟨[.v true Z0 (nf 6),.v true qz9 (nf 5)],[⟨false,[.bool],[false]⟩],false,false,false⟩
def yxI:Sig:=⟨[.v true Z0 (nf 6),.v false [(.int .i64)] [false],.v true qz9 (nf 5)],[⟨false,[.bool],[false]⟩],false,false,false⟩
def yxJ:Sig:=⟨[.v true Z0 (nf 6),.v false [(.int .i64)] [false]],[⟨false,[.bool],[false]⟩],false,false,false⟩
def yxK:Sig:=⟨[.v true Z0 (nf 6)],[⟨false,[(.int .i64)],[false]⟩,⟨false,[(.int .i64)],[false]⟩],false,false,false⟩
def yxL:Sig:=⟨[.p none Z0 [false,false,false,true,true,false],.v true qz9 (nf 5)],[⟨false,[.bool],[false]⟩],false,false,false⟩
def yxM:Sig:=⟨[.v false [(.sl 79 yh)] [false],.v false [(.int .i64)] [false]],[⟨false,[(.sl 79 yh)],[true]⟩,⟨false,[.bool],[false]⟩],false,false,false⟩
def yxN:Sig:=⟨[.v true Z0 (nf 6)],[⟨true,Z0,[false,false,false,true,true,false]⟩,⟨false,[.bool],[false]⟩],false,false,false⟩
def yxO:Sig:=⟨[.v true [(.sl 89 yq)] [false]],[⟨true,[(.sl 89 yq)],[true]⟩],false,false,false⟩
def yxP:Sig:=⟨[.v true kI [false,false],.v false [(.int .i64)] [false]],[⟨true,kI,[true,true]⟩],false,false,false⟩
def yxQ:Sig:=⟨[.v true Z0 (nf 6),.v false [(.int .i64)] [false]],[⟨true,Z0,[true,true,true,true,true,false]⟩,⟨false,[.bool],[false]⟩],false,false,false⟩
def yxR:Sig:=⟨[.v true Z0 (nf 6),.v false [(.int .i64)] [false]],[⟨true,qz9,(nf 5)⟩],false,false,false⟩
def yxS:Sig:=⟨[.v true Z0 (nf 6),.v false [(.int .i64)] [false]],[⟨true,Z0,[true,true,true,true,true,false]⟩,⟨false,[.bool],[false]⟩],false,false,false⟩
def yLk:Sig:=⟨[.v true Z0 (nf 6),.v true qz8 (nf 5)],[⟨true,Z0,[false,false,false,true,true,false]⟩,⟨false,[.bool],[false]⟩],false,false,false⟩
def yLl:Sig:=⟨[.v true Z0 (nf 6),.v true qz8 (nf 5)],[⟨true,Z0,[false,false,false,true,true,false]⟩,⟨false,[(.int .i64)],[false]⟩],false,false,false⟩
def yxT:Sig:=⟨[.p none qz1 (nf 3),.v false [(.sl 9 y2f)] [false]],[⟨false,[.str],[false]⟩],false,false,false⟩
def yxU:Sig:=⟨[.p none qz1 (nf 3)],[⟨false,[.str],[false]⟩],false,false,false⟩
def yxV:Sig:=⟨[.p none qz1 (nf 3)],[⟨false,[(.int .i64)],[false]⟩],false,false,false⟩
def yxW:Sig:=⟨[.p none qz1 (nf 3)],[⟨true,qz8,(nf 5)⟩],false,false,false⟩
def yxX:Sig:=⟨[],[⟨true,kI,[true,true]⟩],false,false,false⟩
def yxY:Sig:=⟨[],[⟨false,[(.sl 85 yc)],[true]⟩],false,false,false⟩
def yxZ:Sig:=⟨[],[⟨true,Z0,[true,true,true,true,true,false]⟩],false,false,false⟩
def yy0:Sig:=⟨[.p none qz1 (nf 3),.v false [(.int .i64)] [false]],[⟨true,Z0,[false,false,false,true,true,false]⟩],false,false,false⟩
def yy1:Sig:=⟨[.p none qz1 (nf 3)],[⟨true,qz9,(nf 5)⟩],false,false,false⟩
def yy2:Sig:=⟨[.p none qz1 (nf 3)],[⟨true,qz9,(nf 5)⟩],false,false,false⟩
def yy3:Sig:=⟨[.p none qz1 (nf 3),.v false [(.int .i64)] [false]],[⟨true,kI,[true,true]⟩],false,false,false⟩
def yy4:Sig:=⟨[.p none qz1 (nf 3)],[⟨true,[(.sl 89 yq)],[true]⟩],false,false,false⟩
def yy5:Sig:=⟨[.p none qz1 (nf 3),.v false [(.int .i64)] [false]],[⟨false,[(.sl 91 yl)],[true]⟩],false,false,false⟩
def yy6:Sig:=⟨[.p none qz1 (nf 3)],[⟨true,qz9,(nf 5)⟩],false,false,false⟩
def yy7:Sig:=⟨[.p none qz1 (nf 3),.v false [(.int .i64)] [false]],[⟨false,[(.sl 91 yl)],[true]⟩],false,false,false⟩
def yy8:Sig:=⟨[.p none qz1 (nf 3)],[⟨true,[(.sl 89 yq)],[true]⟩],false,false,false⟩
def yy9:Sig:=⟨[.p none qz1 (nf 3),.v false [(.int .i64)] [false]],[⟨true,kI,[true,true]⟩],false,false,false⟩
def yLm:Sig:=⟨[.p none qz1 (nf 3),.v false [(.int .i64)] [false]],[⟨false,[.bool],[false]⟩],false,false,false⟩
def yya:Sig:=⟨[.p none qz1 (nf 3)],[⟨false,[(.sl 79 yh)],[true]⟩],false,false,false⟩
def yyb:Sig:=⟨[.p none qz1 (nf 3)],[⟨false,[(.sl 79 yh)],[true]⟩],false,false,false⟩
def yyc:Sig:=⟨[.p none qz1 (nf 3)],[⟨false,[(.sl 85 yc)],[true]⟩],false,false,false⟩
def yyd:Sig:=⟨[.p none qz1 (nf 3)],[⟨false,[(.sl 85 yc)],[false]⟩],false,false,false⟩
def yLn:Sig:=⟨[.p none qz1 (nf 3),.v false [(.int .i64)] [false]],[⟨true,Z0,[false,false,false,false,true,false]⟩],false,false,false⟩
def yLo:Sig:=⟨[.p none qz1 (nf 3),.v false [(.int .i64)] [false]],[⟨false,[(.sl 63 y2e)],[true]⟩],false,false,false⟩
def yLp:Sig:=⟨[.v false [(.sl 5 Zo)] [false]],[⟨true,Z0,[false,false,false,false,true,false]⟩,⟨false,[(.sl 63 y2e)],[true]⟩],false,false,false⟩
def yLq:Sig:=⟨[.v false [(.int .i64)] [false],.v false [(.int .i64)] [false],.v false [(.int .i64)] [false]],[⟨false,[.bool],[false]⟩],false,false,false⟩
def yye:Sig:=⟨[.v true qz9 (nf 5)],[⟨false,[.bool],[false]⟩],false,false,false⟩
def yyf:Sig:=⟨[.v true qz9 (nf 5),.v true qz9 (nf 5)],[⟨false,[.bool],[false]⟩],false,false,false⟩
def yyg:Sig:=⟨[.v false [(.sl 91 yl)] [false]],[⟨false,[.bool],[false]⟩],false,false,false⟩
def yyh:Sig:=⟨[.v true [(.sl 89 yq)] [false]],[⟨false,[.bool],[false]⟩],false,false,false⟩
def yyi:Sig:=⟨[.v false [(.int .i64)] [false],.v false [(.int .i64)] [false]],[⟨false,[(.int .i64)],[false]⟩],false,false,false⟩
def yyj:Sig:=⟨[.v true kI [false,false],.v false [(.int .i64)] [false]],[⟨false,[.bool],[false]⟩],false,false,false⟩
def yyk:Sig:=⟨[.v false [(.sl 91 yl)] [false]],[⟨false,[(.sl 91 yl)],[true]⟩],false,false,false⟩
def yyl:Sig:=⟨[.v true qz9 (nf 5),.v true qz9 (nf 5)],[⟨false,[.bool],[false]⟩],false,false,false⟩
def yym:Sig:=⟨[.v false [(.sl 91 yl)] [false],.v true qz9 (nf 5)],[⟨false,[(.sl 91 yl)],[true]⟩],false,false,false⟩
def yyn:Sig:=⟨[.v false [(.sl 91 yl)] [false],.v false [(.sl 91 yl)] [false]],[⟨false,[(.sl 91 yl)],[true]⟩],false,false,false⟩
def yyo:Sig:=⟨[.v false [(.sl 91 yl)] [false]],[⟨false,[(.sl 91 yl)],[true]⟩],false,false,false⟩
def yyp:Sig:=⟨[.v true [(.sl 89 yq)] [false]],[⟨false,[(.sl 91 yl)],[true]⟩],false,false,false⟩
def yyq:Sig:=⟨[.v true kI [false,false]],[⟨false,[.bool],[false]⟩],false,false,false⟩
def yyr:Sig:=⟨[.v true ylM [false,false],.p none [(.int .i64)] [false]],[⟨false,[.bool],[false]⟩],false,false,false⟩
def ygL:Sig:=⟨[.v false [(.sl 79 yh)] [false],.p (some 271) [(.int .i64)] [false]],[⟨false,[(.int .i64)],[false]⟩],false,false,false⟩
def yys:Sig:=⟨[.v false [(.sl 79 yh)] [false],.v false [(.int .i64)] [false]],[⟨false,[(.int .i64)],[false]⟩],false,false,false⟩
def yyt:Sig:=⟨[.v false [(.sl 79 yh)] [false]],[⟨false,[.bool],[false]⟩],false,false,false⟩
def yyu:Sig:=⟨[.v false [(.int .i64)] [false]],[⟨false,[.bool],[false]⟩],false,false,false⟩
def yyv:Sig:=⟨[.v false [(.sl 85 yc)] [false]],[⟨false,[.bool],[false]⟩],false,false,false⟩
def yyw:Sig:=⟨[.v false [.str] [false]],[⟨false,[.bool],[false]⟩],false,false,false⟩
def yyx:Sig:=⟨[.v false [(.sl 79 yh)] [false],.v false [(.int .i64)] [false]],[⟨false,[(.sl 3 yg)],[true]⟩],false,false,false⟩
def yyy:Sig:=⟨[.v true ydp (nf 4),.p none ydp (nf 4)],[⟨false,[.bool],[false]⟩],false,false,false⟩
def ygM:Sig:=⟨[.v false [(.sl 81 yt)] [false],.p (some 207) ydp (nf 4)],[⟨false,[(.int .i64)],[false]⟩],false,false,false⟩
def ygN:Sig:=⟨[.v false [(.sl 81 yt)] [false],.p (some 207) ydp (nf 4)],[⟨false,[.bool],[false]⟩],false,false,false⟩
def yyz:Sig:=⟨[.v true Z0 (nf 6)],[⟨false,[.bool],[false]⟩],false,false,false⟩
def yyA:Sig:=⟨[.v true kI [false,false]],[⟨false,[(.sl 91 yl)],[true]⟩],false,false,false⟩
def yyB:Sig:=⟨[.v false [(.sl 85 yc)] [false],.v false [(.int .i64)] [false],.v false [(.int .i64)] [false]],[⟨false,[(.int .i64)],[false]⟩,⟨false,[.bool],[false]⟩],false,false,false⟩
def yyC:Sig:=⟨[.v false [(.sl 85 yc)] [false]],[⟨false,[(.int .i64)],[false]⟩],false,false,false⟩
def yyD:Sig:=⟨[.v true Z0 (nf 6)],[⟨false,[.bool],[false]⟩],false,false,false⟩
def yLr:Sig:=⟨[.v true Z0 (nf 6)],[⟨false,[.bool],[false]⟩],false,false,false⟩
def yyE:Sig:=⟨[.v false [(.sl 3 yg)] [false]],[⟨false,[(.sl 3 yg)],[true]⟩],false,false,false⟩
def yyF:Sig:=⟨[.v true [(.sl 89 yq)] [false]],[⟨true,[(.sl 89 yq)],[true]⟩],false,false,false⟩
def yyG:Sig:=⟨[.v true kI [false,false]],[⟨true,kI,[true,true]⟩],false,false,false⟩
def yyH:Sig:=⟨[.v false [(.sl 79 yh)] [false]],[⟨false,[(.sl 79 yh)],[true]⟩],false,false,false⟩
def yyI:Sig:=⟨[.v false [(.sl 85 yc)] [false]],[⟨false,[(.sl 85 yc)],[true]⟩],false,false,false⟩
def yLs:Sig:=⟨[.v true Z0 (nf 6)],[⟨true,Z0,[true,true,true,true,true,false]⟩],false,false,false⟩
def yLt:Sig:=⟨[.v true qz8 (nf 5)],[⟨false,[.bool],[false]⟩],false,false,false⟩
def yyJ:Sig:=⟨[.v true ydp (nf 4),.p none [.str] [false]],[⟨false,[.bool],[false]⟩],false,false,false⟩
def ygO:Sig:=⟨[.v false [(.sl 81 yt)] [false],.p (some 229) [.str] [false]],[⟨false,[(.int .i64)],[false]⟩],false,false,false⟩
def yyK:Sig:=⟨[.v true Z0 (nf 6),.v false [.str] [false]],[⟨false,[(.int .i64)],[false]⟩],false,false,false⟩
def ya5:Sig:=⟨[.v false [(.sl 79 yh)] [true],.v false [(.int .i64)] [false],.v false [(.sl 79 yh)] [true]],[⟨false,[(.sl 79 yh)],[true]⟩],false,false,false⟩
def yyL:Sig:=⟨[.v false [(.sl 79 yh)] [false],.v false [(.int .i64)] [false],.v false [(.int .i64)] [false]],[⟨false,[(.sl 79 yh)],[true]⟩,⟨false,[.bool],[false]⟩],false,false,false⟩
def yyM:Sig:=⟨[.v false [(.sl 81 yt)] [false],.v true ydp (nf 4)],[⟨false,[(.sl 81 yt)],[true]⟩],false,false,false⟩
def yyN:Sig:=⟨[.v true Z0 (nf 6),.v true Z0 (nf 6),.v false [.bool] [false]],[⟨true,Z0,(nf 6)⟩,⟨false,[(.int .i64)],[false]⟩],false,false,false⟩
def yLu:Sig:=⟨[.v true Z0 (nf 6),.v false [.str] [false],.v false [(.int .i64)] [false]],[⟨true,Z0,(nf 6)⟩,⟨false,[(.int .i64)],[false]⟩],false,false,false⟩
def yLv:Sig:=⟨[.v true Z0 (nf 6),.v false [.str] [false],.v false [.str] [false],.v false [.bool] [false]],[⟨true,Z0,(nf 6)⟩,⟨false,[(.int .i64)],[false]⟩],false,false,false⟩
def yLw:Sig:=⟨[.v true Z0 (nf 6),.v false [.str] [false]],[⟨true,Z0,(nf 6)⟩,⟨false,[(.int .i64)],[false]⟩],false,false,false⟩
def yyO:Sig:=⟨[.v true Z0 (nf 6),.v false [.str] [false],.v false [(.int .i64)] [false],.v false [.bool] [false]],[⟨false,[(.int .i64)],[false]⟩,⟨false,[(.int .i64)],[false]⟩],false,false,false⟩
def yyP:Sig:=⟨[.v false [(.sl 85 yc)] [false]],[⟨false,[(.int .i64)],[false]⟩],false,false,false⟩
def yyQ:Sig:=⟨[.v false [(.sl 85 yc)] [false],.v false [(.int .i64)] [false]],[⟨false,[(.sl 85 yc)],[true]⟩,⟨false,[(.int .i64)],[false]⟩,⟨false,[.bool],[false]⟩],false,false,false⟩
def yyR:Sig:=⟨[.v true kI [false,false],.v false [(.int .i64)] [false],.v false [(.int .i64)] [false]],[⟨false,[(.int .i64)],[false]⟩],false,false,false⟩
def yyS:Sig:=⟨[.v true [(.sl 89 yq)] [false],.v true qz9 (nf 5)],[⟨false,[(.sl 91 yl)],[true]⟩],false,false,false⟩
def yyT:Sig:=⟨[.v false [(.sl 91 yl)] [false]],[⟨true,[(.sl 89 yq)],[true]⟩],false,false,false⟩
def yyU:Sig:=⟨[.v false [(.sl 91 yl)] [false],.v false [(.int .i64)] [false],.v false [(.int .i64)] [false]],[⟨true,qz9,(nf 5)⟩,⟨false,[.bool],[false]⟩],false,false,false⟩
def yyV:Sig:=⟨[.v true [(.sl 89 yq)] [false],.v true qz9 (nf 5)],[⟨true,[(.sl 89 yq)],[true]⟩,⟨false,[.bool],[false]⟩],false,false,false⟩
def yyW:Sig:=⟨[.v true kI [false,false],.v false [(.int .i64)] [false],.v false [(.int .i64)] [false],.v false [(.sl 3 yg)] [false],.v false [(.sl 88 yj)] [false]],[⟨true,kI,[true,true]⟩],false,false,false⟩
def yyX:Sig:=⟨[.v true kI [false,false]],[⟨true,kI,[false,false]⟩],false,false,false⟩
def yyY:Sig:=⟨[.v true kI [false,false],.v true qz9 (nf 5)],[⟨true,kI,[false,false]⟩,⟨false,[.bool],[false]⟩],false,false,false⟩
def yyZ:Sig:=⟨[.v false [(.sl 85 yc)] [false],.v false [(.int .i64)] [false]],[⟨false,[(.sl 85 yc)],[true]⟩],false,false,false⟩
def yz0:Sig:=⟨[.v true [(.sl 89 yq)] [false],.v false [(.int .i64)] [false],.v false [(.int .i64)] [false]],[⟨true,qz9,(nf 5)⟩,⟨false,[.bool],[false]⟩],false,false,false⟩
def yz1:Sig:=⟨[.v true kI [false,false],.v false [(.int .i64)] [false],.v false [(.int .i64)] [false]],[⟨true,qz9,(nf 5)⟩,⟨false,[.bool],[false]⟩],false,false,false⟩
def yz2:Sig:=⟨[.p none Z0 [false,false,false,false,true,false],.v true qz9 (nf 5)],[⟨false,[.bool],[false]⟩],false,false,false⟩
def yLx:Sig:=⟨[.v true Z0 (nf 6),.v false [.str] [false],.v false [(.int .i64)] [false],.v false [(.int .i64)] [false]],[⟨true,Z0,(nf 6)⟩,⟨false,[(.int .i64)],[false]⟩],false,false,false⟩
def yz3:Sig:=⟨[.v false [(.sl 79 yh)] [false],.v false [(.int .i64)] [false]],[⟨false,[(.sl 3 yg)],[true]⟩],false,false,false⟩
def yz4:Sig:=⟨[.v true kI [false,false],.v false [(.int .i64)] [false]],[⟨false,[(.sl 91 yl)],[true]⟩],false,false,false⟩
def yz5:Sig:=⟨[.v false [(.sl 3 yg)] [false],.v false [(.int .i64)] [false]],[⟨false,[(.int .i64)],[false]⟩],false,false,false⟩
def yz6:Sig:=⟨[.v false [(.sl 3 yg)] [false],.v false [(.int .i64)] [false]],[⟨false,[.bool],[false]⟩],false,false,false⟩
def yz7:Sig:=⟨[.v true kI [false,false],.v false [(.int .i64)] [false],.v false [(.sl 3 yg)] [false]],[⟨true,qz9,(nf 5)⟩,⟨false,[.bool],[false]⟩],false,false,false⟩
def yz8:Sig:=⟨[.v true kI [false,false],.v false [(.sl 79 yh)] [false],.v false [(.int .i64)] [false],.v false [(.int .i64)] [false]],[⟨true,qz9,(nf 5)⟩,⟨false,[.bool],[false]⟩],false,false,false⟩
def yz9:Sig:=⟨[.p none Z0 [false,false,false,false,true,false],.v false [(.int .i64)] [false],.v false [(.int .i64)] [false]],[⟨false,[.bool],[false]⟩],false,false,false⟩
def yLy:Sig:=⟨[.v true Z0 (nf 6),.v false [.str] [false],.v false [(.int .i64)] [false]],[⟨true,Z0,(nf 6)⟩,⟨false,[(.int .i64)],[false]⟩],false,false,false⟩
def yLz:Sig:=⟨[.v true Z0 (nf 6),.v false [.str] [false],.v false [(.int .i64)] [false]],[⟨true,Z0,(nf 6)⟩,⟨false,[(.int .i64)],[false]⟩],false,false,false⟩
def yza:Sig:=⟨[.v true ydp (nf 4),.p none [(.int .i64)] [false]],[⟨false,[.bool],[false]⟩],false,false,false⟩
def ygP:Sig:=⟨[.v false [(.sl 81 yt)] [false],.p (some 294) [(.int .i64)] [false]],[⟨false,[(.int .i64)],[false]⟩],false,false,false⟩
def ygQ:Sig:=⟨[.v false [(.sl 81 yt)] [false],.p (some 294) [(.int .i64)] [false]],[⟨false,[.bool],[false]⟩],false,false,false⟩
def yzb:Sig:=⟨[.v true Z0 (nf 6),.v false [(.int .i64)] [false]],[⟨false,[.bool],[false]⟩],false,false,false⟩
def yzc:Sig:=⟨[.v true kI [false,false],.v false [(.sl 79 yh)] [false],.v false [(.int .i64)] [false],.v false [(.int .i64)] [false]],[⟨true,qz9,(nf 5)⟩,⟨false,[.bool],[false]⟩],false,false,false⟩
def yzd:Sig:=⟨[.v true kI [false,false],.v false [(.sl 79 yh)] [false],.v true qz9 (nf 5),.v false [(.int .i64)] [false]],[⟨false,[.bool],[false]⟩],false,false,false⟩
def yze:Sig:=⟨[.v true Z0 (nf 6),.v true qz9 (nf 5)],[⟨false,[.bool],[false]⟩],false,false,false⟩
def yzf:Sig:=⟨[.v true Z0 (nf 6),.v false [(.int .i64)] [false],.v true qz9 (nf 5)],[⟨false,[.bool],[false]⟩],false,false,false⟩
def yzg:Sig:=⟨[.v false [(.sl 91 yl)] [false],.v false [(.int .i64)] [false]],[⟨false,[.bool],[false]⟩],false,false,false⟩
def yzh:Sig:=⟨[.v true Z0 (nf 6)],[⟨false,[(.int .i64)],[false]⟩,⟨false,[(.int .i64)],[false]⟩],false,false,false⟩
def yjB:Sig:=⟨[.v false [(.sl 79 yh)] [true],.v false [(.int .i64)] [false],.v false [(.int .i64)] [false]],[⟨false,[(.sl 79 yh)],[true]⟩],false,false,false⟩
def yzi:Sig:=⟨[.v false [(.sl 79 yh)] [false],.v false [(.int .i64)] [false]],[⟨false,[(.sl 79 yh)],[true]⟩,⟨false,[.bool],[false]⟩],false,false,false⟩
def yzj:Sig:=⟨[.p none Z0 [false,false,false,false,true,false],.v false [(.int .i64)] [false],.v false [(.int .i64)] [false]],[⟨false,[.bool],[false]⟩],false,false,false⟩
def yLA:Sig:=⟨[.v true Z0 (nf 6)],[⟨true,Z0,[false,false,false,false,true,false]⟩,⟨false,[.bool],[false]⟩],false,false,false⟩
def yzk:Sig:=⟨[.v true [(.sl 89 yq)] [false]],[⟨true,[(.sl 89 yq)],[true]⟩],false,false,false⟩
def yzl:Sig:=⟨[.v true kI [false,false],.v false [(.int .i64)] [false]],[⟨true,kI,[true,true]⟩],false,false,false⟩
def yLB:Sig:=⟨[.v true Z0 (nf 6),.v false [(.int .i64)] [false]],[⟨true,Z0,[true,true,true,true,true,false]⟩,⟨false,[.bool],[false]⟩],false,false,false⟩
def yLC:Sig:=⟨[.v true Z0 (nf 6),.v false [(.int .i64)] [false]],[⟨true,Z0,[false,false,true,true,true,false]⟩,⟨false,[.bool],[false]⟩],false,false,false⟩
def yLD:Sig:=⟨[.v true Z0 (nf 6),.v true qz8 (nf 5)],[⟨true,Z0,(nf 6)⟩,⟨false,[(.int .i64)],[false]⟩],false,false,false⟩
def yLE:Sig:=⟨[.v true Z0 (nf 6),.v false [(.sl 63 y2e)] [false]],[⟨true,Z0,(nf 6)⟩],false,false,false⟩
def yLF:Sig:=⟨[.v false [(.sl 5 Zo)] [false]],[⟨true,qz1,(nf 3)⟩,⟨true,Z0,[false,false,false,false,true,false]⟩],true,false,false⟩
def yzm:Sig:=⟨[.p none qz1 (nf 3)],[⟨false,[.str],[false]⟩],false,false,false⟩
def yzn:Sig:=⟨[.p none qz1 (nf 3)],[⟨false,[(.int .i64)],[false]⟩],false,false,false⟩
def yLG:Sig:=⟨[.p none qz1 (nf 3)],[⟨true,qz8,(nf 5)⟩],false,false,false⟩
def yLH:Sig:=⟨[.v false [(.sl 5 Zo)] [false]],[⟨true,Z0,[false,false,false,false,true,false]⟩,⟨true,qz8,(nf 5)⟩],false,false,false⟩
def yzo:Sig:=⟨[.v false [(.sl 141 yr)] [false]],[⟨false,[(.sl 141 yr)],[true]⟩],false,false,false⟩
def yzp:Sig:=⟨[.v false [(.sl 141 yr)] [false],.v false [.str] [false]],[⟨false,[(.int .i64)],[false]⟩],false,false,false⟩
def yzq:Sig:=⟨[.v false [(.sl 141 yr)] [false],.v true yq2 (nf 3)],[⟨false,[(.sl 141 yr)],[true]⟩],false,false,false⟩
def yzr:Sig:=⟨[.v false [(.sl 141 yr)] [false],.v false [.str] [false],.v false [(.int .i64)] [false]],[⟨false,[(.sl 141 yr)],[true]⟩,⟨false,[(.int .i64)],[false]⟩],false,false,false⟩
def yzs:Sig:=⟨[.v false [(.sl 141 yr)] [false],.v false [.str] [false],.v false [.str] [false],.v false [.bool] [false]],[⟨false,[(.sl 141 yr)],[true]⟩,⟨false,[(.int .i64)],[false]⟩],false,false,false⟩
def yzt:Sig:=⟨[.v false [(.sl 141 yr)] [false],.v false [.str] [false]],[⟨false,[(.int .i64)],[false]⟩],false,false,false⟩
def yzu:Sig:=⟨[.v false [(.sl 141 yr)] [false],.v false [.str] [false]],[⟨false,[(.sl 141 yr)],[true]⟩,⟨false,[(.int .i64)],[false]⟩],false,false,false⟩
def ygR:Sig:=⟨[.v false [(.sl 141 yr)] [false]],[⟨false,[(.sl 141 yr)],[true]⟩],false,true,false⟩
def yzv:Sig:=⟨[.v false [(.sl 141 yr)] [false],.v false [.str] [false],.v false [(.int .i64)] [false],.v false [(.int .i64)] [false]],[⟨false,[(.sl 141 yr)],[false]⟩,⟨false,[(.int .i64)],[false]⟩],false,false,false⟩
def yzw:Sig:=⟨[.v false [(.sl 141 yr)] [false],.v false [.str] [false],.v false [(.int .i64)] [false]],[⟨false,[(.sl 141 yr)],[true]⟩,⟨false,[(.int .i64)],[false]⟩],false,false,false⟩
def yLI:Sig:=⟨[.v false [(.sl 141 yr)] [false],.v true qz8 (nf 5)],[⟨false,[(.sl 141 yr)],[false]⟩,⟨false,[(.int .i64)],[false]⟩],false,false,false⟩
def yLJ:Sig:=⟨[.p none qz1 (nf 3)],[⟨false,[(.sl 141 yr)],[false]⟩],false,false,false⟩
def yLK:Sig:=⟨[.v false [(.sl 5 Zo)] [false]],[⟨false,[(.sl 141 yr)],[false]⟩,⟨true,qz8,(nf 5)⟩],false,false,false⟩
def yLL:Sig:=⟨[.v false [(.sl 141 yr)] [false]],[⟨false,[(.sl 141 yr)],[true]⟩],false,false,false⟩
def yzx:Sig:=⟨[.v true yq2 (nf 3),.p none [.str] [false]],[⟨false,[.bool],[false]⟩],false,false,false⟩
def ygS:Sig:=⟨[.v false [(.sl 141 yr)] [false],.p (some 264) [.str] [false]],[⟨false,[(.int .i64)],[false]⟩],false,false,false⟩
def yzy:Sig:=⟨[.v false [(.sl 141 yr)] [false],.v false [.str] [false]],[⟨false,[(.int .i64)],[false]⟩],false,false,false⟩
def ya6:Sig:=⟨[.v false [(.sl 141 yr)] [true],.v false [(.int .i64)] [false],.v false [(.sl 141 yr)] [true]],[⟨false,[(.sl 141 yr)],[true]⟩],false,false,false⟩
def yzz:Sig:=⟨[.v false [(.sl 141 yr)] [false],.v true yq2 (nf 3)],[⟨false,[(.sl 141 yr)],[true]⟩],false,false,false⟩
def yLM:Sig:=⟨[.v false [(.sl 141 yr)] [false],.v false [.str] [false],.v false [(.int .i64)] [false]],[⟨false,[(.sl 141 yr)],[true]⟩,⟨false,[(.int .i64)],[false]⟩],false,false,false⟩
def yLN:Sig:=⟨[.v false [(.sl 141 yr)] [false],.v false [.str] [false],.v false [.str] [false],.v false [.bool] [false]],[⟨false,[(.sl 141 yr)],[true]⟩,⟨false,[(.int .i64)],[false]⟩],false,false,false⟩
def yjC:Sig:=⟨[.v false [(.sl 141 yr)] [true],.v false [(.int .i64)] [false],.v false [(.int .i64)] [false]],[⟨false,[(.sl 141 yr)],[true]⟩],false,false,false⟩
def yLO:Sig:=⟨[.v false [(.sl 141 yr)] [false],.v false [.str] [false]],[⟨false,[(.sl 141 yr)],[true]⟩,⟨false,[(.int .i64)],[false]⟩],false,false,false⟩
def yzA:Sig:=⟨[.v false [(.sl 141 yr)] [false],.v false [.str] [false]],[⟨false,[(.int .i64)],[false]⟩,⟨false,[(.int .i64)],[false]⟩],false,false,false⟩
def ygT:Sig:=⟨[.v false [(.sl 141 yr)] [false]],[⟨false,[(.sl 141 yr)],[true]⟩],false,true,false⟩
def yLP:Sig:=⟨[.v false [(.sl 141 yr)] [false],.v false [.str] [false],.v false [(.int .i64)] [false],.v false [(.int .i64)] [false]],[⟨false,[(.sl 141 yr)],[false]⟩,⟨false,[(.int .i64)],[false]⟩],false,false,false⟩
def yzB:Sig:=⟨[.v false [(.sl 141 yr)] [false],.v false [.str] [false],.v false [(.int .i64)] [false]],[⟨false,[(.sl 141 yr)],[true]⟩,⟨false,[(.int .i64)],[false]⟩],false,false,false⟩
def yLQ:Sig:=⟨[.v false [(.sl 141 yr)] [false],.v true qz8 (nf 5)],[⟨false,[(.sl 141 yr)],[false]⟩,⟨false,[(.int .i64)],[false]⟩],false,false,false⟩
def yzC:Sig:=⟨[.v false [(.sl 3 yg)] [false],.v false [(.sl 3 yg)] [false]],[⟨false,[.bool],[false]⟩],false,false,false⟩
def yzD:Sig:=⟨[.v false [(.sl 91 yl)] [false],.v false [(.sl 91 yl)] [false]],[⟨false,[.bool],[false]⟩],false,false,false⟩
def yzE:Sig:=⟨[.v true [(.sl 89 yq)] [false],.v true [(.sl 89 yq)] [false]],[⟨false,[.bool],[false]⟩],false,false,false⟩
def yzF:Sig:=⟨[.v true kI [false,false],.v true kI [false,false]],[⟨false,[.bool],[false]⟩],false,false,false⟩
def yzG:Sig:=⟨[.v false [(.sl 79 yh)] [false],.v false [(.sl 79 yh)] [false]],[⟨false,[.bool],[false]⟩],false,false,false⟩
def yzH:Sig:=⟨[.v false [(.sl 85 yc)] [false],.v false [(.sl 85 yc)] [false]],[⟨false,[.bool],[false]⟩],false,false,false⟩
def yLR:Sig:=⟨[.v true Z0 (nf 6),.v true Z0 (nf 6)],[⟨false,[.bool],[false]⟩],false,false,false⟩
def yLS:Sig:=⟨[.v true Z0 (nf 6),.v false [(.sl 63 y2e)] [false]],[⟨true,Z0,[false,false,false,true,true,false]⟩],false,false,false⟩
def yLT:Sig:=⟨[.v false [(.sl 141 yr)] [false],.v false [(.sl 141 yr)] [false]],[⟨false,[.bool],[false]⟩],false,false,false⟩
def sg4:Sig:=⟨[.v false [(.sl 5 Zo)] [false]],[⟨false,[.bool],[false]⟩],false,false,false⟩
def yMW:List (Nat×Sig):=[(4,sg4),(5,sg5),(9,sg9),(45,yL6),(56,yL7),(120,ywG),(51,yL8),(49,yL9),(67,yLa),(169,ywH),(170,ywI),(171,ywJ),(84,yLb),(303,ywK),(336,ywL),(348,ywM),(331,ywN),(332,ywO),(298,ywP),(306,ywQ),(337,ywR),(307,ywS),(333,ywT),(299,ywU),(334,ywV),(300,ywW),(245,ywX),(246,ywY),(172,ywZ),(247,yx0),(173,yx1),(174,yx2),(248,yx3),(175,yx4),(249,yx5),(250,yx6),(176,yx7),(85,yLc),(251,yx8),(177,yx9),(178,yxa),(86,yLd),(179,yxb),(180,yxc),(181,yxd),(182,yxe),(183,yxf),(87,yLe),(88,yLf),(184,yxg),(89,yLg),(185,yxh),(186,yxi),(301,yxj),(335,yxk),(302,yxl),(252,yxm),(308,yxn),(304,yxo),(305,yxp),(338,yxq),(309,yxr),(253,yxs),(262,yxt),(254,yxu),(187,yxv),(90,yLh),(310,yxw),(339,yxx),(340,yxy),(311,yxz),(255,yxA),(188,yxB),(91,yLi),(92,yLj),(351,yxC),(349,yxD),(341,yxE),(314,yxF),(258,yxG),(342,yxH),(312,yxI),(313,yxJ),(256,yxK),(257,yxL),(259,yxM),(189,yxN),(315,yxO),(260,yxP),(190,yxQ),(261,yxR),(191,yxS),(93,yLk),(28,yLl),(145,yxT),(111,yxU),(226,yxV),(146,yxW),(274,yxX),(275,yxY),(212,yxZ),(141,yy0),(286,yy1),(283,yy2),(222,yy3),(284,yy4),(324,yy5),(325,yy6),(285,yy7),(223,yy8),(142,yy9),(47,yLm),(224,yya),(143,yyb),(225,yyc),(144,yyd),(69,yLn),(70,yLo),(24,yLp),(35,yLq),(117,yye),(318,yyf),(267,yyg),(201,yyh),(242,yyi),(202,yyj),(287,yyk),(330,yyl),(297,yym),(268,yyn),(269,yyo),(203,yyp),(112,yyq),(271,yyr),(100000,ygL),(204,yys),(113,yyt),(152,yyu),(114,yyv),(153,yyw),(205,yyx),(207,yyy),(100002,ygM),(100001,ygN),(115,yyz),(166,yyA),(208,yyB),(209,yyC),(116,yyD),(37,yLr),(192,yyE),(227,yyF),(147,yyG),(148,yyH),(149,yyI),(71,yLs),(74,yLt),(229,yyJ),(100003,ygO),(154,yyK),(230,ya5),(155,yyL),(156,yyM),(157,yyN),(75,yLu),(76,yLv),(77,yLw),(158,yyO),(165,yyP),(159,yyQ),(238,yyR),(240,yyS),(243,yyT),(296,yyU),(239,yyV),(241,yyW),(244,yyX),(167,yyY),(168,yyZ),(290,yz0),(231,yz1),(160,yz2),(78,yLx),(291,yz3),(327,yz4),(346,yz5),(328,yz6),(292,yz7),(232,yz8),(161,yz9),(79,yLy),(80,yLz),(294,yza),(100005,ygP),(100004,ygQ),(234,yzb),(347,yzc),(329,yzd),(293,yze),(233,yzf),(235,yzg),(162,yzh),(295,yjB),(236,yzi),(163,yzj),(81,yLA),(237,yzk),(164,yzl),(82,yLB),(83,yLC),(27,yLD),(25,yLE),(72,yLF),(150,yzm),(151,yzn),(73,yLG),(26,yLH),(101,yzo),(197,yzp),(198,yzq),(102,yzr),(103,yzs),(199,yzt),(104,yzu),(100006,ygR),(105,yzv),(106,yzw),(31,yLI),(94,yLJ),(29,yLK),(95,yLL),(264,yzx),(100007,ygS),(193,yzy),(265,ya6),(194,yzz),(96,yLM),(97,yLN),(195,yjC),(98,yLO),(196,yzA),(100008,ygT),(99,yLP),(100,yzB),(30,yLQ),(110,yzC),(266,yzD),(200,yzE),(107,yzF),(108,yzG),(109,yzH),(32,yLR),(33,yLS),(34,yLT)]
def yFt:List (Nat×(List Nat×List Nat)):=[
 (4500003,[0,3,4,13,14],[0,3]),
 (16900002,[0,3,17,18,19,20,21,22],[0,2]),
 (34800002,[0,3],[2]),
 (33100002,[0,3,19,20,21],[0,2,19,20,21]),
 (33200003,[1,3,4],[3]),
 (29800002,[1,3,19,20,21,22,23,24,25,32,33,34],[1,2,32,33,34]),
 (30600003,[0,3,4],[3]),
 (30700004,[0,3,5,6,7,18,19,20,21,22,23,24],[3,5,6]),
 (33300003,[1,5,6],[5]),
 (29900003,[1,3,4],[3]),
 (24500005,[1,2,5,6,61,62,63,64,65,66,67,68,69,70,71,72,73,74,75,76],[4]),
 (24500008,[1,2,5,6,7,61,62,63,64,65,66,67,68,69,70,71,72,73,74,75,76],[1,2,4,5,6,61,62,63,64,65,66,67,68,69,70,71,72,73,74,75,76]),
 (24600003,[1,3,4],[3]),
 (17200004,[1,3,35,36,37,38,39,40,41,42,43,44,45,46,49,50,51,52],[1,2]),
 (24700002,[0,1,5],[4]),
 (17300002,[0,3,18,19,20,21,22,23,24,25,26,27,28,29,30,31,32,33,42,43,44,45,46,47,48,49,50,51],[0,2]),
 (17400002,[0,3,18,19,20,21,22,23,24,27,28,29,30,31,32,33,34,35,36,37,38,39,40],[0,2]),
 (24800003,[0,1,5,6,22,23],[5]),
 (17500002,[1,3,23,24,25,26,29,30,31,32,33,34,37,38,39,40,41,42,43,46,47,48,49,50,51,52,53,54,55,56,57,58,59],[1,2]),
 (17500008,[1,3,4,5,23,24,25,26,29,30,31,32,33,34,37,38,39,40,41,42,43,46,47,48,49,50,51,52,53,54,55,56,57,58,59],[1,2,3,23,24,25,26,29,30,31,32,33,34,37,38,39,40,41,42,43,46,47,48,49,50,51,52,53,54,55,56,57,58,59]),
 (25000003,[0,3,4],[3]),
 (17600004,[1,3,4,5,65,66,67,68,69,70,71,72,73,74,75],[1,2,4]),
 (17600014,[1,3,4,5,8,65,66,67,68,69,70,71,72,73,74,75],[1,2,3,4,5,65,66,67,68,69,70,71,72,73,74,75]),
 (8500002,[1,3,24,25,26,29,30,31,34,35,36,39,40,43,44],[1,2,24,25,26,29,30,31,34,35,36,39,40,43,44]),
 (25100003,[1,2,3,4],[2,3]),
 (17700003,[1,2,3,4],[2,3]),
 (18000002,[1,2,5],[4]),
 (18100004,[0,1,2,8,9,10,25,26,27,28,29,30,31,59,60,61],[0,1,2,8,9,59,60,61]),
 (18200003,[3,5,6,19,20,21,22,23,24,25,26,27],[3,5,6]),
 (18600003,[0,1,7,8,16,17,20,21],[4,5,6,7]),
 (30100003,[1,2,3,7,8],[7]),
 (33500002,[0,1,2,6,8,23,24,25,26,27,28,29],[6,7]),
 (30200002,[1,2,3,6,8,32,33,34],[6,7]),
 (33800002,[1,3],[2]),
 (30900002,[1,2,3],[1,2]),
 (31000003,[0,5,6,14,15,16,17,18],[5]),
 (33900004,[1,5,6,7],[5]),
 (34000002,[0,1,5],[4]),
 (31100005,[2,6,8,9,10,11,30,31,32,33,34,35,36,37,38,39,40,41],[6,8,9]),
 (9200010,[2,3,6,8,10,11,12,43],[2,3,6,8,10,11]),
 (34100002,[2,3,5,23,24,25,26,27,28,29,30,31,32,33,34],[4]),
 (31400002,[1,2,5],[4]),
 (31300003,[1,2,5,6,27,28,29,30,31,32],[1,2,4,27,28,29,30,31,32]),
 (25600005,[1,4,5],[1,2,3]),
 (25600008,[1,4,5,6],[1,2,3,4,5]),
 (25600013,[1,7],[2,3]),
 (25900006,[0,1,6,7,8],[7]),
 (26100003,[1,4,5,6,23,24,25,26,27,28,29],[4]),
 (14100003,[0,4,5,6],[0,4,5]),
 (22200003,[0,4,5,6],[0,4,5]),
 (28400003,[0,2,3,4],[0,2,3]),
 (32400003,[0,5,6],[0,5]),
 (22400003,[0,3,4,17,18,19],[0,3]),
 (14300010,[0,3,4],[0,3]),
 (22500003,[0,3,4],[0,3]),
 (7000003,[0,5,6],[0,5]),
 (26700002,[0,5,6,7,16,17,18,19,20,21,22,23,24,25,26,27],[0,2]),
 (20100003,[1,3,7,8,9,17,18,19,31,32],[1,2,3,31,32]),
 (20200002,[1,2,15,16,17,40,41,42,43,44,45,46,47,48,49,50,51,52,53,54,55],[4]),
 (20200005,[1,2,15,16,17,21,22,23,40,41,42,43,44,45,46,47,48,49,50,51,52,53,54,55],[1,2,4,15,16,17,40,41,42,43,44,45,46,47,48,49,50,51,52,53,54,55]),
 (29700004,[3,5,6,10,11,12,19,20,21,22],[3,5,6]),
 (26800003,[5,10,11,12],[5]),
 (26900003,[3,7,8,9],[3]),
 (20300003,[3,8,9,10],[3]),
 (11200005,[1,3,29,30,31,39,40,41,42,43,44,45,46,47,48,49,50,53,54,55,58,59,60,61,69,70],[2,3]),
 (10000000002,[0,1,7,8],[1,4]),
 (11300002,[0,5,6,7,17,18,19,20,21,22,23,24,25,26,27,28,29,32,33,34,35,36,37,38,39,40,41,42,43],[0,2]),
 (11400002,[0,5,6,7,16,17,18,19,22,23,24,25,26,27,28,29],[0,2]),
 (15300002,[0,3,17,18,19,20,21,22],[0,2]),
 (20500005,[1,5,12,13,14],[5]),
 (10000200002,[0,1,7,8],[1,4]),
 (11500002,[1,6,7,8,18,19,20,21,22,23,24,25,26,27,28,29,30,31,34,35,36,37,46,47,48,49,50,51,52],[1,2]),
 (16600003,[3,8,9,10],[3]),
 (20900003,[3,6,7,8],[3]),
 (11600004,[1,3,4,12,13,14,40,41,42,43,44],[1,2,4]),
 (3700004,[1,28,29,30,43,44],[1,2,43,44]),
 (22700003,[2,3,8,9,10],[2,3]),
 (14700003,[2,3,11,12,13],[2,3]),
 (10000300002,[0,1,7,8],[1,4]),
 (15500002,[0,1,2,8,15,16,17,18,19,20,21,38,39,40],[0,1,2,8,38,39,40]),
 (15600004,[3,5,6,10,11,12,19,20,21,22,23],[3,5,6]),
 (16500002,[5,6,7],[2]),
 (23800002,[1,2,3,7],[6]),
 (29600002,[1,2,6,10,11,12,21,22,23,24],[6,7]),
 (24400002,[1,2,3],[1,2]),
 (29000002,[1,2,3,6,8],[6,7]),
 (29100003,[0,1,5,10,11],[5]),
 (32700003,[1,5,10,11,12],[5]),
 (34600002,[0,1,7,8],[4]),
 (29200003,[2,6,8,9,15,16,17,26,27,28,29,30,31,32,33,34],[6,8,9]),
 (8000008,[2,3,6,8,10,11],[2,3,6,7,8,10]),
 (10000500002,[0,1,7,8],[1,4]),
 (29300002,[2,3,8,9,10,20,21,22,23,24,25,26,27],[4]),
 (23500002,[1,7,8,9],[4]),
 (16200005,[1,4,17,18,19,51,52,53,54,55,56,57,60,61,62,63,64],[1,2,3,4,51,52,53,54,55,56,57,60,61,62,63,64]),
 (16200008,[1,4,6,17,18,19,23,24,25,51,52,53,54,55,56,57,60,61,62,63,64],[1,2,3,4,17,18,19,51,52,53,54,55,56,57,60,61,62,63,64]),
 (16200015,[1,4,39,40,41,51,52,53,54,55,56,57,60,61,62,63,64],[2,3]),
 (23600006,[0,1,6,7,23,24],[6,7]),
 (8300007,[1,2,4,7,8,9,63,64,65,73,74,75,76],[1,2,4,5,7,8]),
 (2500003,[4,5,14,15,16],[4,5]),
 (10100003,[0,3,4],[3]),
 (19700002,[0,1,5],[4]),
 (19800003,[3,5,6,18,19,20,21,22,23,24,25,26],[3,5,6]),
 (10000600003,[0,3,4],[3]),
 (10600012,[0,2,8,10,11,12],[8,10,11]),
 (9400003,[0,3,4],[0,3]),
 (9500003,[3,7,8,9],[3]),
 (10000700002,[0,1,7,8],[1,4]),
 (19400002,[0,3,5,11,12,13,14,15,16,17,18,19],[0,3,5]),
 (10000800003,[3,7,8,9],[3]),
 (11000004,[0,1,5],[4]),
 (26600004,[0,1,5],[4]),
 (20000004,[2,3,5],[4]),
 (10700004,[2,3,5],[4]),
 (10800004,[0,1,5],[4]),
 (10900004,[0,1,5],[4]),
 (3200004,[2,3,5],[4]),
 (3300003,[1,4,5,6,14,15],[4,5]),
 (3400004,[0,1,5,29,30,31,32,33,34,35,36,37,38,39,42,43,44,45,46,47,48,49,50,51,52,53],[4])]
def yLU:List (Nat×List Nat×Nat):=[(270,[271],100000),(206,[207],100001),(228,[207],100002),(228,[229],100003),(206,[294],100004),(228,[294],100005),(101,[3000000000],100006),(263,[264],100007),(95,[3000000000],100008)]
def yFu:List (Nat×List Nat):=[(251,[22]),(177,[25]),(309,[2000000000006000001,2000000000007000001,1000033000000027,1000046000000041,1000048000000025,49,1000049000049000,1000050000000046]),(253,[2000000000010000011,49,1000037000999999,1000049000038000,1000050000000047,1000050000000049,1000082000999999,1000086000999999,87,1000087000083000,1000087000087000]),(90,[60]),(255,[21]),(141,[1000019000000900]),(222,[1000019000000900]),(284,[1000015000000900]),(223,[1000013000000900,14,1000014000014000,1000022000000900,1000025000000900,27,1000027000000023,1000027000000026]),(142,[1000019000000900,1000022000000021,1000022000000900,1000029000000900,30,1000030000030000,1000041000000900,1000043000000900]),(69,[1000032000000031,1000032000000900,1000034000000900,1000038000000037,1000038000000900,1000057000000900,1000069000000900]),(24,[1000014000008500]),(227,[18]),(147,[21]),(77,[200032,200037]),(244,[40,1000039000000026,1000040000040000]),(167,[2000000000011000010,1000038000999999,1000080000999999,1000084000999999,85,1000085000081000,1000085000085000]),(78,[66]),(232,[20]),(83,[1000084000000012]),(26,[1000013000009500]),(101,[31]),(104,[2000000000006000006,1000025000000021]),(100006,[100005,100031,100032]),(105,[100014]),(100008,[100006,100019,100020]),(99,[100014]),(4,[1000040000025004,1000044000999999,1000086000025004,1000086000025006])]
def C:Ctx:= {info:=yeV ywF,sig:=yeV yMW,live:=fun f i=>yeV yFt (100000*f+i),key:=ZC yLU,fid:=yua yLU,hint:=ynp yFu}
theorem tok:TOk C Tryz.prog:=yup (l:=ywF) rfl (by kernel_rfl)
theorem ya7:Tryz.prog.follows .mixedOrders=true:=by kernel_rfl
abbrev QF:=Qf C Tryz.prog
abbrev EV (l:List QF) (lp:Lp) (n:Nat) (fn:Func) (sg:Sig) (ins outs:List Ty) (F:yJ ins→Option (yJ outs)):Prop:= ∀ x,yl9 C (ypF l) lp n fn (y0L fn) sg ins outs x=F x
abbrev LF (l:List QF) (lp:Lp) (n i:Nat) (fn:Func) (k:Nat) {T V:Type} (e:T→St) (g:Gk T) (inj:V→T):Prop:=LC C (ypF l) lp n i (cL fn k) e g inj
abbrev LK (l:List QF) (lp:Lp) (n:Nat) (fn:Func) (k:Nat):Prop:=y63 C (ypF l) lp n (cL fn k)
theorem okN {l:List QF} {lp:Lp} {f g:Nat} {fn:Func} {sg:Sig} {n:Nat} (hfn:Tryz.prog.funcs[g]? =some fn) (hl:yuo (y63 C (ypF l) lp f) (JB (y0L fn)) n 0) {F:yJ (C.ins f)→Option (yJ (C.outs f))} (hF: ∀ x,yl9 C (ypF l) lp f fn (y0L fn) sg (C.ins f) (C.outs f) x=F x) (hsig:C.sig f=some sg:=by kernel_rfl) (hB:fnB C f g fn sg n=true:=by kernel_rfl):ZN C Tryz.prog f F:=yEb tok ya7 hfn hsig hB hl hF
theorem lkN {call:C.Sem} {lp:Lp} {f i:Nat} {c:Code} {T:Type} {e:T→St} {u:St→Option T} {g:Gk T} (hu: ∀ s t,u s=some t→e t=s) (hc:LC C call lp f i c e @g (fun t=>t)) (hl:laB C f i c=true:=by kernel_rfl) (hb:LB lp i u @g:=by intro R κ s;kernel_rfl):y63 C call lp f c:=ylG hl hu hb hc
end Go.Proofs.YtekbnpmmjciloaaGreat.XA
