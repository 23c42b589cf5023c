/- The context of the evaluator for B: types, signatures, slots that live at loops; by a program (dec.py). No condition. -/
import Derived.Test.YtekbnpmmjciloaaGreatProg
import Derived.Test.YtekbnpmmjciloaaGreatRB
import Derived.KernelRfl
set_option linter.all false
namespace Go.Proofs.YtekbnpmmjciloaaGreat.XB
open Go.Proofs.YtekbnpmmjciloaaGreat.R
set_option maxRecDepth 100000
abbrev tI:Ty:= .int .i64
abbrev tB:Ty:= .bool
abbrev tS:Ty:= .str
def sV (l:List Ty):PK:= .v true l (nf l.length)
def sO (t:Ty):PK:= .v false [t] [false]
def sP (l:List Ty):PK:= .p none l (nf l.length)
def rV (l:List Ty):RK:=⟨true,l,nf l.length⟩
def rO (t:Ty):RK:=⟨false,[t],[false]⟩
def rW (t:Ty):RK:=⟨false,[t],[true]⟩
def gS (p:List PK) (r:List RK):Sig:=⟨p,r,false,false⟩
abbrev fx:List Ty:=[(.int .u8)]
abbrev yn:Type:=Int
abbrev y3e:yn:=zeroE fx
abbrev wP (xs:List yn) (i:Int):yn:=Cn fx xs i
abbrev yQ:Ty:= .sl 5 fx
abbrev mE:List Ty:=[(.sl 5 fx)]
abbrev y8:Type:=List yn
abbrev lS:y8:=zeroE mE
abbrev YK (xs:List y8) (i:Int):y8:=Cn mE xs i
abbrev zq:Ty:= .sl 22 mE
abbrev Dl:List Ty:=[(.int .i64),(.sl 5 fx)]
abbrev yw:Type:=Int×List yn
abbrev aM:yw:=zeroE Dl
abbrev zr (xs:List yw) (i:Int):yw:=Cn Dl xs i
abbrev ZA:Ty:= .sl 95 Dl
abbrev o8:List Ty:=[(.int .i64)]
abbrev yf:Type:=Int
abbrev y5u:yf:=zeroE o8
abbrev Y4 (xs:List yf) (i:Int):yf:=Cn o8 xs i
abbrev z4:Ty:= .sl 3 o8
abbrev AW:List Ty:=[(.int .i64),(.int .i64),(.int .i64),(.int .i64),(.int .i64)]
abbrev y7:Type:=Int×Int×Int×Int×Int
abbrev zx:y7:=zeroE AW
abbrev yy (xs:List y7) (i:Int):y7:=Cn AW xs i
abbrev zj:Ty:= .sl 91 AW
abbrev fy:List Ty:=[(.sl 91 AW)]
abbrev yc:Type:=List y7
abbrev zN:yc:=zeroE fy
abbrev yK (xs:List yc) (i:Int):yc:=Cn fy xs i
abbrev zt:Ty:= .sl 89 fy
abbrev gB:List Ty:=[(.sl 89 fy)]
abbrev y6:Type:=List yc
abbrev y_:y6:=zeroE gB
abbrev yt (xs:List y6) (i:Int):y6:=Cn gB xs i
abbrev yW:Ty:= .sl 88 gB
abbrev sC:List Ty:=[(.int .i64),(.int .i64)]
abbrev yb:Type:=Int×Int
abbrev YR:yb:=zeroE sC
abbrev yT (xs:List yb) (i:Int):yb:=Cn sC xs i
abbrev yY:Ty:= .sl 79 sC
abbrev mF:List Ty:=[(.int .i64),.bool,(.int .i64)]
abbrev ya:Type:=Int×Bool×Int
abbrev jo:ya:=zeroE mF
abbrev yD (xs:List ya) (i:Int):ya:=Cn mF xs i
abbrev yL:Ty:= .sl 85 mF
abbrev sD:List Ty:=[.str,(.int .i64),(.int .i64),.bool]
abbrev yj:Type:=ByteArray×Int×Int×Bool
abbrev w9:yj:=zeroE sD
abbrev yC (xs:List yj) (i:Int):yj:=Cn sD xs i
abbrev zT:Ty:= .sl 81 sD
abbrev mG:List Ty:=[.str]
abbrev cU:Type:=ByteArray
abbrev UQ:cU:=zeroE mG
abbrev SG (xs:List cU) (i:Int):cU:=Cn mG xs i
abbrev UR:Ty:= .sl 9 mG
abbrev uU:List Ty:=[.bool]
abbrev EZ:Type:=Bool
abbrev MZ:EZ:=zeroE uU
abbrev O7 (xs:List EZ) (i:Int):EZ:=Cn uU xs i
abbrev ybR:Ty:= .sl 4 uU
abbrev Qz0:Type:=Int×Int×Int
abbrev uV:Type:=List y8×List yw×Int×Bool
abbrev ik:List Ty:=[zq,ZA,tI,tB]
abbrev Co:Type:=List yn×Int×Int
abbrev gC:List Ty:=[yQ,tI,tI]
abbrev TW:Type:=List yn×Int
abbrev qz3:List Ty:=[yQ,tI]
abbrev Qz4:Type:=Int×List yn×Int×Int
abbrev qz4:List Ty:=[tI,yQ,tI,tI]
abbrev US:Type:=List yn×Int×Int×Int
abbrev qz5:List Ty:=[yQ,tI,tI,tI]
abbrev Qz6:Type:=List yn×Int×Int×List yf
abbrev Qz7:Type:=ByteArray×Int
abbrev qz7:List Ty:=[tS,tI]
abbrev Qz8:Type:=ByteArray×Bool
abbrev qz8:List Ty:=[tS,tB]
abbrev Qz9:Type:=Int×ByteArray×ByteArray×Int×Int
abbrev qz9:List Ty:=[tI,tS,tS,tI,tI]
abbrev AX:Type:=Int×Int×Int×Int×Int
abbrev j6:List Ty:=[tI,tI,tI,tI,tI]
abbrev y3f:Type:=Int×Int×Int×Int×Int×Int×Int×Int×Int×Int
abbrev yeF:Type:=List y7×Int
abbrev SH:List Ty:=[zj,tI]
abbrev yeG:Type:=List y7×Bool
abbrev yeH:List Ty:=[zj,tB]
abbrev ykf:Type:=Int×Int×List yc
abbrev ybS:List Ty:=[tI,tI,zt]
abbrev SJ:Type:=Int×List yc
abbrev Hk:List Ty:=[tI,zt]
abbrev ykg:Type:=Bool×List yc
abbrev ykh:List Ty:=[tB,zt]
abbrev yeI:Type:=List y7×Int×List y7
abbrev SK:List Ty:=[zj,tI,zj]
abbrev yki:Type:=List y7×Bool×Int×Int×Int×Int×Int×Int×List y7
abbrev ybT:List Ty:=[zj,tB,tI,tI,tI,tI,tI,tI,zj]
abbrev yeJ:Type:=Bool×Int×Int×Int×Int×Int×List y7
abbrev yeK:List Ty:=[tB,tI,tI,tI,tI,tI,zj]
abbrev yeL:Type:=List y7×Int×Int×Int×Int×Int
abbrev yeM:Type:=List y7×List y7
abbrev ykj:Type:=Int×List yc×List y7
abbrev ybU:List Ty:=[tI,zt,zj]
abbrev Hl:Type:=Int×Int
abbrev ybV:List Ty:=[tI,tI]
abbrev ykk:Type:=Int×Int×Int×List yf×List y6×List yc
abbrev ybW:List Ty:=[tI,tI,tI,z4,yW,zt]
abbrev ykl:Type:=Int×Bool×Int×List yf×List y6×List yc
abbrev ykm:List Ty:=[tI,tB,tI,z4,yW,zt]
abbrev yeN:Type:=Int×Int×List yf×List y6×List yc
abbrev y3g:List Ty:=[tI,tI,z4,yW,zt]
abbrev y3h:Type:=List yf×List y6×Int
abbrev ykn:Type:=Int×List yf×List y6×List y7
abbrev ybX:List Ty:=[tI,z4,yW,zj]
abbrev o9:Type:=List yf×List y6
abbrev Vm:List Ty:=[z4,yW]
abbrev ybY:Type:=Int×List yf×List y6
abbrev E_:List Ty:=[tI,z4,yW]
abbrev yko:Type:=Bool×List yf×List y6
abbrev ykp:List Ty:=[tB,z4,yW]
abbrev yeO:Type:=List yb×Int×Int
abbrev ybZ:List Ty:=[yY,tI,tI]
abbrev Hm:Type:=List yb×Int
abbrev yb_:List Ty:=[yY,tI]
abbrev y3i:Type:=List yb×Bool
abbrev yeP:List Ty:=[yY,tB]
abbrev yc0:Type:=List ya×Int
abbrev yc1:List Ty:=[yL,tI]
abbrev yeQ:Type:=List ya×Bool
abbrev yeR:List Ty:=[yL,tB]
abbrev ykq:Type:=List yb×Int×Int×List yf
abbrev yc2:List Ty:=[yY,tI,tI,z4]
abbrev ykr:Type:=Int×Int×List yf×List y6×List yb×List ya×List yj×Int×ByteArray×Int×Int×Bool
abbrev yc3:List Ty:=[tI,tI,z4,yW,yY,yL,zT,tI,tS,tI,tI,tB]
abbrev yc4:Type:=Bool×Int×List yf×List y6×List yb×List ya×List yj×Int
abbrev yc5:List Ty:=[tB,tI,z4,yW,yY,yL,zT,tI]
abbrev M_:Type:=Int×List yf×List y6×List yb×List ya×List yj×Int
abbrev sE:List Ty:=[tI,z4,yW,yY,yL,zT,tI]
abbrev N0:Type:=Bool×List yf×List y6×List yb×List ya×List yj×Int
abbrev y3j:List Ty:=[tB,z4,yW,yY,yL,zT,tI]
abbrev f6:Type:=List yf×List y6×List yb×List ya×List yj×Int
abbrev Z1:List Ty:=[z4,yW,yY,yL,zT,tI]
abbrev yc6:Type:=List ya×Int×Int
abbrev yc7:List Ty:=[yL,tI,tI]
abbrev yeS:Type:=Int×Bool
abbrev yeT:Type:=Int×Int×Int×List yf×List y6×List yb×List ya×List yj×Int×List y7
abbrev y3k:List Ty:=[tI,tI,tI,z4,yW,yY,yL,zT,tI,zj]
abbrev yks:Type:=Bool×Int×Int×List yf×List y6×List yb×List ya×List yj×Int×List y7
abbrev ykt:List Ty:=[tB,tI,tI,z4,yW,yY,yL,zT,tI,zj]
abbrev y3l:Type:=Int×Int×List yf×List y6×List yb×List ya×List yj×Int×List y7
abbrev Cw:List Ty:=[tI,tI,z4,yW,yY,yL,zT,tI,zj]
abbrev y3m:Type:=Int×List yc×List yc
abbrev y3n:List Ty:=[tI,zt,zt]
abbrev y3o:Type:=Int×List yf×List y6×List yf
abbrev y3p:List Ty:=[tI,z4,yW,z4]
abbrev y3q:Type:=Int×List yf×List y6×List yf×List y6
abbrev y3r:List Ty:=[tI,z4,yW,z4,yW]
abbrev y3s:Type:=List yf×List y6×List yb×List ya×List yj×Int×ByteArray
abbrev yku:Type:=ByteArray×Int×List yf×List y6×List yb×List ya×List yj×Int
abbrev yc8:List Ty:=[tS,tI,z4,yW,yY,yL,zT,tI]
abbrev ykv:Type:=List yb×Int×Int×Bool×Int×List yb
abbrev yc9:List Ty:=[yY,tI,tI,tB,tI,yY]
abbrev ykw:Type:=List yb×Int×Int×Bool×List yb
abbrev ykx:List Ty:=[yY,tI,tI,tB,yY]
abbrev yeU:Type:=Int×ByteArray×Int×Int×Bool×List yj
abbrev y3t:List Ty:=[tI,tS,tI,tI,tB,zT]
abbrev yca:Type:=List yj×ByteArray×Int×Int×Bool
abbrev yky:Type:=List yf×List y6×List yb×List ya×List yj×Int×List yf×List y6×List yb×List ya×List yj×Int×Bool
abbrev pa:Type:=List yf×List y6×List yb×List ya×List yj×Int×Int
abbrev y3u:Type:=List yf×List y6×List yb×List ya×List yj×Int×ByteArray×Int
abbrev ykz:Type:=List yf×List y6×List yb×List ya×List yj×Int×ByteArray×ByteArray×Bool
abbrev ykA:Type:=List ya×Int×Int×List ya
abbrev ycb:List Ty:=[yL,tI,tI,yL]
abbrev ykB:Type:=Int×Bool×List ya
abbrev ykC:List Ty:=[tI,tB,yL]
abbrev ykD:Type:=List ya×Int×Bool
abbrev ykE:Type:=Int×Int×Int×Int×List yf×List y6
abbrev ycc:List Ty:=[tI,tI,tI,tI,z4,yW]
abbrev yeV:Type:=List yf×List y6×Int×Int
abbrev ykF:Type:=List y7×Int×Int×Int×Int×Int×Int×Int×Int
abbrev ycd:List Ty:=[zj,tI,tI,tI,tI,tI,tI,tI,tI]
abbrev yeW:Type:=Bool×Int×Int×Int×Int×Int
abbrev yeX:List Ty:=[tB,tI,tI,tI,tI,tI]
abbrev ykG:Type:=List y7×Int×Int
abbrev Hn:Type:=Int×Int×Int×Int×Int×Bool
abbrev ykH:Type:=Int×Int×Int×List yc×Int×Int×Int×Int×Int
abbrev yce:List Ty:=[tI,tI,tI,zt,tI,tI,tI,tI,tI]
abbrev ykI:Type:=List yc×Int×Int
abbrev ykJ:Type:=List yc×Int×Int×Int×Int×Int
abbrev ykK:Type:=List yc×Bool
abbrev ykL:Type:=List yf×List y6×Int×List yf×List y6
abbrev ykM:Type:=List yf×List y6×Int×Int×Int×Int×Int
abbrev ykN:Type:=List yf×List y6×Bool
abbrev ykO:Type:=List yf×List y6×List yb×List ya×List yj×Int×Int×Int×Int×Int×Int×Bool
abbrev y3v:Type:=List yf×List y6×List yb×List ya×List yj×Int×Int×Int×Int×Int×Int
abbrev ykP:Type:=List yf×List y6×List yb×List ya×List yj×Int×ByteArray×Int×Int
abbrev ykQ:Type:=List yb×Int×List yf
abbrev ycf:List Ty:=[yY,tI,z4]
abbrev ykR:Type:=Int×Int×List y7×List y7
abbrev ycg:List Ty:=[tI,tI,zj,zj]
abbrev ykS:Type:=List yf×Int×Int
abbrev ych:List Ty:=[z4,tI,tI]
abbrev ykT:Type:=List yf×Int
abbrev ykU:Type:=List yf×Bool×Int×Int×Int×Int×Int×Int×Int×Int×Int×Int×Int×List y7
abbrev yci:List Ty:=[z4,tB,tI,tI,tI,tI,tI,tI,tI,tI,tI,tI,tI,zj]
abbrev ykV:Type:=Bool×Int×Int×Int×Int×Int×Int×Int×Int×Int×Int
abbrev ykW:List Ty:=[tB,tI,tI,tI,tI,tI,tI,tI,tI,tI,tI]
abbrev ykX:Type:=List yf×List y6×Int×List yf
abbrev yeY:Type:=List yf×List y6×List yb×Int×Int
abbrev ykY:Type:=List yf×List y6×List yb×List ya×List yj×Int×Int×Int
abbrev y3w:Type:=Int×Int×Bool×Int×List yf×List y6×List yb×List ya×List yj×Int×Int×Int×List yf×List y6×List yb×List ya×List yj
abbrev y3x:List Ty:=[tI,tI,tB,tI,z4,yW,yY,yL,zT,tI,tI,tI,z4,yW,yY,yL,zT]
abbrev y3y:Type:=Int×Int×Bool×Int×List yf×List y6×List yb×List ya×List yj×Int×Int×List yf×List y6×List yb×Int×List ya×List yj
abbrev y3z:List Ty:=[tI,tI,tB,tI,z4,yW,yY,yL,zT,tI,tI,z4,yW,yY,tI,yL,zT]
abbrev ykZ:Type:=Int×Int×Bool×List yf×List y6×List yb×List ya×List yj×Int×Int×Int×List yf×List y6×List yb×List ya×List yj
abbrev yk_:List Ty:=[tI,tI,tB,z4,yW,yY,yL,zT,tI,tI,tI,z4,yW,yY,yL,zT]
abbrev yl0:Type:=Int×Int×Bool×List yf×List y6×List yb×List ya×List yj×Int×Int×List yf×List y6×List yb×Int×List ya×List yj
abbrev yl1:List Ty:=[tI,tI,tB,z4,yW,yY,yL,zT,tI,tI,z4,yW,yY,tI,yL,zT]
abbrev yl2:Type:=List yf×List y6×List yb×Int×Int×Int×Int×Int×Int
abbrev yl3:Type:=Int×List yf×List y6×List yb×List ya×List yj×Int×Int×Int×Int×Int×Int
abbrev ycj:List Ty:=[tI,z4,yW,yY,yL,zT,tI,tI,tI,tI,tI,tI]
abbrev yeZ:Type:=Int×Int×List yf×List y6×List yb×List ya×List yj×Int
abbrev y3A:List Ty:=[tI,tI,z4,yW,yY,yL,zT,tI]
abbrev yl4:Type:=List yf×List y6×List yb×List ya×List yj×Int×Int×Int×Int×Int×Int×Int
abbrev yl5:Type:=Int×Bool×List yf×List y6×List yb×List ya×List yj×Int
abbrev yl6:List Ty:=[tI,tB,z4,yW,yY,yL,zT,tI]
abbrev ye_:Type:=Int×List yf×List y6×List yb×List ya×List yj×Int×List y7
abbrev y3B:List Ty:=[tI,z4,yW,yY,yL,zT,tI,zj]
abbrev yl7:Type:=List yb×Int×Int×Int×List yb
abbrev yck:List Ty:=[yY,tI,tI,tI,yY]
abbrev Dm:Type:=List yf×List y6×List yb×List ya×List yj×Int×Bool
abbrev yf0:Type:=Int×Int×Int×Int×Int×Int×Int×List y7
abbrev UT:List Ty:=[tI,tI,tI,tI,tI,tI,tI,zj]
abbrev y5v:Type:=List yf×List y6×List yb×List ya×List yj×Int×Int×ByteArray×ByteArray×Int×Int
abbrev yf1:Type:=List yn×Int×Int×List cU
abbrev y5w:Type:=ByteArray×List yn×Int×Int
abbrev yf2:Type:=Int×ByteArray×ByteArray×Int×Int×List yn×Int×Int
abbrev O8:Type:=Int×List yn×Int×Int×Int×Int×List yf×List y6×List yb×List ya×List yj
abbrev O9:List Ty:=[tI,yQ,tI,tI,tI,tI,z4,yW,yY,yL,zT]
abbrev Oa:Type:=Int×List yn×Int×Int×Int×List yf×List y6×List yb×Int×List ya×List yj
abbrev Oc:List Ty:=[tI,yQ,tI,tI,tI,z4,yW,yY,tI,yL,zT]
abbrev yf3:Type:=List yn×Int×Int×Int×Int×List yf×List y6×List yb×List ya×List yj
abbrev yf4:List Ty:=[yQ,tI,tI,tI,tI,z4,yW,yY,yL,zT]
abbrev yf5:Type:=List yn×Int×Int×Int×List yf×List y6×List yb×Int×List ya×List yj
abbrev yf6:List Ty:=[yQ,tI,tI,tI,z4,yW,yY,tI,yL,zT]
abbrev y5x:Type:=List yf×List y6×List yb×List ya×List yj×Int×List yn×Int×Int
abbrev Od:Type:=Int×Int×Int×Int×Int×List yn×Int×Int
abbrev yf7:Type:=Int×List yn×Int×Int×List yf×List y6
abbrev UU:List Ty:=[tI,yQ,tI,tI,z4,yW]
abbrev yf8:Type:=List yn×Int×Int×List yf×List y6
abbrev yf9:List Ty:=[yQ,tI,tI,z4,yW]
abbrev y5y:Type:=List yf×List y6×List yn×Int×Int
abbrev Oe:Type:=Int×List yn×Int×Int×List yc
abbrev Of:List Ty:=[tI,yQ,tI,tI,zt]
abbrev yfa:Type:=List yn×Int×Int×List yc
abbrev yfb:List Ty:=[yQ,tI,tI,zt]
abbrev y5z:Type:=List yc×List yn×Int×Int
abbrev yfc:Type:=Int×List yn×Int×Int×List y7
abbrev UV:List Ty:=[tI,yQ,tI,tI,zj]
abbrev yfd:Type:=List yn×Int×Int×List y7
abbrev yfe:List Ty:=[yQ,tI,tI,zj]
abbrev y5A:Type:=List y7×List yn×Int×Int
abbrev yff:Type:=Bool×List yn×Int×Int
abbrev y5B:Type:=Int×List yn×Int×Int×List yb
abbrev Dn:List Ty:=[tI,yQ,tI,tI,yY]
abbrev y5C:Type:=List yn×Int×Int×List yb
abbrev y5D:List Ty:=[yQ,tI,tI,yY]
abbrev y5E:Type:=List yb×List yn×Int×Int
abbrev yfg:Type:=Int×List yn×Int×Int×List ya
abbrev UW:List Ty:=[tI,yQ,tI,tI,yL]
abbrev yfh:Type:=List yn×Int×Int×List ya
abbrev yfi:List Ty:=[yQ,tI,tI,yL]
abbrev y5F:Type:=List ya×List yn×Int×Int
abbrev Og:Type:=Int×Int×List yn×Int×Int×List yf×List y6×List yb×List ya×Int×List yj
abbrev Oh:List Ty:=[tI,tI,yQ,tI,tI,z4,yW,yY,yL,tI,zT]
abbrev Oi:Type:=Int×Int×List yn×Int×Int×List yf×List y6×List yb×Int×List ya×List yj
abbrev Oj:List Ty:=[tI,tI,yQ,tI,tI,z4,yW,yY,tI,yL,zT]
abbrev yfj:Type:=Int×List yf×List y6×List yb×List ya×Int×List yj
abbrev yfk:List Ty:=[tI,z4,yW,yY,yL,tI,zT]
abbrev yfl:Type:=Int×List yf×List y6×List yb×Int×List ya×List yj
abbrev yfm:List Ty:=[tI,z4,yW,yY,tI,yL,zT]
abbrev yfn:Type:=List y7×List y7×Int×Int
abbrev UX:List Ty:=[zj,zj,tI,tI]
abbrev yfo:Type:=Int×List yc×Int×Int×List yc
abbrev UY:List Ty:=[tI,zt,tI,tI,zt]
abbrev yfp:Type:=Bool×Int×List yc
abbrev yfq:List Ty:=[tB,tI,zt]
abbrev yfr:Type:=Int×List yc×Int×Int×List y7×Int×Int×List yf×List y6
abbrev UZ:List Ty:=[tI,zt,tI,tI,zj,tI,tI,z4,yW]
abbrev yfs:Type:=Int×Bool×List yc×Int×Int×List yf×List y6
abbrev yft:List Ty:=[tI,tB,zt,tI,tI,z4,yW]
abbrev y5G:Type:=Int×List yc×Int×Int×List yf×List y6
abbrev Ok:List Ty:=[tI,zt,tI,tI,z4,yW]
abbrev yfu:Type:=Bool×List y7×Int×Int×Int×Int×Int×Int×Int×List y7
abbrev U_:List Ty:=[tB,zj,tI,tI,tI,tI,tI,tI,tI,zj]
abbrev y5H:Type:=List y7×Int×Int×List y7
abbrev Do:List Ty:=[zj,tI,tI,zj]
abbrev yfv:Type:=List yc×Int×Int×List y7
abbrev X0:List Ty:=[zt,tI,tI,zj]
abbrev yfw:Type:=Int×List y6×Int×Int×List yf×List y6
abbrev X1:List Ty:=[tI,yW,tI,tI,z4,yW]
abbrev y5I:Type:=Bool×Int
abbrev yfx:List Ty:=[tB,tI]
abbrev yfy:Type:=List yb×Int×Int×Int
abbrev X2:List Ty:=[yY,tI,tI,tI]
abbrev yfz:Type:=List yb×List yb×Int×Int
abbrev X3:List Ty:=[yY,yY,tI,tI]
abbrev yfA:Type:=List ya×List ya×Int×Int
abbrev X4:List Ty:=[yL,yL,tI,tI]
abbrev yfB:Type:=Int×List yb×Int×Int×List yf
abbrev X5:List Ty:=[tI,yY,tI,tI,z4]
abbrev yfC:Type:=ByteArray×Int×Int×Bool×ByteArray×Int×Int×Bool
abbrev y5J:Type:=Bool×ByteArray×Int×Int×Bool
abbrev yfD:Type:=List yj×Int×Int×ByteArray×Int×Int×Bool
abbrev X6:List Ty:=[zT,tI,tI,tS,tI,tI,tB]
abbrev y5K:Type:=Int×ByteArray×Int×Int×Bool
abbrev yfE:List Ty:=[tI,tS,tI,tI,tB]
abbrev yfF:Type:=ByteArray×Int×Int×Bool
abbrev AY:List Ty:=[tS,tI,tI,tB]
abbrev yfG:Type:=List yj×Int×Int×List yf×List y6×List yb×List ya×List yj×Int
abbrev X7:List Ty:=[zT,tI,tI,z4,yW,yY,yL,zT,tI]
abbrev yfH:Type:=List y6×Int×Int×List y7
abbrev X8:List Ty:=[yW,tI,tI,zj]
abbrev yfI:Type:=Int×List ya×Int×Int
abbrev X9:List Ty:=[tI,yL,tI,tI]
abbrev yfJ:Type:=Int×Int×Int×List yf×List y6×List yb×List ya×List yj×Int×List EZ×List y7
abbrev Xa:List Ty:=[tI,tI,tI,z4,yW,yY,yL,zT,tI,ybR,zj]
abbrev yfK:Type:=List yb×Int×Int×List yf×List y6×List yb×List ya×List yj×Int
abbrev Xb:List Ty:=[yY,tI,tI,z4,yW,yY,yL,zT,tI]
abbrev yfL:Type:=List y8×Int×Int×List yn
abbrev Xc:List Ty:=[zq,tI,tI,yQ]
abbrev y5L:Type:=List yn×ByteArray
abbrev y5M:Type:=List yn×Int×Int×Int×Int×Int
abbrev yfM:Type:=List yb×Int×Int×List yf×List y6×List yb×List ya×List yj×Int×List yn
abbrev Xd:List Ty:=[yY,tI,tI,z4,yW,yY,yL,zT,tI,yQ]
abbrev Dp:Type:=List yf×List y6×List yb×List ya×List yj×Int×List yn
abbrev Dq:List Ty:=[z4,yW,yY,yL,zT,tI,yQ]
abbrev yfN:Type:=List yj×Int×Int×List yf×List y6×List yb×List ya×List yj×Int×List yn
abbrev Xe:List Ty:=[zT,tI,tI,z4,yW,yY,yL,zT,tI,yQ]
abbrev yfO:Type:=List ya×Int×Int×List yf×List y6×List yb×List ya×List yj×Int×List yn
abbrev Xf:List Ty:=[yL,tI,tI,z4,yW,yY,yL,zT,tI,yQ]
abbrev yfP:Type:=List y6×Int×Int×List yc×Int×Int×List y7×Int×Int×List yf×List y6×List yb×List ya×List yj×Int×List yn
abbrev Xg:List Ty:=[yW,tI,tI,zt,tI,tI,zj,tI,tI,z4,yW,yY,yL,zT,tI,yQ]
abbrev y5N:Type:=List y6×Int×Int×List yc×Int×Int×List yf×List y6×List yb×List ya×List yj×Int×List yn
abbrev Ol:List Ty:=[yW,tI,tI,zt,tI,tI,z4,yW,yY,yL,zT,tI,yQ]
abbrev y5O:Type:=List y6×Int×Int×List yf×List y6×List yb×List ya×List yj×Int×List yn
abbrev Om:List Ty:=[yW,tI,tI,z4,yW,yY,yL,zT,tI,yQ]
abbrev yfQ:Type:=List y8×Int×Int×List y8×List yw×Int×Bool
abbrev Xh:List Ty:=[zq,tI,tI,zq,ZA,tI,tB]
abbrev On:Type:=Bool×List y8×List yw×Int×Bool
abbrev Xi:List Ty:=[tB,zq,ZA,tI,tB]
abbrev yfR:Type:=List yw×Int×Int×List y8×List yw×Int×Bool
abbrev Xj:List Ty:=[ZA,tI,tI,zq,ZA,tI,tB]
abbrev Oo:Type:=List y8×Int×Int×List y8×List yw×Int×Bool×Int×Bool×Int×Bool
abbrev Oq:List Ty:=[zq,tI,tI,zq,ZA,tI,tB,tI,tB,tI,tB]
abbrev Ot:Type:=List y8×Int×Int×List y8×List yw×Int×Bool×Int×Bool×Int×Bool×List y8
abbrev Ou:List Ty:=[zq,tI,tI,zq,ZA,tI,tB,tI,tB,tI,tB,zq]
abbrev y5P:Type:=List y8×List yw×Int×Bool×Int×Bool×Int×Bool
abbrev y5Q:List Ty:=[zq,ZA,tI,tB,tI,tB,tI,tB]
abbrev y5R:Type:=List y8×List yw×Int×Bool×Int×Bool×Int×Bool×List y8
abbrev y5S:List Ty:=[zq,ZA,tI,tB,tI,tB,tI,tB,zq]
abbrev Ov:Type:=List yw×Int×Int×Int×Bool×Int×Bool
abbrev Ow:List Ty:=[ZA,tI,tI,tI,tB,tI,tB]
abbrev Dr:Type:=List yw×Int×Int×Int×Bool×Int×Bool×List yw
abbrev Ox:List Ty:=[ZA,tI,tI,tI,tB,tI,tB,ZA]
abbrev tR:Type:=List yw×Int×Int×Int×Bool×Int×Bool×List y8
abbrev Oy:List Ty:=[ZA,tI,tI,tI,tB,tI,tB,zq]
abbrev tT:Type:=List yw×Int×Int×Int×Bool×Int×Bool×List y8×List yw
abbrev Oz:List Ty:=[ZA,tI,tI,tI,tB,tI,tB,zq,ZA]
abbrev Xk:Type:=Int×Bool×Int×Bool
abbrev Xl:List Ty:=[tI,tB,tI,tB]
abbrev y5T:Type:=Int×Bool×Int×Bool×List yw
abbrev y5U:List Ty:=[tI,tB,tI,tB,ZA]
abbrev Xm:Type:=Int×Bool×Int×Bool×List y8
abbrev Xn:List Ty:=[tI,tB,tI,tB,zq]
abbrev OA:Type:=Int×Bool×Int×Bool×List y8×List yw
abbrev OB:List Ty:=[tI,tB,tI,tB,zq,ZA]
abbrev yfS:Type:=List y8×List yw×Int×Bool×Bool
abbrev Ds:Type:=List y8×List yw×Int×Bool×Int×List yn
abbrev yfT:Type:=Int×List yn×Int×Int×Bool×Int×Bool×List y8×List yw
abbrev Xo:List Ty:=[tI,yQ,tI,tI,tB,tI,tB,zq,ZA]
abbrev yfU:Type:=Int×List yn×Int×Int×Int
abbrev Xp:List Ty:=[tI,yQ,tI,tI,tI]
abbrev yfV:Type:=Int×Int×List y8×List yw×Int×Bool
abbrev Xq:List Ty:=[tI,tI,zq,ZA,tI,tB]
abbrev yfW:Type:=Int×List y8×List yw×Int×Bool×List yn
abbrev yfX:List Ty:=[tI,zq,ZA,tI,tB,yQ]
abbrev Xr:Type:=Int×List y8×List yw×Int×Bool
abbrev AZ:List Ty:=[tI,zq,ZA,tI,tB]
abbrev Xs:Type:=List y8×List yw×Int×Bool×Int
abbrev y5V:Type:=Int×List y8×List yw×Int×Bool×Int×Int×Int×Int×Int×List yn
abbrev Dt:List Ty:=[tI,zq,ZA,tI,tB,tI,tI,tI,tI,tI,yQ]
abbrev y5W:Type:=Int×Int×Int×Int×Int×List yn
abbrev y5X:List Ty:=[tI,tI,tI,tI,tI,yQ]
abbrev Xt:Type:=List y8×List yw×Int×Bool×Int×Int×Int×Int×Int
abbrev y5Y:Type:=List yn×Bool
abbrev OC:Type:=Int×Int×Int×Bool×Int×Bool
abbrev OD:List Ty:=[tI,tI,tI,tB,tI,tB]
abbrev OE:Type:=Int×Int×Int×Bool×Int×Bool×List y8
abbrev OG:List Ty:=[tI,tI,tI,tB,tI,tB,zq]
abbrev yfY:Type:=Int×Int×List yn×Int×Int×List yn
abbrev Xu:List Ty:=[tI,tI,yQ,tI,tI,yQ]
abbrev yfZ:Type:=List yn×Int×Int×List yn
abbrev yf_:List Ty:=[yQ,tI,tI,yQ]
abbrev y5Z:Type:=List yn×List yn×Int×Int
abbrev yg0:Type:=Int×Int×Bool×List y8×List yw
abbrev Xv:List Ty:=[tI,tI,tB,zq,ZA]
abbrev y5_:Type:=Int×Bool×List y8×List yw
abbrev y60:List Ty:=[tI,tB,zq,ZA]
abbrev yg1:Type:=Int×List yn×Int×Int×Int×Bool×Int×Bool×List y8×List yw
abbrev Xw:List Ty:=[tI,yQ,tI,tI,tI,tB,tI,tB,zq,ZA]
abbrev Xx:Type:=List yn×Int×Int×Int×Bool×Int×Bool×List y8×List yw
abbrev Ho:List Ty:=[yQ,tI,tI,tI,tB,tI,tB,zq,ZA]
abbrev y61:Type:=List y8×List yw×Int×Bool×List yn×Int×Int
abbrev tU:Type:=Int×List y8×List yw×Int×Bool×Int×Bool×Int×Bool
abbrev tV:List Ty:=[tI,zq,ZA,tI,tB,tI,tB,tI,tB]
abbrev il:Type:=Int×List y8×List yw×Int×Bool×Int×Bool×Int×Bool×List y8
abbrev tW:List Ty:=[tI,zq,ZA,tI,tB,tI,tB,tI,tB,zq]
abbrev Du:Type:=Int×List y8×List yw×Int×Bool×Int×Bool×Int×Bool×List yw
abbrev OH:List Ty:=[tI,zq,ZA,tI,tB,tI,tB,tI,tB,ZA]
abbrev tX:Type:=Int×List y8×List yw×Int×Bool×Int×Bool×Int×Bool×List y8×List yw
abbrev OI:List Ty:=[tI,zq,ZA,tI,tB,tI,tB,tI,tB,zq,ZA]
abbrev yg2:Type:=Int×List yn×Int×Int×Bool×List y8×List yw
abbrev Xy:List Ty:=[tI,yQ,tI,tI,tB,zq,ZA]
abbrev yg3:Type:=Int×List yn×Int×List y8×List yw×Int×Bool
abbrev Xz:List Ty:=[tI,yQ,tI,zq,ZA,tI,tB]
abbrev yg4:Type:=List y7×Int×List yn
abbrev XA:List Ty:=[zj,tI,yQ]
abbrev yg5:Type:=List yn×List y7
abbrev Hq:Type:=Int×List yf×List y6×List yb×List ya×List yj×Int×List yn
abbrev fA:List Ty:=[tI,z4,yW,yY,yL,zT,tI,yQ]
abbrev yg6:Type:=Int×Int×List yf×List y6×List yb×List ya×List yj×Int×List yn
abbrev XC:List Ty:=[tI,tI,z4,yW,yY,yL,zT,tI,yQ]
abbrev dZ:Type:=List y8×List yw×Int×Bool×List yf×List y6×List yb×List ya×List yj×Int×Int×Int×Int
abbrev c6:List Ty:=[zq,ZA,tI,tB,z4,yW,yY,yL,zT,tI,tI,tI,tI]
abbrev yg7:Type:=Bool×List y8×List yw×Int×Bool×List yf×List y6×List yb×List ya×List yj×Int×Int×Int×Int
abbrev yg8:Type:=Int×Int×Bool×List yf×List y6×List yb×List ya×List yj×Int×Int×Int×Int×List y8×List yw
abbrev XD:List Ty:=[tI,tI,tB,z4,yW,yY,yL,zT,tI,tI,tI,tI,zq,ZA]
abbrev y62:Type:=Int×Bool×List yf×List y6×List yb×List ya×List yj×Int×Int×Int×Int×List y8×List yw
abbrev y63:List Ty:=[tI,tB,z4,yW,yY,yL,zT,tI,tI,tI,tI,zq,ZA]
abbrev y64:Type:=List y8×List yw×Int×Bool×List yf×List y6×List yb×List ya×List yj×Int×Int×Int×Int×Int×List yn
abbrev yg9:Type:=Int×List yn×Int×Int×Bool×List yf×List y6×List yb×List ya×List yj×Int×Int×Int×Int×List y8×List yw
abbrev XE:List Ty:=[tI,yQ,tI,tI,tB,z4,yW,yY,yL,zT,tI,tI,tI,tI,zq,ZA]
abbrev y65:Type:=Int×Int×ByteArray×ByteArray×Int×Int
abbrev y66:List Ty:=[tI,tI,tS,tS,tI,tI]
abbrev yga:Type:=List yn×Int×ByteArray×ByteArray×Int×Int
abbrev ygb:Type:=List y8×List yw×Int×Bool×List yf×List y6×List yb×List ya×List yj×Int×Int×Int×Int×Int×ByteArray×ByteArray×Int×Int
abbrev ygc:Type:=List y8×List yw×Int×Bool×List yf×List y6×List yb×List ya×List yj×Int×Int×Int×Int×Int
abbrev y67:Type:=List yn×Int×Int×List y8×List yw×Int×Bool×List yf×List y6×List yb×List ya×List yj×Int×Int×Int×Int
abbrev ygd:Type:=Int×List yn×Int×Int×Int×Bool×Int×Int×Int×Int×Int×Bool×List yf×List y6×List yb×List ya×List yj×Int×Int×Int×Int×List y8×List yw
abbrev XF:List Ty:=[tI,yQ,tI,tI,tI,tB,tI,tI,tI,tI,tI,tB,z4,yW,yY,yL,zT,tI,tI,tI,tI,zq,ZA]
abbrev yge:Type:=List yn×Int×Int×Int×Bool×Int×Int×Int×Int×Int×Bool×List yf×List y6×List yb×List ya×List yj×Int×Int×Int×Int×List y8×List yw
abbrev ygf:List Ty:=[yQ,tI,tI,tI,tB,tI,tI,tI,tI,tI,tB,z4,yW,yY,yL,zT,tI,tI,tI,tI,zq,ZA]
abbrev ygg:Type:=List y8×List yw×Int×Bool×List yf×List y6×List yb×List ya×List yj×Int×Int×Int×Int×List yn×Int×Int
abbrev ygh:Type:=Int×Int×Int×Bool×Int×Bool×List y8×List yw
abbrev XG:List Ty:=[tI,tI,tI,tB,tI,tB,zq,ZA]
abbrev y68:Type:=Int×Int×Bool
abbrev ar:Type:=List yn×Int×Bool
abbrev au:List Ty:=[yQ,tI,tB]
abbrev pc:Type:=Int×List yn×Int×Bool
abbrev OJ:List Ty:=[tI,yQ,tI,tB]
abbrev XH:Type:=Bool×List yn×Int×Bool
abbrev y69:Type:=ByteArray×Int×Bool
abbrev ygi:Type:=ByteArray×List yn×Int×Bool
abbrev ygj:Type:=Int×Int×Int×Int×Int×List yn×Int×Bool
abbrev OK:Type:=Int×Int×Int×Int×List yn×Int×Bool×List y7
abbrev OL:List Ty:=[tI,tI,tI,tI,yQ,tI,tB,zj]
abbrev OM:Type:=Int×Int×Int×Int×List yn×Int×Bool×List y7×List yc
abbrev ON:List Ty:=[tI,tI,tI,tI,yQ,tI,tB,zj,zt]
abbrev ygk:Type:=Int×Int×List yn×Int×Bool×List y7
abbrev ygl:List Ty:=[tI,tI,yQ,tI,tB,zj]
abbrev ygm:Type:=Int×Int×List yn×Int×Bool×List y7×List yc
abbrev ygn:List Ty:=[tI,tI,yQ,tI,tB,zj,zt]
abbrev OO:Type:=Int×Int×List yn×Int×Bool
abbrev OP:List Ty:=[tI,tI,yQ,tI,tB]
abbrev OQ:Type:=Int×Int×List yn×Int×Bool×List yc
abbrev OR:List Ty:=[tI,tI,yQ,tI,tB,zt]
abbrev y6a:Type:=List yn×Int×Bool×List yc
abbrev y6b:List Ty:=[yQ,tI,tB,zt]
abbrev y6c:Type:=List yc×List yn×Int×Bool
abbrev Dv:Type:=Int×Int×List yn×Int×Bool×Int×Int×List yf×List yb×List ya×List yj
abbrev nB:List Ty:=[tI,tI,yQ,tI,tB,tI,tI,z4,yY,yL,zT]
abbrev OS:Type:=List yn×Int×Bool×Int×Int×List yf×List yb×List ya×List yj
abbrev OT:List Ty:=[yQ,tI,tB,tI,tI,z4,yY,yL,zT]
abbrev ygo:Type:=Int×List yn×Int×Bool×Int×Int×List yf×List yb×List ya×List yj
abbrev XI:List Ty:=[tI,yQ,tI,tB,tI,tI,z4,yY,yL,zT]
abbrev OU:Type:=Int×Int×List yn×Int×Bool×Int×Int×List yf×List y6×List yb×List ya×List yj
abbrev OV:List Ty:=[tI,tI,yQ,tI,tB,tI,tI,z4,yW,yY,yL,zT]
abbrev ygp:Type:=List yn×Int×Bool×Int×Int×List yf×List y6×List yb×List ya×List yj
abbrev ygq:List Ty:=[yQ,tI,tB,tI,tI,z4,yW,yY,yL,zT]
abbrev ygr:Type:=List yf×List y6×List yb×List ya×List yj×Int×List yn×Int×Bool
abbrev ygs:Type:=List yn×List yn
abbrev OW:Type:=Int×List y8×List yw×Int×Bool×Int×Int×Int×Int×Int×Int×Int×Int×Int×Int×List yn
abbrev OX:List Ty:=[tI,zq,ZA,tI,tB,tI,tI,tI,tI,tI,tI,tI,tI,tI,tI,yQ]
abbrev OY:Type:=List yn×Int×List y8×List yw×Int×Bool×Int×Int×Int×Int×Int×Int×Int×Int×Int×Int
abbrev OZ:List Ty:=[yQ,tI,zq,ZA,tI,tB,tI,tI,tI,tI,tI,tI,tI,tI,tI,tI]
abbrev ygt:Type:=Int×Int×Int×Int×Int×Int×Int×Int×Int×Int×List yn
abbrev ygu:List Ty:=[tI,tI,tI,tI,tI,tI,tI,tI,tI,tI,yQ]
abbrev ygv:Type:=List yn×Int×Int×Int×Int×Int×Int×Int×Int×Int×Int
abbrev ygw:List Ty:=[yQ,tI,tI,tI,tI,tI,tI,tI,tI,tI,tI]
abbrev y6d:Type:=Int×Int×Int×Int×Int×List yn×Bool
abbrev ygx:Type:=ByteArray×Int×Int×Bool×List yn×Int×Bool
abbrev ygy:Type:=Int×Int×Int×Int×Int×Int×Bool
abbrev ygz:Type:=Int×List yn×Int×Bool×List y7
abbrev XJ:List Ty:=[tI,yQ,tI,tB,zj]
abbrev y6e:Type:=List yn×Int×Bool×List y7
abbrev y6f:List Ty:=[yQ,tI,tB,zj]
abbrev ygA:Type:=List y7×List yn×Int×Bool
abbrev O_:Type:=Int×List yn×Int×Bool×List yc
abbrev P0:List Ty:=[tI,yQ,tI,tB,zt]
abbrev A_:Type:=List yn×Int×Int×List yn×Int×Bool×Int×List yf×List yb×List ya×List yj
abbrev fB:List Ty:=[yQ,tI,tI,yQ,tI,tB,tI,z4,yY,yL,zT]
abbrev P1:Type:=List yn×Int×List yn×Int×Bool×Int×List yf×List yb×List ya×List yj
abbrev P2:List Ty:=[yQ,tI,yQ,tI,tB,tI,z4,yY,yL,zT]
abbrev P3:Type:=List yn×Int×Int×List yn×Int×Bool×Int×List yf×List y6×List yb×List ya×List yj
abbrev P4:List Ty:=[yQ,tI,tI,yQ,tI,tB,tI,z4,yW,yY,yL,zT]
abbrev ygB:Type:=List yn×Int×List yn×Int×Bool×Int×List yf×List y6×List yb×List ya×List yj
abbrev ygC:List Ty:=[yQ,tI,yQ,tI,tB,tI,z4,yW,yY,yL,zT]
abbrev P5:Type:=Bool×Int×List y8×List yw×Int×Bool×Int×Int×Int×Int×Int×Int×Int×Int×Int×Int×List yn
abbrev P6:List Ty:=[tB,tI,zq,ZA,tI,tB,tI,tI,tI,tI,tI,tI,tI,tI,tI,tI,yQ]
abbrev P8:Type:=List yn×Bool×Int×List y8×List yw×Int×Bool×Int×Int×Int×Int×Int×Int×Int×Int×Int×Int
abbrev Pa:List Ty:=[yQ,tB,tI,zq,ZA,tI,tB,tI,tI,tI,tI,tI,tI,tI,tI,tI,tI]
abbrev ygD:Type:=Bool×Int×Int×Int×Int×Int×Int×Int×Int×Int×Int×List yn
abbrev ygE:List Ty:=[tB,tI,tI,tI,tI,tI,tI,tI,tI,tI,tI,yQ]
abbrev ygF:Type:=List yn×Bool×Int×Int×Int×Int×Int×Int×Int×Int×Int×Int
abbrev ygG:List Ty:=[yQ,tB,tI,tI,tI,tI,tI,tI,tI,tI,tI,tI]
abbrev y6g:Type:=Int×List y8×List yw×Int×Bool×List y8×List yw×Int×Bool
abbrev Dw:List Ty:=[tI,zq,ZA,tI,tB,zq,ZA,tI,tB]
abbrev ygH:Type:=Bool×List y8×List yw×Int×Bool×List y8×List yw×Int×Bool
abbrev ygI:List Ty:=[tB,zq,ZA,tI,tB,zq,ZA,tI,tB]
abbrev y6h:Type:=List y8×List yw×Int×Bool×List y8×List yw×Int×Bool
abbrev ygJ:List Ty:=[zq,ZA,tI,tB,zq,ZA,tI,tB]
abbrev ygK:Type:=List yn×List yn×Int×Bool×Int×Int×Bool×List yn×List y8×List yw
abbrev XK:List Ty:=[yQ,yQ,tI,tB,tI,tI,tB,yQ,zq,ZA]
abbrev ygL:Type:=List yn×Bool×List yn×Bool×Int×Bool×List yn×List y8×List yw
abbrev ygM:List Ty:=[yQ,tB,yQ,tB,tI,tB,yQ,zq,ZA]
abbrev ygN:Type:=List yn×List yn×Bool×Int×Bool×List yn×List y8×List yw
abbrev ygO:List Ty:=[yQ,yQ,tB,tI,tB,yQ,zq,ZA]
def y6i:List (Nat×TI):=[
 (3,.c (.int .i64) 8),
 (4,.c (.bool) 1),
 (5,.c (.int .u8) 1),
 (9,.c (.str) 16),
 (22,.c (.sl 5 fx) 24),
 (24,.c (.sl 22 mE) 24),
 (25,.c (.sl 95 Dl) 24),
 (27,.s [(0,24),(1,25),(2,3),(3,4)] [(.sl 22 mE),(.sl 95 Dl),(.int .i64),.bool] 64),
 (29,.c (.sl 3 o8) 24),
 (30,.c (.sl 88 gB) 24),
 (32,.s [(0,29),(1,30)] [(.sl 3 o8),(.sl 88 gB)] 48),
 (33,.c (.sl 79 sC) 24),
 (34,.c (.sl 85 mF) 24),
 (35,.c (.sl 81 sD) 24),
 (37,.s [(0,32),(2,33),(3,34),(4,35),(5,3)] [(.sl 3 o8),(.sl 88 gB),(.sl 79 sC),(.sl 85 mF),(.sl 81 sD),(.int .i64)] 128),
 (44,.s [(0,3),(1,3),(2,3),(3,3),(4,3)] [(.int .i64),(.int .i64),(.int .i64),(.int .i64),(.int .i64)] 40),
 (63,.s [(0,3),(1,9),(2,9),(3,3),(4,3)] [(.int .i64),.str,.str,(.int .i64),(.int .i64)] 56),
 (79,.s [(0,3),(1,3)] [(.int .i64),(.int .i64)] 16),
 (81,.s [(0,9),(1,3),(2,3),(3,4)] [.str,(.int .i64),(.int .i64),.bool] 40),
 (85,.s [(0,3),(1,4),(2,3)] [(.int .i64),.bool,(.int .i64)] 24),
 (86,.c (.sl 89 fy) 24),
 (88,.s [(0,86)] [(.sl 89 fy)] 24),
 (89,.c (.sl 91 AW) 24),
 (91,.s [(0,3),(1,3),(2,3),(3,3),(4,3)] [(.int .i64),(.int .i64),(.int .i64),(.int .i64),(.int .i64)] 40),
 (95,.s [(0,3),(1,22)] [(.int .i64),(.sl 5 fx)] 32),
 (105,.s [(0,27),(4,37),(10,3),(11,3),(12,3)] [(.sl 22 mE),(.sl 95 Dl),(.int .i64),.bool,(.sl 3 o8),(.sl 88 gB),(.sl 79 sC),(.sl 85 mF),(.sl 81 sD),(.int .i64),(.int .i64),(.int .i64),(.int .i64)] 216),
 (147,.c (.int .u64) 8),
 (152,.s [(0,22),(1,3),(2,3)] [(.sl 5 fx),(.int .i64),(.int .i64)] 40),
 (160,.s [(0,22),(1,3),(2,4)] [(.sl 5 fx),(.int .i64),.bool] 40),
 (169,.s [(0,22),(1,3),(2,4)] [(.sl 5 fx),(.int .i64),.bool] 40),
 (178,.c (.sl 9 mG) 24),
 (218,.c (.sl 4 uU) 24),
 (267,.s [(0,3),(1,63)] [(.int .i64),(.int .i64),.str,.str,(.int .i64),(.int .i64)] 64)]
def sg5:Sig:=gS [sO yQ] [rO tB]
def ygP:Sig:=gS [sO tI,sO tI,sO tI] [rO tB]
def sg6:Sig:=gS [sO tI] [⟨true,ik,[true,true,false,false]⟩]
def ygQ:Sig:=⟨[sO yQ],[rV gC],true,false⟩
def y6j:Sig:=gS [sP gC] [rO tI]
def ygR:Sig:=gS [sP gC,sO tI] [rO tI]
def ygS:Sig:=gS [sO yQ,sO tI] [rO tI]
def ygT:Sig:=gS [sP gC,sO z4] [rO tI]
def ygU:Sig:=gS [sO tI,sO tI,sO tI] [rO tB]
def y6k:Sig:=gS [sO tS] [rO tB]
def y6l:Sig:=gS [sO tI] [rO tB]
def y6m:Sig:=gS [sV qz9] [rO tB]
def ygV:Sig:=gS [sV qz9] [rO tB]
def y6n:Sig:=gS [sV j6] [rO tB]
def y6o:Sig:=gS [sV j6,sV j6] [rO tB]
def y6p:Sig:=gS [sO zj] [rO tB]
def y6q:Sig:=gS [sO zj] [rO tB]
def y6r:Sig:=gS [sV [zt]] [rO tI]
def y6s:Sig:=gS [sV [zt]] [rO tB]
def y6t:Sig:=gS [sO zj] [rW zj]
def y6u:Sig:=gS [sV j6,sV j6] [rO tB]
def y6v:Sig:=gS [sO zj,sV j6] [rW zj]
def y6w:Sig:=gS [sO zj,sO zj] [rW zj]
def y6x:Sig:=gS [sV [zt]] [rW zj]
def y6y:Sig:=gS [sO tI,sO tI] [rO tI]
def y6z:Sig:=gS [sV j6] [rO tI]
def y6A:Sig:=gS [sV Vm,sO tI] [rO tB]
def y6B:Sig:=gS [sV Vm] [rW zj]
def y6C:Sig:=gS [sV Vm] [rO tB]
def y6D:Sig:=gS [sO yY,sO tI] [rO tI]
def y6E:Sig:=gS [sO yY] [rO tB]
def y6F:Sig:=gS [sO yL] [rO tB]
def y6G:Sig:=gS [sO yY,sO tI] [rW z4]
def y6H:Sig:=gS [sV Z1] [rO tB]
def y6I:Sig:=gS [sO yL,sO tI,sO tI] [rO tI,rO tB]
def y6J:Sig:=gS [sO yL] [rO tI]
def y6K:Sig:=gS [sV Z1] [rO tB]
def ygW:Sig:=gS [sV Z1] [rO tB]
def y6L:Sig:=gS [sV [zt]] [⟨true,[zt],[true]⟩]
def y6M:Sig:=gS [sV Vm] [⟨true,Vm,[true,true]⟩]
def y6N:Sig:=gS [sO yL] [rW yL]
def ygX:Sig:=gS [sV Z1] [⟨true,Z1,[true,true,true,true,true,false]⟩]
def y6O:Sig:=gS [sV Z1,sO tS] [rO tI]
def y6P:Sig:=gS [sV Z1,sO tS] [rO tI]
def y6Q:Sig:=gS [sO yY,sO tI,sO tI] [rW yY,rO tB]
def y6R:Sig:=gS [sO zT,sV AY] [rW zT]
def y6S:Sig:=gS [sV Z1,.v true Z1 [false,false,false,true,true,false],sO tB] [⟨true,Z1,[false,false,false,true,true,false]⟩,rO tI]
def ygY:Sig:=gS [sV Z1,sO tS,sO tI] [⟨true,Z1,[false,false,false,true,true,false]⟩,rO tI]
def ygZ:Sig:=gS [sV Z1,sO tS,sO tS,sO tB] [⟨true,Z1,[false,false,false,true,true,false]⟩,rO tI]
def y6T:Sig:=gS [sV Z1,sO tS] [rO tI]
def yg_:Sig:=gS [sV Z1,sO tS] [⟨true,Z1,[false,false,false,true,true,false]⟩,rO tI]
def y6U:Sig:=gS [sV Z1,sO tS,sO tI] [rO tI]
def y6V:Sig:=gS [sO yL,sO tI] [rW yL,rO tI,rO tB]
def y6W:Sig:=gS [sV Vm,sO tI,sO tI] [rO tI]
def y6X:Sig:=gS [sO zj,sO tI,sO tI] [rV j6,rO tB]
def y6Y:Sig:=gS [sV [zt],sO tI,sO tI] [rV j6,rO tB]
def y6Z:Sig:=gS [sV Vm,sO tI,sO tI] [rV j6,rO tB]
def y6_:Sig:=gS [sO zj] [⟨true,[zt],[true]⟩]
def y70:Sig:=gS [sV [zt],sV j6] [⟨true,[zt],[true]⟩,rO tB]
def y71:Sig:=⟨[.v true Vm [true,true],sO tI,sO z4,sO yW],[⟨true,Vm,[true,true]⟩],false,true⟩
def y72:Sig:=gS [sV Vm] [rO tI]
def y73:Sig:=gS [.v true Vm [true,true]] [⟨true,Vm,[true,true]⟩]
def y74:Sig:=gS [sV Vm,sV j6] [⟨true,Vm,[true,true]⟩,rO tB]
def y75:Sig:=gS [sO yL,sO tI] [rW yL]
def y76:Sig:=gS [.p none Z1 [false,false,false,true,true,false],sV j6,sO tB] []
def y77:Sig:=gS [.p none Z1 [false,false,false,true,true,false],sV j6] [rO tB]
def yh0:Sig:=gS [sV Z1,sO tS,sO tI,sO tI] [⟨true,Z1,[false,false,false,true,true,false]⟩,rO tI]
def y78:Sig:=gS [sO yY,sO tI] [rW z4]
def y79:Sig:=gS [sV Vm,sO tI] [rW zj]
def y7a:Sig:=gS [sO z4,sO tI] [rO tB]
def y7b:Sig:=gS [sV Vm,sO tI,sO z4] [rV j6,rO tB]
def y7c:Sig:=gS [sV Vm,sO yY,sO tI,sO tI] [rV j6,rO tB]
def y7d:Sig:=gS [.p none Z1 [false,false,false,true,true,false],sO tI,sO tI] [rO tB]
def yh1:Sig:=gS [sV Z1,sO tS,sO tI] [⟨true,Z1,[false,false,false,true,true,false]⟩,rO tI]
def yh2:Sig:=gS [sV Z1,sO tS,sO tI] [⟨true,Z1,[false,false,false,true,true,false]⟩,rO tI]
def y7e:Sig:=gS [sV Vm,sO yY,sO tI,sO tI] [rV j6,rO tB]
def y7f:Sig:=gS [sV Vm,sO yY,sV j6,sO tI] [rO tB]
def y7g:Sig:=gS [sV Z1,sV j6] [rO tB]
def y7h:Sig:=gS [sV Z1,sO tI] [rO tB]
def y7i:Sig:=gS [sV Z1,sO tI] [rO tI]
def y7j:Sig:=gS [sV Z1,sV j6] [rO tB]
def y7k:Sig:=gS [sV Z1,sO tI,sV j6] [rO tB]
def y7l:Sig:=gS [sV Z1,sO tI] [rO tB]
def y7m:Sig:=gS [sV Z1] [rO tI,rO tI]
def y7n:Sig:=gS [.p none Z1 [false,false,false,true,true,false],sV j6] [rO tB]
def y7o:Sig:=gS [sO yY,sO tI] [rW yY,rO tB]
def y7p:Sig:=gS [sV Z1] [⟨true,Z1,[false,false,false,true,true,false]⟩,rO tB]
def y7q:Sig:=gS [sV [zt]] [⟨true,[zt],[true]⟩]
def y7r:Sig:=gS [sV Vm,sO tI] [⟨true,Vm,[true,true]⟩]
def y7s:Sig:=gS [sV Z1,sO tI] [⟨true,Z1,[true,true,true,true,true,false]⟩,rO tB]
def y7t:Sig:=gS [sV Z1,sO tI] [rV j6]
def y7u:Sig:=gS [sV Z1,sO tI] [⟨true,Z1,[true,true,true,true,true,false]⟩,rO tB]
def yh3:Sig:=gS [sV Z1,sV qz9] [⟨true,Z1,[false,false,false,true,true,false]⟩,rO tB]
def yh4:Sig:=gS [sV Z1,sV qz9] [⟨true,Z1,[false,false,false,true,true,false]⟩,rO tI]
def y7v:Sig:=gS [sP gC,sO UR] [rO tS]
def y7w:Sig:=gS [sP gC] [rO tS]
def y7x:Sig:=gS [sP gC] [rO tI]
def y7y:Sig:=gS [sP gC] [rV qz9]
def y7z:Sig:=gS [] [⟨true,Vm,[true,true]⟩]
def y7A:Sig:=gS [] [rW yL]
def y7B:Sig:=gS [] [⟨true,Z1,[true,true,true,true,true,false]⟩]
def y7C:Sig:=gS [sP gC,sO tI] [⟨true,Z1,[false,false,false,true,true,false]⟩]
def y7D:Sig:=gS [sP gC] [rV j6]
def y7E:Sig:=gS [sP gC] [rV j6]
def y7F:Sig:=gS [sP gC,sO tI] [⟨true,Vm,[true,true]⟩]
def y7G:Sig:=gS [sP gC] [⟨true,[zt],[true]⟩]
def y7H:Sig:=gS [sP gC,sO tI] [rW zj]
def y7I:Sig:=gS [sP gC] [rV j6]
def y7J:Sig:=gS [sP gC,sO tI] [rW zj]
def y7K:Sig:=gS [sP gC] [⟨true,[zt],[true]⟩]
def y7L:Sig:=gS [sP gC,sO tI] [⟨true,Vm,[true,true]⟩]
def yh5:Sig:=gS [sP gC,sO tI] [rO tB]
def y7M:Sig:=gS [sP gC] [rW yY]
def y7N:Sig:=gS [sP gC] [rW yY]
def y7O:Sig:=gS [sP gC] [rW yL]
def y7P:Sig:=gS [sP gC] [rO yL]
def yh6:Sig:=gS [sP gC,sO tI] [⟨true,Z1,[false,false,false,false,true,false]⟩]
def yh7:Sig:=gS [sO yQ] [⟨true,Z1,[false,false,false,false,true,false]⟩]
def sg7:Sig:=gS [sO yQ] [⟨true,Z1,[false,false,false,false,true,false]⟩]
def y7Q:Sig:=gS [sV j6] [rO tB]
def y7R:Sig:=gS [sV j6,sV j6] [rO tB]
def y7S:Sig:=gS [sO zj] [rO tB]
def y7T:Sig:=gS [sV [zt]] [rO tB]
def y7U:Sig:=gS [sO tI,sO tI] [rO tI]
def y7V:Sig:=gS [sV Vm,sO tI] [rO tB]
def y7W:Sig:=gS [sO zj] [rW zj]
def y7X:Sig:=gS [sV j6,sV j6] [rO tB]
def y7Y:Sig:=gS [sO zj,sV j6] [rW zj]
def y7Z:Sig:=gS [sO zj,sO zj] [rW zj]
def y7_:Sig:=gS [sO zj] [rW zj]
def y80:Sig:=gS [sV [zt]] [rW zj]
def y81:Sig:=gS [sV Vm] [rO tB]
def y82:Sig:=gS [sV ybV,sP [tI]] [rO tB]
def Hr:Sig:=gS [sO yY,.p (some 271) [tI] [false]] [rO tI]
def y83:Sig:=gS [sO yY,sO tI] [rO tI]
def y84:Sig:=gS [sO yY] [rO tB]
def y85:Sig:=gS [sO tI] [rO tB]
def y86:Sig:=gS [sO yL] [rO tB]
def y87:Sig:=gS [sO tS] [rO tB]
def y88:Sig:=gS [sO yY,sO tI] [rW z4]
def y89:Sig:=gS [sV AY,sP AY] [rO tB]
def Hs:Sig:=gS [sO zT,.p (some 207) AY (nf 4)] [rO tI]
def Hu:Sig:=gS [sO zT,.p (some 207) AY (nf 4)] [rO tB]
def y8a:Sig:=gS [sV Z1] [rO tB]
def y8b:Sig:=gS [sV Vm] [rW zj]
def y8c:Sig:=gS [sO yL,sO tI,sO tI] [rO tI,rO tB]
def y8d:Sig:=gS [sO yL] [rO tI]
def y8e:Sig:=gS [sV Z1] [rO tB]
def yh8:Sig:=gS [sV Z1] [rO tB]
def yh9:Sig:=gS [sO zq] [rW yQ]
def yha:Sig:=gS [sO yQ,sO tI] [rW yQ]
def yhb:Sig:=gS [sO yQ,sO tS] [rW yQ]
def yhc:Sig:=gS [sO tB] [rO (.int .u8)]
def yhd:Sig:=gS [sO yQ,sV j6] [rW yQ]
def sg8:Sig:=gS [sV Z1] [rW yQ]
def sg9:Sig:=gS [sO yQ,sO tI] [rO tI]
def yhe:Sig:=gS [sO tI,sO tI] [rO tI]
def yhf:Sig:=gS [sV ik] [rO tB]
def yhg:Sig:=gS [sV ik] [⟨true,ik,[true,true,false,false]⟩]
def y8f:Sig:=gS [.v true ik [true,true,false,false]] [⟨true,ik,[true,true,false,false]⟩,rO tB]
def yhh:Sig:=gS [sV ik,sO tI,sO yQ] [⟨true,ik,[true,true,false,false]⟩]
def yhi:Sig:=gS [sV ik,sO tI,sO yQ] [⟨true,ik,[true,true,false,false]⟩]
def yhj:Sig:=gS [sO yQ] [rO tI]
def yhk:Sig:=gS [sV ik,sO tI] [rW yQ]
def yhl:Sig:=gS [sV ik,sV j6] [rW yQ,rO tB]
def yhm:Sig:=gS [sO tI] [⟨true,ik,[true,true,false,false]⟩]
def yhn:Sig:=gS [sP gC,sO tI] [rW yQ]
def y8g:Sig:=gS [.p none ik [true,true,false,false]] [rO tB]
def y8h:Sig:=gS [.p none ik [true,true,false,false],sO tI,sO yQ] []
def y8i:Sig:=gS [.p none ik [true,true,false,false]] []
def y8j:Sig:=gS [sP gC] [⟨true,ik,[true,true,false,false]⟩]
def yho:Sig:=gS [sP gC] [⟨true,ik,[true,true,false,false]⟩]
def yhp:Sig:=gS [sP gC] [rW yQ]
def yhq:Sig:=gS [sO yQ] [⟨true,ik,[true,true,false,false]⟩,rO tI,rW yQ]
def yhr:Sig:=gS [sV ik] [⟨true,ik,[true,true,false,false]⟩]
def yhs:Sig:=gS [sV ik] [rO tB]
def yht:Sig:=gS [sO tI,sO tI] [rO tI]
def yhu:Sig:=gS [.p none ik [true,true,false,false],sO tI,sO yQ] []
def yhv:Sig:=gS [sV ik,sO tI,sO yQ] [⟨true,ik,[true,true,false,false]⟩]
def yhw:Sig:=gS [sO yQ] [rO tI]
def yhx:Sig:=gS [sO yQ] [⟨true,ik,[true,true,false,false]⟩,rV j6]
def yhy:Sig:=gS [sV ik,sO tI] [rW yQ]
def yhz:Sig:=gS [sV ik,sV j6] [rW yQ,rO tB]
def y8k:Sig:=gS [sV j6] [rO tB]
def y8l:Sig:=gS [sO yQ,sO tI] [rW yQ]
def y8m:Sig:=gS [sO yQ,sO tI] [rW yQ]
def yhA:Sig:=gS [sV j6] [rW yQ]
def y8n:Sig:=gS [sO yQ,sO tS] [rW yQ]
def y8o:Sig:=gS [sO tB] [rO (.int .u8)]
def y8p:Sig:=gS [sO yQ,sV j6] [rW yQ]
def y8q:Sig:=gS [.v false [yQ] [true],sO zj] [rW yQ]
def y8r:Sig:=gS [sV Z1] [rW yQ]
def Hv:Sig:=gS [.p (some 1000000000) c6 [true,true,false,false,false,false,false,false,false,false,false,false,false]] [rO tB]
def Hw:Sig:=gS [.p (some 1000000000) c6 [true,true,false,false,false,false,false,false,false,false,false,false,false]] []
def Hx:Sig:=gS [.p (some 1000000000) c6 [true,true,false,false,false,false,false,false,false,false,false,false,false],sO tI,sO yQ] []
def Hy:Sig:=gS [.p (some 1000000000) c6 [true,true,false,false,false,false,false,false,false,false,false,false,false],sO tI,sO yQ] []
def y8s:Sig:=gS [.p none c6 [true,true,false,false,false,false,false,false,false,false,false,false,false]] []
def y8t:Sig:=gS [sV c6] [⟨true,c6,[true,true,false,false,true,true,true,true,true,false,false,false,false]⟩]
def y8u:Sig:=gS [sV c6] [rO tB]
def y8v:Sig:=gS [sV c6] [⟨true,c6,[true,true,false,false,false,false,false,false,false,false,false,false,false]⟩]
def y8w:Sig:=gS [] [⟨true,c6,[true,true,false,false,false,false,false,false,false,false,false,false,false]⟩]
def y8x:Sig:=gS [sV c6] [rO tB]
def y8y:Sig:=gS [sO tI] [rO tI]
def y8z:Sig:=gS [sV y66] [rO tB]
def y8A:Sig:=gS [sO yQ,sV qz9] [rW yQ]
def y8B:Sig:=gS [sV y66] [rW yQ]
def y8C:Sig:=gS [sV c6,sV qz9] [⟨true,c6,[true,true,false,false,false,false,false,false,false,false,false,false,false]⟩,rO tI]
def y8D:Sig:=gS [sP gC,.p none c6 [true,true,false,false,false,false,false,false,false,false,false,false,false]] []
def yhB:Sig:=gS [sP gC,sO tI] [⟨true,c6,[true,true,false,false,false,false,false,false,false,false,false,false,false]⟩]
def yhC:Sig:=gS [sV ik,sO tI] [⟨true,ik,[true,true,false,false]⟩]
def yhD:Sig:=gS [sP gC] [rV j6]
def yhE:Sig:=gS [sO yQ] [⟨true,ik,[true,true,false,false]⟩]
def y8E:Sig:=gS [sO yQ,sO tI] [rO tI,rO tI,rO tB]
def y8F:Sig:=gS [sP au] [rO tI]
def y8G:Sig:=gS [sP au] [rO tI]
def y8H:Sig:=gS [sP au] [rO tI]
def y8I:Sig:=gS [sP au] [rO tB]
def y8J:Sig:=gS [sV j6] [rO tB]
def yhF:Sig:=gS [sO yQ] [rV j6,rO tB]
def y8K:Sig:=gS [sO yQ,sO tI] [rO tS,rO tI,rO tB]
def y8L:Sig:=gS [sP au] [rO tS]
def y8M:Sig:=gS [sP au] [rO tB]
def y8N:Sig:=gS [sP au] [rV j6]
def y8O:Sig:=gS [sP au] [⟨true,[zt],[true]⟩]
def y8P:Sig:=gS [sP au] [⟨true,Z1,[true,true,true,true,true,false]⟩]
def y8Q:Sig:=gS [sO yQ,sO yQ] [rO tB]
def yhG:Sig:=gS [sO yQ] [⟨true,Z1,[true,true,true,true,true,false]⟩,rO tB]
def yhH:Sig:=gS [sV ik] [rV j6,rO yQ,rO tB]
def y8R:Sig:=gS [sO yQ,sO tI] [rO tI]
def y8S:Sig:=gS [sO yQ,sO tI] [rO tI,rO tI,rO tB]
def yhI:Sig:=gS [sO yQ] [rV j6,rO tB]
def y8T:Sig:=gS [sP au] [rO tI]
def y8U:Sig:=gS [sP au] [rO tI]
def y8V:Sig:=gS [sP au] [rO tB]
def y8W:Sig:=gS [sO yQ,sO tI] [rO tS,rO tI,rO tB]
def y8X:Sig:=gS [sP au] [rV AY]
def y8Y:Sig:=gS [sO yQ,sO tI] [rV j6,rO tI,rO tB]
def y8Z:Sig:=gS [sP au] [rW zj]
def y8_:Sig:=gS [sP au] [⟨true,[zt],[true]⟩]
def yhJ:Sig:=gS [sO yQ] [⟨true,Z1,[true,true,true,true,true,false]⟩,rO tB]
def yhK:Sig:=gS [sV ik] [rV j6,rO yQ,rO tB]
def yhL:Sig:=gS [sV ik,sV ik] [rO tB]
def sg3:Sig:=gS [sO yQ] [rO tB]
def yl8:List (Nat×Sig):=[(3,sg3),(5,sg5),(35,ygP),(6,sg6),(45,ygQ),(120,y6j),(51,ygR),(56,ygS),(49,ygT),(67,ygU),(169,y6k),(170,y6l),(171,y6m),(84,ygV),(303,y6n),(336,y6o),(348,y6p),(331,y6q),(332,y6r),(298,y6s),(306,y6t),(337,y6u),(307,y6v),(333,y6w),(299,y6x),(334,y6y),(300,y6z),(245,y6A),(246,y6B),(172,y6C),(247,y6D),(173,y6E),(174,y6F),(248,y6G),(175,y6H),(249,y6I),(250,y6J),(176,y6K),(85,ygW),(251,y6L),(177,y6M),(178,y6N),(86,ygX),(179,y6O),(180,y6P),(181,y6Q),(182,y6R),(183,y6S),(87,ygY),(88,ygZ),(184,y6T),(89,yg_),(185,y6U),(186,y6V),(301,y6W),(335,y6X),(302,y6Y),(252,y6Z),(308,y6_),(304,y70),(305,y71),(338,y72),(309,y73),(253,y74),(262,y75),(254,y76),(187,y77),(90,yh0),(310,y78),(339,y79),(340,y7a),(311,y7b),(255,y7c),(188,y7d),(91,yh1),(92,yh2),(351,y7e),(349,y7f),(341,y7g),(314,y7h),(258,y7i),(342,y7j),(312,y7k),(313,y7l),(256,y7m),(257,y7n),(259,y7o),(189,y7p),(315,y7q),(260,y7r),(190,y7s),(261,y7t),(191,y7u),(93,yh3),(28,yh4),(145,y7v),(111,y7w),(226,y7x),(146,y7y),(274,y7z),(275,y7A),(212,y7B),(141,y7C),(286,y7D),(283,y7E),(222,y7F),(284,y7G),(324,y7H),(325,y7I),(285,y7J),(223,y7K),(142,y7L),(47,yh5),(224,y7M),(143,y7N),(225,y7O),(144,y7P),(69,yh6),(36,yh7),(7,sg7),(117,y7Q),(318,y7R),(267,y7S),(201,y7T),(242,y7U),(202,y7V),(287,y7W),(330,y7X),(297,y7Y),(268,y7Z),(269,y7_),(203,y80),(112,y81),(271,y82),(100000,Hr),(204,y83),(113,y84),(152,y85),(114,y86),(153,y87),(205,y88),(207,y89),(100002,Hs),(100001,Hu),(115,y8a),(166,y8b),(208,y8c),(209,y8d),(116,y8e),(37,yh8),(44,yh9),(38,yha),(39,yhb),(40,yhc),(41,yhd),(8,sg8),(9,sg9),(14,yhe),(21,yhf),(42,yhg),(118,y8f),(43,yhh),(10,yhi),(11,yhj),(13,yhk),(12,yhl),(46,yhm),(60,yhn),(221,y8g),(140,y8h),(210,y8i),(119,y8j),(48,yho),(50,yhp),(15,yhq),(65,yhr),(66,yhs),(54,yht),(68,yhu),(23,yhv),(52,yhw),(16,yhx),(53,yhy),(17,yhz),(123,y8k),(124,y8l),(125,y8m),(58,yhA),(319,y8n),(320,y8o),(344,y8p),(321,y8q),(276,y8r),(100004,Hv),(100003,Hw),(100006,Hx),(100005,Hy),(213,y8s),(272,y8t),(273,y8u),(211,y8v),(121,y8w),(277,y8x),(278,y8y),(322,y8z),(323,y8A),(279,y8B),(214,y8C),(122,y8D),(55,yhB),(57,yhC),(59,yhD),(18,yhE),(215,y8E),(126,y8F),(127,y8G),(128,y8H),(129,y8I),(130,y8J),(61,yhF),(280,y8K),(216,y8L),(217,y8M),(281,y8N),(218,y8O),(131,y8P),(132,y8Q),(62,yhG),(19,yhH),(133,y8R),(134,y8S),(63,yhI),(136,y8T),(135,y8U),(138,y8V),(219,y8W),(137,y8X),(282,y8Y),(220,y8Z),(139,y8_),(64,yhJ),(20,yhK),(22,yhL)]
def yhM:List (Nat×(List Nat×List Nat)):=[
 (4500003,[0,3,4,13,14],[0,3]),
 (16900002,[0,3,17,18,19,20,21,22],[0,2]),
 (34800002,[0,3],[2]),
 (33100002,[0,3,19,20,21],[0,2,19,20,21]),
 (33200003,[1,3,4],[3]),
 (29800002,[1,3,19,20,21,22,23,24,25,32,33,34],[1,2,32,33,34]),
 (30600003,[0,3,4],[3]),
 (30700004,[0,3,5,6,7,18,19,20,21,22,23,24],[3,5,6]),
 (33300003,[1,5,6],[5]),
 (29900003,[1,3,4],[3]),
 (24500005,[1,2,5,6,61,62,63,64,65,66,67,68,69,70,71,72,73,74,75,76],[4]),
 (24500008,[1,2,5,6,7,61,62,63,64,65,66,67,68,69,70,71,72,73,74,75,76],[1,2,4,5,6,61,62,63,64,65,66,67,68,69,70,71,72,73,74,75,76]),
 (24600003,[1,3,4],[3]),
 (17200004,[1,3,35,36,37,38,39,40,41,42,43,44,45,46,49,50,51,52],[1,2]),
 (24700002,[0,1,5],[4]),
 (17300002,[0,3,18,19,20,21,22,23,24,25,26,27,28,29,30,31,32,33,42,43,44,45,46,47,48,49,50,51],[0,2]),
 (17400002,[0,3,18,19,20,21,22,23,24,27,28,29,30,31,32,33,34,35,36,37,38,39,40],[0,2]),
 (24800003,[0,1,5,6,22,23],[5]),
 (17500002,[1,3,23,24,25,26,29,30,31,32,33,34,37,38,39,40,41,42,43,46,47,48,49,50,51,52,53,54,55,56,57,58,59],[1,2]),
 (17500008,[1,3,4,5,23,24,25,26,29,30,31,32,33,34,37,38,39,40,41,42,43,46,47,48,49,50,51,52,53,54,55,56,57,58,59],[1,2,3,23,24,25,26,29,30,31,32,33,34,37,38,39,40,41,42,43,46,47,48,49,50,51,52,53,54,55,56,57,58,59]),
 (25000003,[0,3,4],[3]),
 (17600004,[1,3,4,5,65,66,67,68,69,70,71,72,73,74,75],[1,2,4]),
 (17600014,[1,3,4,5,8,65,66,67,68,69,70,71,72,73,74,75],[1,2,3,4,5,65,66,67,68,69,70,71,72,73,74,75]),
 (8500002,[1,3,24,25,26,29,30,31,34,35,36,39,40,43,44],[1,2,24,25,26,29,30,31,34,35,36,39,40,43,44]),
 (25100003,[1,2,3,4],[2,3]),
 (17700003,[1,2,3,4],[2,3]),
 (18000002,[1,2,5],[4]),
 (18100004,[0,1,2,8,9,10,25,26,27,28,29,30,31,59,60,61],[0,1,2,8,9,59,60,61]),
 (18200003,[3,5,6,19,20,21,22,23,24,25,26,27],[3,5,6]),
 (18600003,[0,1,7,8,16,17,20,21],[4,5,6,7]),
 (30100003,[1,2,3,7,8],[7]),
 (33500002,[0,1,2,6,8,23,24,25,26,27,28,29],[6,7]),
 (30200002,[1,2,3,6,8,32,33,34],[6,7]),
 (33800002,[1,3],[2]),
 (30900002,[1,2,3],[1,2]),
 (31000003,[0,5,6,14,15,16,17,18],[5]),
 (33900004,[1,5,6,7],[5]),
 (34000002,[0,1,5],[4]),
 (31100005,[2,6,8,9,10,11,30,31,32,33,34,35,36,37,38,39,40,41],[6,8,9]),
 (9200010,[2,3,6,8,10,11,12,43],[2,3,6,8,10,11]),
 (34100002,[2,3,5,23,24,25,26,27,28,29,30,31,32,33,34],[4]),
 (31400002,[1,2,5],[4]),
 (31300003,[1,2,5,6,27,28,29,30,31,32],[1,2,4,27,28,29,30,31,32]),
 (25600005,[1,4,5],[1,2,3]),
 (25600008,[1,4,5,6],[1,2,3,4,5]),
 (25600013,[1,7],[2,3]),
 (25900006,[0,1,6,7,8],[7]),
 (26100003,[1,4,5,6,23,24,25,26,27,28,29],[4]),
 (14100003,[0,4,5,6],[0,4,5]),
 (22200003,[0,4,5,6],[0,4,5]),
 (28400003,[0,2,3,4],[0,2,3]),
 (32400003,[0,5,6],[0,5]),
 (22400003,[0,3,4,17,18,19],[0,3]),
 (14300010,[0,3,4],[0,3]),
 (22500003,[0,3,4],[0,3]),
 (3600004,[2,3,4,5],[2,4]),
 (26700002,[0,5,6,7,16,17,18,19,20,21,22,23,24,25,26,27],[0,2]),
 (20100003,[1,3,7,8,9,17,18,19,31,32],[1,2,3,31,32]),
 (20200002,[1,2,15,16,17,40,41,42,43,44,45,46,47,48,49,50,51,52,53,54,55],[4]),
 (20200005,[1,2,15,16,17,21,22,23,40,41,42,43,44,45,46,47,48,49,50,51,52,53,54,55],[1,2,4,15,16,17,40,41,42,43,44,45,46,47,48,49,50,51,52,53,54,55]),
 (29700004,[3,5,6,10,11,12,19,20,21,22],[3,5,6]),
 (26800003,[5,10,11,12],[5]),
 (26900003,[3,7,8,9],[3]),
 (20300003,[3,8,9,10],[3]),
 (11200005,[1,3,29,30,31,39,40,41,42,43,44,45,46,47,48,49,50,53,54,55,58,59,60,61,69,70],[2,3]),
 (10000000002,[0,1,7,8],[1,4]),
 (11300002,[0,5,6,7,17,18,19,20,21,22,23,24,25,26,27,28,29,32,33,34,35,36,37,38,39,40,41,42,43],[0,2]),
 (11400002,[0,5,6,7,16,17,18,19,22,23,24,25,26,27,28,29],[0,2]),
 (15300002,[0,3,17,18,19,20,21,22],[0,2]),
 (20500005,[1,5,12,13,14],[5]),
 (10000200002,[0,1,7,8],[1,4]),
 (11500002,[1,6,7,8,18,19,20,21,22,23,24,25,26,27,28,29,30,31,34,35,36,37,46,47,48,49,50,51,52],[1,2]),
 (16600003,[3,8,9,10],[3]),
 (20900003,[3,6,7,8],[3]),
 (11600004,[1,3,4,12,13,14,40,41,42,43,44],[1,2,4]),
 (3700004,[1,28,29,30,43,44],[1,2,43,44]),
 (4400003,[3,7,8,9],[3]),
 (800005,[1,3,29,30,31],[1,3]),
 (800011,[1,3,53,54,55],[1,3]),
 (800016,[1,3,76,77,78],[1,3]),
 (800022,[1,3,105,106,107],[3]),
 (800026,[1,3,105,106,107,127,128,129],[1,3,105,106,107]),
 (800030,[1,3,105,106,107,127,128,129,139,140,141],[1,3,105,106,107,127,128,129]),
 (2100004,[1,25,26,27,51,52,53,54],[1,2,51,52,53,54]),
 (2100010,[1,36,37,38,51,52,53,54],[2]),
 (4200003,[1,2,3,14,15,16],[1,2,3]),
 (4200008,[2,3,30,31,32],[2,3]),
 (1000005,[1,2,6,7,8],[6,7]),
 (1100003,[3,7,8,9],[3]),
 (1100007,[3,7,8,9,17],[3,7,8,9]),
 (1300004,[1,2,5],[1,2,4]),
 (1200003,[2,3,6,7,12,13,14,15,16,35,36,37,38,39,40,41,42],[3,6,35,36,37,38,39,40,41,42]),
 (4600005,[0,2,3,4],[2,3]),
 (6000003,[0,1,5,6],[0,5]),
 (21000002,[0,2],[0]),
 (11900003,[0,2,3,4],[0,2,3]),
 (4800008,[0,2,3],[0,2,3]),
 (6500003,[1,2,3,4],[1,2,3]),
 (6500007,[1,2,3,5],[2,3]),
 (6600002,[1,3,39,40,41,42,43,44,45,46,53,54,55,56,59,60,61],[1,2,39,40,41,42,43,44,45,46,53,54,55,56,59,60,61]),
 (6600007,[1,4,39,40,41,42,43,44,45,46,53,54,55,56,59,60,61],[1,2,53,54,55,56,59,60,61]),
 (6800001,[0,1,2,6],[0]),
 (5200003,[0,3,4],[3]),
 (5200007,[0,3,4,5],[0,3,4]),
 (5300005,[1,2,5,6],[5]),
 (1700003,[2,3,6,7,12,13,14,15,16,32,33,34,35,36,39,40,41,42,43,44,45,46],[3,6,32,33,34,35,36,39,40,41,42,43,44,45,46]),
 (32100003,[0,1,5],[0]),
 (27600006,[1,3,4],[1,3]),
 (27600011,[1,3,5],[1,3]),
 (27600016,[1,3,7],[1,3]),
 (27600021,[1,3,8],[3]),
 (27600025,[1,3,8,9],[1,3,8]),
 (10000300002,[0,2],[0]),
 (10000500001,[0,1,2,6],[0]),
 (5500003,[0,4,5,6],[0,4,5]),
 (5700007,[1,4,5,6,22,23],[4,5]),
 (21800004,[0,2,3,11,12],[0,2,3]),
 (21800008,[0,2,3,5,11,12,17,18],[0,2,3,5,11,12]),
 (13100005,[0,2,3,18,19],[0,2,3]),
 (13100013,[0,2,3,37,38],[0,2,3]),
 (13100022,[0,2,3,60],[0,2,3]),
 (13100031,[0,2,3,81,82],[0,2,3]),
 (1900004,[1,2,5,6,16,29,30,31,32,33,36,37,38,39,40,55],[2,5,6]),
 (22000003,[0,3,4,14,15,16,17,18],[0,2,3]),
 (13900003,[0,2,3,4,12,13,14,15,16],[0,2,3]),
 (6400004,[0,2,4,5,6,26,27,28,29,30,51,52,53,54,55,70,71,72,73,74,98,99,100,101,102,131,132,133,134,135,136,137,140,141,142],[0,2,4,5,51,52,53,54,55,70,71,72,73,74,98,99,100,101,102,131,132,133,134,135,136,137,140,141,142]),
 (6400010,[0,2,4,5,8,51,52,53,54,55,70,71,72,73,74,98,99,100,101,102,131,132,133,134,135,136,137,140,141,142],[0,2,4,5,70,71,72,73,74,98,99,100,101,102,131,132,133,134,135,136,137,140,141,142]),
 (6400015,[0,2,4,5,10,70,71,72,73,74,98,99,100,101,102,131,132,133,134,135,136,137,140,141,142],[0,2,4,5,98,99,100,101,102,131,132,133,134,135,136,137,140,141,142]),
 (6400022,[0,2,4,5,12,98,99,100,101,102,131,132,133,134,135,136,137,140,141,142],[0,2,4,5,131,132,133,134,135,136,137,140,141,142]),
 (2000005,[1,2,5,6,7,8,31,32,33,34,35,38,39,40,41,42,43,44,45,60],[2,5,6,7]),
 (2200004,[2,3,5,78,79,80,81,82,83,84,85,86,87,88,89,90,91,92],[2,3,4,78,79,80,81,82,83,84,85,86,87,88,89,90,91,92]),
 (2200009,[2,3,6,78,79,80,81,82,83,84,85,86,87,88,89,90,91,92],[4]),
 (300011,[0,5,6,7,9,10,11,105,106,107,108,109,112,113,116,117,118,119,120,121,122,123,124,127,128,129,132,133,134,135,136,139,140,141,144,145,146,149,150,151,152,153],[0,2,5,7,9,10,105,106,107,108,109,112,113,116,117,118,119,120,121,122,123,124,127,128,129,132,133,134,135,136,139,140,141,144,145,146,149,150,151,152,153])]
def yhN:List (Nat×List Nat×Nat):=[(270,[271],100000),(206,[207],100001),(228,[207],100002),(210,[2001300000],100003),(221,[2001300000],100004),(68,[2001300000],100005),(140,[2001300000],100006)]
def yhO:List (Nat×List Nat):=[(251,[22]),(177,[25]),(309,[2000000000006000001,2000000000007000001,1000033000000027,1000046000000041,1000048000000025,49,1000049000049000,1000050000000046]),(253,[2000000000010000011,49,1000037000999999,1000049000038000,1000050000000047,1000050000000049,1000082000999999,1000086000999999,87,1000087000083000,1000087000087000]),(90,[60]),(255,[21]),(141,[1000019000000900]),(222,[1000019000000900]),(284,[1000015000000900]),(223,[1000013000000900,14,1000014000014000,1000022000000900,1000025000000900,27,1000027000000023,1000027000000026]),(142,[1000019000000900,1000022000000021,1000022000000900,1000029000000900,30,1000030000030000,1000041000000900,1000043000000900]),(69,[1000032000000031,1000032000000900,1000034000000900,1000038000000037,1000038000000900,1000057000000900,1000069000000900]),(36,[1000022000008500]),(42,[25,45]),(43,[52]),(12,[100047,200038]),(140,[49]),(48,[1000013000000900,1000023000000022,1000023000000900,1000025000000900,27,1000027000026000,1000036000000900]),(15,[1000021000000020,1000021000009500,1000023000009500]),(65,[27,54]),(68,[33]),(16,[1000002000000002]),(17,[42]),(100006,[49]),(100005,[33]),(213,[39,52]),(214,[70]),(122,[1000013000000900,1000014000000953,1000014000000954]),(18,[1000015000008500,1000016000012000,1000016000012001,1000024000008500,1000026000008500,1000034000008500,1000037000008500]),(131,[100012]),(62,[100007,100026]),(19,[1000002000000002]),(64,[100016,100020,100144])]
def C:Ctx:= {info:=xR y6i,sig:=xR yl8,live:=fun f i=>xR yhM (100000*f+i),key:=ZN yhN,fid:=y5i yhN,hint:=U0 yhO}
theorem tok:Jl C Tryz.prog:=ybQ (l:=y6i) rfl (by kernel_rfl)
theorem mixed:Tryz.prog.follows .mixedOrders=true:=by kernel_rfl
abbrev QF:=Qf C Tryz.prog
abbrev LF (l:List QF) (lp:Lp) (n i:Nat) (fn:Func) (k:Nat) {T V:Type} (e:T→St) (g:Gk T) (inj:V→T):Prop:=LC C (EY l) lp n i (cL fn k) e g inj
abbrev LK (l:List QF) (lp:Lp) (n:Nat) (fn:Func) (k:Nat):Prop:=gz C (EY l) lp n (cL fn k)
def qN (f:Nat) (F:Elts (C.ins f)→Option (Elts (C.outs f))) (sg:Sig) (n:Nat) (l:List QF) (lp:Lp) {g:Nat} {fn:Func} (hfn:Tryz.prog.funcs[g]? =some fn) (hl:UM (gz C (EY l) lp f) (jm (q_ fn)) n 0) (hF: ∀ x,NP C (EY l) lp f fn (q_ fn) sg (C.ins f) (C.outs f) x=F x:=by intro x;kernel_rfl) (hsig:C.sig f=some sg:=by kernel_rfl) (hB:fnB C f g fn sg n=true:=by kernel_rfl):QF:=⟨f,F,y5s tok mixed hfn hsig hB hl hF⟩
def q0 (f:Nat) (F:Elts (C.ins f)→Option (Elts (C.outs f))) (sg:Sig) (l:List QF) {g:Nat} {fn:Func} (hfn:Tryz.prog.funcs[g]? =some fn) (hF: ∀ x,NP C (EY l) ZM f fn (q_ fn) sg (C.ins f) (C.outs f) x=F x:=by intro x;kernel_rfl) (hsig:C.sig f=some sg:=by kernel_rfl) (hB:fnB C f g fn sg 0=true:=by kernel_rfl):QF:=⟨f,F,y5s tok mixed hfn hsig hB trivial hF⟩
theorem Zm {l:List QF} {lp:Lp} {f:Nat} {c:Code} {ts:List Ty} (i:Nat) (e:Elts ts→St) (g:Gk (Elts ts)) (hc:LC C (EY l) lp f i c e @g (fun t=>t):=by intro R κ again t;kernel_rfl) (hv: ∀ t,(e t).vals=toL ts t:=by intro t;kernel_rfl) (hl:laB C f i c=true:=by kernel_rfl) (hb:LB lp i (zR ts e) @g:=by intro R κ s;kernel_rfl):gz C (EY l) lp f c:=Hf hl (Y3 hv) hb hc
theorem Gc {call:C.Sem} {lp:Lp} {f i:Nat} {c:Code} {T:Type} {e:T→St} {u:St→Option T} {g:Gk T} (hu: ∀ s t,u s=some t→e t=s) (hc:LC C call lp f i c e @g (fun t=>t)) (hl:laB C f i c=true:=by kernel_rfl) (hb:LB lp i u @g:=by intro R κ s;kernel_rfl):gz C call lp f c:=Hf hl hu hb hc
end Go.Proofs.YtekbnpmmjciloaaGreat.XB
