/- What functions compute, and that they do; part 0 of B; by a program (dec.py). No condition. -/
import Derived.Test.YtekbnpmmjciloaaGreatXB
import Derived.Test.YtekbnpmmjciloaaGreatRB
set_option linter.all false
namespace Go.Proofs.YtekbnpmmjciloaaGreat.XB
open Go.Proofs.YtekbnpmmjciloaaGreat.R
set_option maxRecDepth 100000
noncomputable section
variable {R:Type}
def od (x:List yn):Option Bool:=nz (yh (decide (x.z>1048576)))
def q5:=q0 5 od sg5 [] Tryz.func5
def yI (x:Qz0):Option Bool:=nz (KA (decide (x.1≥x.b)) (decide (x.1≤x.C)) fun r=>yh r)
def Hz:=q0 35 yI ygP [] Tryz.func35
def QA (x:Int):Option uV:=nz (ye (yI (x,1,60)) fun r=>zw (!r) (yh (([]:List y8),([]:List yw),0,false)) (if 0≤x then if x≤x then if x*((24:Nat):Int)≤140737488351232 then yh (List.replicate x.toNat lS,([]:List yw),-1,false) else none else none else none))
def q6:=q0 6 QA sg6 [Hz] Tryz.func6
abbrev cV:Type:=Co
def Vx (k0:TW→Option R) (a:cV→Option R) (x:cV):Option R:=nz (KA (decide (x.C<x.1.z)) (decide (x.C<4000)) fun r=>zw r (z6 x.1 x.C (a (x.1,Go.bits .and .i64 (JP (JP (dP x.b 137) (fY (wP x.1 x.C))) 11) 1073741823,zh x.C))) (k0 (x.1,x.b)))
def B0 k0:=iter (@Vx R k0) FUEL
def kX (x:List yn):Option Co:=nz (B0 (fun r=>yh (r.1,0,r.2)) (x,JP 941941 x.z,0))
def yhQ:List QF:=[]
def Pg (t:Elts gC):St:=nd (stP gC [.v 1,.d 2,.v 2,.d 27] [] t)
def y90:Gk cV:=fun κ=>nd (Vx (zM κ (some 0) qz3 [.v 1,.d 2,.v 1,.d 28] []))
def yhR:Lp:=YT 3 (zR gC Pg) @y90 ZM
theorem yhS:LK yhQ yhR 45 Tryz.f45 0:=Zm 3 Pg @y90
def q45:=qN 45 kX ygQ 1 yhQ yhR Tryz.func45 ⟨yhS,trivial⟩
def jt (x:Co):Option Qz4:=nz (Z0 x.b x.1.z (z6 x.1 x.b (yh (Go.bits .and .i64 (JP (Go.bits .and .i64 (Go.bits .xor .i64 (Int.fdiv (JP (dP x.C 6364136223846793005) 1442695040888963407) (2^min (Int.toNat 33) (Go.IntKind.bits .i64))) (Int.fdiv (JP (dP x.C 6364136223846793005) 1442695040888963407) (2^min (Int.toNat 47) (Go.IntKind.bits .i64)))) 255) (fY (wP x.1 x.b))) 255,x.1,zh x.b,JP (dP x.C 6364136223846793005) 1442695040888963407))) (yh (Go.bits .and .i64 (Go.bits .xor .i64 (Int.fdiv (JP (dP x.C 6364136223846793005) 1442695040888963407) (2^min (Int.toNat 33) (Go.IntKind.bits .i64))) (Int.fdiv (JP (dP x.C 6364136223846793005) 1442695040888963407) (2^min (Int.toNat 47) (Go.IntKind.bits .i64)))) 255,x.1,x.b,JP (dP x.C 6364136223846793005) 1442695040888963407)))
def yhT:=q0 120 jt y6j [] Tryz.func120
def yd (x:US):Option Qz4:=nz (zle x.D 0 (yh (0,x.1,x.b,x.c)) (zle x.D 256 (ye (jt (x.1,x.b,x.c)) fun r=>if x.D=0 then none else yh (Int.tmod r.1 x.D,kl r.2)) (ye (jt (x.1,x.b,x.c)) fun s=>ye (jt s.2) fun t=>ye (jt t.2) fun u=>if x.D=0 then none else yh (Int.tmod (JP (JP (dP s.1 65536) (dP t.1 256)) u.1) x.D,kl u.2))))
def pd:=q0 51 yd ygR [yhT] Tryz.func51
def KH (x:TW):Option Int:=nz (nC (JP 3 (fY (Int.tdiv x.1.z 12))) x.2 (yh x.2) (yh (JP 3 (fY (Int.tdiv x.1.z 12)))))
def q56:=q0 56 KH ygS [] Tryz.func56
def yE (x:Qz6):Option Qz4:=nz (ye (yd (wX x x.D.z)) fun r=>z6 x.D r.1 (yh (Y4 x.D r.1,kl r.2)))
def SO:=q0 49 yE ygT [pd] Tryz.func49
def yx (x:Qz0):Option Bool:=nz (KA (decide (x.1≥x.b)) (decide (x.1≤x.C)) fun r=>yh r)
def mI:=q0 67 yx ygU [] Tryz.func67
abbrev aO:Type:=Qz7
def aP (k0:Qz8→Option R) (k1:ByteArray→Option R) (a:aO→Option R) (x:aO):Option R:=nz (Z0 x.2 ((ByteArray.size x.1:Nat):Int) (if 0≤x.2 then if r:x.2.toNat<ByteArray.size x.1 then ye (yx (fY ((UInt8.toNat (ByteArray.get x.1 x.2.toNat r):Nat):Int),97,122)) fun s=>WM (!s) (if 0≤x.2 then if t:x.2.toNat<ByteArray.size x.1 then ye (yx (fY ((UInt8.toNat (ByteArray.get x.1 x.2.toNat t):Nat):Int),48,57)) fun u=>yh (!u) else none else none) fun v=>zw v (k0 (x.1,false)) (a (x.1,zh x.2)) else none else none) (k1 x.1))
def im k0 k1:=iter (@aP R k0 k1) FUEL
def ZB (x:ByteArray):Option Bool:=nz (im (fun r=>yh r.2) (fun s=>ye (yx (((ByteArray.size s:Nat):Int),1,6)) fun t=>yh t) (x,0))
def y91:List QF:=[mI]
def HA (t:Elts qz7):St:=nd (stP qz7 [.v 1,.d 2,.v 1,.d 23] [] t)
def XP:Gk aO:=fun κ=>nd (aP (zM κ none qz8 [.v 1,.d 1,.v 1,.d 24] []) (zM κ (some 0) [tS] [.v 1,.d 26] []))
def y92:Lp:=YT 2 (zR qz7 HA) @XP ZM
theorem ycm:LK y91 y92 169 Tryz.f169 0:=Zm 2 HA @XP
def y3C:=qN 169 ZB y6k 1 y91 y92 Tryz.func169 ⟨ycm,trivial⟩
def Y5 (x:Int):Option Bool:=nz (ye (yx (x,0,65535)) fun r=>yh r)
def y3D:=q0 170 Y5 y6l [mI] Tryz.func170
def jP (x:Qz9):Option Bool:=nz (ZE x.1 2 (WM (x.d==0) (ye (yx (x.E,0,1)) fun r=>yh r) fun s=>yh s) (ZE x.1 3 (ZE x.1 3 (KA (x.d==0) (x.E==0) fun t=>yh t) (zOr (x.1==4) (x.E==0))) (ZE x.1 7 (KA (x.d==0) (x.E==0) fun u=>yh u) (zOr (x.1==4) (x.E==0)))))
def yl9:=q0 171 jP y6m [mI] Tryz.func171
def kq (x:Qz9):Option Bool:=nz (ye (ZB x.b) fun r=>zge x.1 7 (ZE x.1 2 (ye (ZB x.c) fun s=>ye (yx (x.1,1,9)) fun t=>KA t (x.b.toList==ByteArray.toList ({data:= #[]})) fun u=>KA u s fun v=>WM v (ye (Y5 x.d) fun w=>yh w) fun p=>WM p (ye (Y5 x.E) fun q=>yh q) fun m=>WM m (ye (jP x) fun n=>yh n) fun o=>yh o) (ye (yx (x.1,1,9)) fun e=>KA e (x.b.toList==ByteArray.toList ({data:= #[]})) fun f=>KA f (x.c.toList==ByteArray.toList ({data:= #[]})) fun g=>WM g (ye (Y5 x.d) fun h=>yh h) fun i=>WM i (ye (Y5 x.E) fun j=>yh j) fun l=>WM l (ye (jP x) fun y=>yh y) fun z=>yh z)) (ZE x.1 2 (ye (ZB x.c) fun b=>ye (yx (x.1,1,9)) fun c=>KA c r fun d=>KA d b fun R=>WM R (ye (Y5 x.d) fun A=>yh A) fun B=>WM B (ye (Y5 x.E) fun C=>yh C) fun D=>WM D (ye (jP x) fun E=>yh E) fun G=>yh G) (ye (yx (x.1,1,9)) fun H=>KA H r fun I=>KA I (x.c.toList==ByteArray.toList ({data:= #[]})) fun J=>WM J (ye (Y5 x.d) fun K=>yh K) fun L=>WM L (ye (Y5 x.E) fun M=>yh M) fun N=>WM N (ye (jP x) fun O=>yh O) fun P=>yh P)))
def q84:=q0 84 kq ygV [mI,y3C,y3D,yl9] Tryz.func84
def wY (x:AX):Option Bool:=nz (ye (yx (x.1,0,15)) fun r=>wM (!r) (ye (yx (x.b,1,60)) fun s=>yh (!s)) fun t=>wM t (ye (yx (x.c,0,2)) fun u=>yh (!u)) fun v=>zw v (yh false) (ZE x.c 1 (ye (yx (x.d,0,23)) fun w=>WM w (ye (yx (x.E,0,999)) fun p=>yh p) fun q=>yh q) (KA (x.d==0) (x.E==0) fun m=>yh m)))
def y3E:=q0 303 wY y6n [mI] Tryz.func303
def kr (x:y3f):Option Bool:=nz (zw (x.1 !=x.f) (yh (decide (x.1<x.f))) (yh (decide (x.b<x.g))))
def yhU:=q0 336 kr y6o [] Tryz.func336
abbrev Q0:Type:=yeF
def wa (k0:Bool→Option R) (k1:Unit→Option R) (a:Q0→Option R) (x:Q0):Option R:=nz (Z0 x.2 x.1.z (z6 x.1 (jE x.2) (z6 x.1 x.2 (ye (kr (uk (yy x.1 (jE x.2)) (gD (yy x.1 x.2)))) fun r=>zw (!r) (k0 false) (a (x.1,zh x.2))))) (k1 ()))
def fC k0 k1:=iter (@wa R k0 k1) FUEL
def Vy (x:List y7):Option Bool:=nz (fC (fun r=>yh r) (fun s=>yh true) (x,1))
def y93:List QF:=[yhU]
def HB (t:Elts SH):St:=nd (stP SH [.v 1,.d 2,.v 1,.d 17] [] t)
def XQ:Gk Q0:=fun κ=>nd (wa (zM κ none [tB] [.d 2,.v 1,.d 18] []) (zM κ (some 0) [] [.d 21] []))
def y94:Lp:=YT 2 (zR SH HB) @XQ ZM
theorem ycn:LK y93 y94 348 Tryz.f348 0:=Zm 2 HB @XQ
def yla:=qN 348 Vy y6p 1 y93 y94 Tryz.func348 ⟨ycn,trivial⟩
abbrev cW:Type:=yeF
def kt (k0:yeG→Option R) (k1:List y7→Option R) (a:cW→Option R) (x:cW):Option R:=nz (Z0 x.2 x.1.z (z6 x.1 x.2 (ye (wY (gD (yy x.1 x.2))) fun r=>zw (!r) (k0 (x.1,false)) (a (x.1,zh x.2)))) (k1 x.1))
def lT k0 k1:=iter (@kt R k0 k1) FUEL
def cf (x:List y7):Option Bool:=nz (lT (fun r=>yh r.2) (fun s=>ye (Vy s) fun t=>KA t (decide (s.z≤60)) fun u=>yh u) (x,0))
def y95:List QF:=[y3E,yla]
def HC (t:Elts SH):St:=nd (stP SH [.v 1,.d 2,.v 1,.d 19] [] t)
def XR:Gk cW:=fun κ=>nd (kt (zM κ none yeH [.v 1,.d 1,.v 1,.d 20] []) (zM κ (some 0) [zj] [.v 1,.d 22] []))
def y96:Lp:=YT 2 (zR SH HC) @XR ZM
theorem yco:LK y95 y96 331 Tryz.f331 0:=Zm 2 HC @XR
def ylb:=qN 331 cf y6q 1 y95 y96 Tryz.func331 ⟨yco,trivial⟩
abbrev Q1:Type:=ykf
def wb (k0:Int→Option R) (a:Q1→Option R) (x:Q1):Option R:=nz (Z0 x.b x.C.z (z6 x.C x.b (a (JP x.1 ((yK x.C x.b).z),zh x.b,x.C))) (k0 x.1))
def fD k0:=iter (@wb R k0) FUEL
def Vz (x:List yc):Option Int:=nz (fD (fun r=>yh r) (0,0,x))
def y97:List QF:=[]
def HD (t:Elts ybS):St:=nd (stP ybS [.d 1,.b 1,.d 1,.v 2,.d 16] [(1,[.v 1])] t)
def XS:Gk Q1:=fun κ=>nd (wb (zM κ (some 0) [tI] [.d 3,.v 1,.d 17] []))
def y98:Lp:=YT 3 (zR ybS HD) @XS ZM
theorem ycp:LK y97 y98 332 Tryz.f332 0:=Zm 3 HD @XS
def ylc:=qN 332 Vz y6r 1 y97 y98 Tryz.func332 ⟨ycp,trivial⟩
abbrev aQ:Type:=SJ
def Wi (k0:ykg→Option R) (k1:List yc→Option R) (a:aQ→Option R) (x:aQ):Option R:=nz (Z0 x.1 x.2.z (z6 x.2 x.1 (ye (cf (yK x.2 x.1)) fun r=>wM (!r) (z6 x.2 x.1 (yh ((yK x.2 x.1).z==0))) fun s=>zw s (k0 (false,x.2)) (a (zh x.1,x.2)))) (k1 x.2))
def io k0 k1:=iter (@Wi R k0 k1) FUEL
def Y6 (x:List yc):Option Bool:=nz (io (fun r=>yh r.1) (fun s=>WM (decide (s.z≤3)) (ye (Vz s) fun t=>yh (decide (t≤8))) fun u=>yh u) (0,x))
def y99:List QF:=[ylb,ylc]
def HE (t:Elts Hk):St:=nd (stP Hk [.d 1,.b 1,.d 1,.v 1,.d 32] [(1,[.v 1])] t)
def XT:Gk aQ:=fun κ=>nd (Wi (zM κ none ykh [.d 1,.b 1,.v 1,.d 33] [(1,[.v 1])]) (zM κ (some 0) [zt] [.d 1,.b 1,.d 34] [(1,[.v 1])]))
def y9a:Lp:=YT 2 (zR Hk HE) @XT ZM
theorem ycq:LK y99 y9a 298 Tryz.f298 0:=Zm 2 HE @XT
def yhV:=qN 298 Y6 y6s 1 y99 y9a Tryz.func298 ⟨ycq,trivial⟩
abbrev f7:Type:=yeI
def KI (k0:List y7→Option R) (a:f7→Option R) (x:f7):Option R:=nz (Z0 x.b x.1.z (z6 x.1 x.b (Mg ((yy x.1 x.b).c) 0 (z6 x.1 x.b (YS x.C ([gD (yy x.1 x.b)]:List y7) 40 (a (x.1,zh x.b,x.C++([gD (yy x.1 x.b)]:List y7))))) (a (x.1,zh x.b,x.C)))) (k0 x.C))
def nD k0:=iter (@KI R k0) FUEL
def Z5 (x:List y7):Option (List y7):=nz (nD (fun r=>yh r) (x,0,([]:List y7)))
def y9b:List QF:=[]
def HF (t:Elts SK):St:=nd (stP SK [.v 1,.d 2,.o 10000000,.v 1,.d 21] [(10000000,[])] t)
def XU:Gk f7:=fun κ=>nd (KI (zM κ (some 0) [zj] [.d 3,.o 10000000,.d 22] [(10000000,[])]))
def y9c:Lp:=YT 3 (zR SK HF) @XU ZM
theorem ycr:LK y9b y9c 306 Tryz.f306 0:=Zm 3 HF @XU
def ycs:=qN 306 Z5 y6t 1 y9b y9c Tryz.func306 ⟨ycr,trivial⟩
def Wj (x:y3f):Option Bool:=nz (KA (x.1==x.f) (x.b==x.g) fun r=>yh r)
def yld:=q0 337 Wj y6u [] Tryz.func337
abbrev vb:Type:=yki
def j7 (k0:yeJ→Option R) (a:vb→Option R) (x:vb):Option R:=nz (Z0 x.c x.1.z (WM (!x.b) (z6 x.1 x.c (ye (kr (uk (yy x.1 x.c) (x.d,x.e,x.f,x.g,x.h))) fun r=>yh (!r))) fun s=>zw s (YS x.I ([(x.d,x.e,x.f,x.g,x.h)]:List y7) 40 (z6 x.1 x.c (ye (Wj (uk (yy x.1 x.c) (x.d,x.e,x.f,x.g,x.h))) fun t=>zw (!t) (z6 x.1 x.c (YS (x.I++([(x.d,x.e,x.f,x.g,x.h)]:List y7)) ([gD (yy x.1 x.c)]:List y7) 40 (a (x.1,true,zh x.c,Pb x.D (x.I++([(x.d,x.e,x.f,x.g,x.h)]:List y7)++([gD (yy x.1 x.c)]:List y7)))))) (a (x.1,true,zh x.c,Pb x.D (x.I++([(x.d,x.e,x.f,x.g,x.h)]:List y7))))))) (z6 x.1 x.c (ye (Wj (uk (yy x.1 x.c) (x.d,x.e,x.f,x.g,x.h))) fun u=>zw (!u) (z6 x.1 x.c (YS x.I ([gD (yy x.1 x.c)]:List y7) 40 (a (x.1,x.b,zh x.c,Pb x.D (x.I++([gD (yy x.1 x.c)]:List y7)))))) (a (x.1,x.b,zh x.c,Dx x.D))))) (k0 (x.b,x.D)))
def aR k0:=iter (@j7 R k0) FUEL
def Yk (x:yeL):Option (List y7):=nz (aR (fun r=>zw (!r.1) (YS r.G ([(r.b,r.c,r.d,r.e,r.f)]:List y7) 40 (yh (r.G++([(r.b,r.c,r.d,r.e,r.f)]:List y7)))) (yh r.G)) (x.1,false,0,uk x.2 ([]:List y7)))
def y9d:List QF:=[yhU,yld]
def HG (t:Elts ybT):St:=nd (stP ybT [.v 1,.d 2,.b 3,.d 1,.o 10000000,.v 2,.d 43] [(3,[.v 5]),(10000000,[])] t)
def XV:Gk vb:=fun κ=>nd (j7 (zM κ (some 0) yeK [.d 3,.b 3,.d 1,.o 10000000,.v 1,.d 44] [(3,[.v 5]),(10000000,[])]))
def y9e:Lp:=YT 4 (zR ybT HG) @XV ZM
theorem yct:LK y9d y9e 307 Tryz.f307 0:=Zm 4 HG @XV
def y3F:=qN 307 Yk y6v 1 y9d y9e Tryz.func307 ⟨yct,trivial⟩
abbrev vN:Type:=yeI
def jQ (k0:List y7→Option R) (a:vN→Option R) (x:vN):Option R:=nz (Z0 x.b x.1.z (z6 x.1 x.b (ye (Yk (x.C,gD (yy x.1 x.b))) fun r=>a (x.1,zh x.b,r))) (k0 x.C))
def cX k0:=iter (@jQ R k0) FUEL
def wc (x:yeM):Option (List y7):=nz (YS ([]:List y7) x.1 40 (cX (fun r=>yh r) (x.2,0,([]:List y7)++x.1)))
def y9f:List QF:=[y3F]
def HH (t:Elts SK):St:=nd (stP SK [.d 1,.v 1,.d 3,.o 10000000,.v 1,.d 16] [(10000000,[])] t)
def XW:Gk vN:=fun κ=>nd (jQ (zM κ (some 0) [zj] [.d 5,.o 10000000,.d 17] [(10000000,[])]))
def y9g:Lp:=YT 3 (zR SK HH) @XW ZM
theorem ycu:LK y9f y9g 333 Tryz.f333 0:=Zm 3 HH @XW
def yle:=qN 333 wc y6w 1 y9f y9g Tryz.func333 ⟨ycu,trivial⟩
abbrev VA:Type:=ykj
def Jm (k0:List y7→Option R) (a:VA→Option R) (x:VA):Option R:=nz (Z0 x.1 x.b.z (z6 x.b x.1 (ye (wc (x.C,yK x.b x.1)) fun r=>a (zh x.1,x.b,r))) (k0 x.C))
def d_ k0:=iter (@Jm R k0) FUEL
def z7 (x:List yc):Option (List y7):=nz (d_ (fun r=>ye (Z5 r) fun s=>yh s) (0,x,([]:List y7)))
def y9h:List QF:=[ycs,yle]
def HI (t:Elts ybU):St:=nd (stP ybU [.d 1,.b 1,.d 1,.o 10000000,.v 1,.d 17] [(1,[.v 1]),(10000000,[])] t)
def XX:Gk VA:=fun κ=>nd (Jm (zM κ (some 0) [zj] [.d 3,.o 10000000,.d 18] [(10000000,[])]))
def y9i:Lp:=YT 3 (zR ybU HI) @XX ZM
theorem ycv:LK y9h y9i 299 Tryz.f299 0:=Zm 3 HI @XX
def N1:=qN 299 z7 y6x 1 y9h y9i Tryz.func299 ⟨ycv,trivial⟩
def KJ (x:Hl):Option Int:=nz (yh (JP (dP 64 x.1) x.2))
def yhW:=q0 334 KJ y6y [] Tryz.func334
def KK (x:AX):Option Int:=nz (ye (KJ (x.1,x.b)) fun r=>yh r)
def yhX:=q0 300 KK y6z [yhW] Tryz.func300
abbrev aS:Type:=ykk
def Wk (k0:ykl→Option R) (k1:yeN→Option R) (a:aS→Option R) (x:aS):Option R:=nz (z6 x.F x.b (Z0 x.c ((yK x.F x.b).z) (z6 x.F x.b (z6 (yK x.F x.b) x.c (ye (KK (gD (yy (yK x.F x.b) x.c))) fun r=>z6 x.d x.1 (wM (decide (r<Y4 x.d x.1)) (WM (decide (zh x.1<x.d.z)) (z6 x.d (zh x.1) (yh (decide (r≥Y4 x.d (zh x.1))))) fun s=>yh s) fun t=>zw t (k0 (x.1,false,x.b,x.D)) (a (x.1,x.b,zh x.c,kl x.D)))))) (k1 (x.1,x.b,x.D))))
def aT k0 k1:=iter (@Wk R k0 k1) FUEL
abbrev aU:Type:=yeN
def Wl (k0:Bool→Option R) (k1:Unit→Option R) (a:aU→Option R) (x:aU):Option R:=nz (Z0 x.b x.E.z (aT (fun r=>k0 r.b) (fun s=>a (s.1,zh s.b,kl s.C)) (x.1,x.b,0,kl x.C)) (k1 ()))
def aV k0 k1:=iter (@Wl R k0 k1) FUEL
def QB (x:y3h):Option Bool:=nz (z6 x.b x.C (ye (Y6 (yt x.b x.C)) fun r=>wM (!r) (WM (decide (x.C>0)) (ye (z7 (yt x.b x.C)) fun s=>yh (s.z==0)) fun t=>yh t) fun u=>zw u (yh false) (aV (fun v=>yh v) (fun w=>yh true) (x.C,0,x.1,x.b,yt x.b x.C))))
def XY:List QF:=[yhV,N1,yhX]
def HJ (t:Elts ybW):St:=nd (stP ybW [.d 1,.v 1,.b 2,.d 2,.b 5,.v 2,.d 70] [(2,[.v 2]),(5,[.v 1])] t)
def XZ:Gk aS:=fun κ=>nd (Wk (zM κ none ykm [.d 1,.v 1,.b 2,.d 1,.v 1,.b 5,.v 1,.d 71] [(2,[.v 2]),(5,[.v 1])]) (zM κ (some 2) y3g [.d 1,.v 1,.b 2,.d 2,.b 5,.v 1,.d 71] [(2,[.v 2]),(5,[.v 1])]))
def HK (t:Elts y3g):St:=nd (stP y3g [.d 1,.v 1,.b 2,.d 2,.b 5,.v 1,.d 71] [(2,[.v 2]),(5,[.v 1])] t)
def X_:Gk aU:=fun κ=>nd (Wl (zM κ none [tB] [.d 4,.v 1,.d 73] []) (zM κ (some 0) [] [.d 78] []))
def y00:Lp:=YT 5 (zR y3g HK) @X_ (YT 8 (zR ybW HJ) @XZ ZM)
theorem ycw:LK XY y00 245 Tryz.f245 1:=Zm 8 HJ @XZ
theorem ycx:LK XY y00 245 Tryz.f245 0:=Zm 5 HK @X_
def ylf:=qN 245 QB y6A 2 XY y00 Tryz.func245 ⟨ycx,ycw,trivial⟩
abbrev VB:Type:=ykn
def Jn (k0:List y7→Option R) (a:VB→Option R) (x:VB):Option R:=nz (Z0 x.1 x.c.z (z6 x.c x.1 (ye (z7 (yt x.c x.1)) fun r=>YS x.D r 40 (a (zh x.1,x.b,x.c,x.D++r)))) (k0 x.D))
def ef k0:=iter (@Jn R k0) FUEL
def zA (x:o9):Option (List y7):=nz (ef (fun r=>yh r) (0,x.1,x.2,([]:List y7)))
def y9j:List QF:=[N1]
def HL (t:Elts ybX):St:=nd (stP ybX [.d 1,.b 1,.d 1,.o 10000000,.v 1,.d 17] [(1,[.v 2]),(10000000,[])] t)
def y01:Gk VB:=fun κ=>nd (Jn (zM κ (some 0) [zj] [.d 3,.o 10000000,.d 18] [(10000000,[])]))
def y9k:Lp:=YT 3 (zR ybX HL) @y01 ZM
theorem ycy:LK y9j y9k 246 Tryz.f246 0:=Zm 3 HL @y01
def N2:=qN 246 zA y6B 1 y9j y9k Tryz.func246 ⟨ycy,trivial⟩
abbrev aW:Type:=ybY
def Wm (k0:yko→Option R) (k1:o9→Option R) (a:aW→Option R) (x:aW):Option R:=nz (Z0 x.1 x.C.z (WM (decide (x.1>0)) (z6 x.b (jE x.1) (z6 x.b x.1 (yh (decide (Y4 x.b (jE x.1)≥Y4 x.b x.1))))) fun r=>wM r (ye (QB (x.b,x.C,x.1)) fun s=>yh (!s)) fun t=>zw t (k0 (false,x.2)) (a (zh x.1,x.b,x.C))) (k1 x.2))
def iq k0 k1:=iter (@Wm R k0 k1) FUEL
def ZC (x:o9):Option Bool:=nz (ye (yx (x.2.z,1,20)) fun r=>dO (!r) (x.1.z !=x.2.z) fun s=>wM s (z6 x.1 0 (yh (Y4 x.1 0 !=0))) fun t=>zw t (yh false) (iq (fun u=>yh u.1) (fun v=>ye (zA v) fun w=>yh (decide (w.z≤60))) (0,x.1,x.2)))
def y9l:List QF:=[mI,ylf,N2]
def HM (t:Elts E_):St:=nd (stP E_ [.d 1,.b 1,.d 1,.v 1,.d 54] [(1,[.v 2])] t)
def y02:Gk aW:=fun κ=>nd (Wm (zM κ none ykp [.d 1,.b 1,.v 1,.d 55] [(1,[.v 2])]) (zM κ (some 0) Vm [.d 1,.b 1,.d 56] [(1,[.v 2])]))
def y9m:Lp:=YT 4 (zR E_ HM) @y02 ZM
theorem ycz:LK y9l y9m 172 Tryz.f172 0:=Zm 4 HM @y02
def yhY:=qN 172 ZC y6C 1 y9l y9m Tryz.func172 ⟨ycz,trivial⟩
abbrev cY:Type:=yeO
def ku (k0:Int→Option R) (k1:Unit→Option R) (a:cY→Option R) (x:cY):Option R:=nz (Z0 x.C x.1.z (z6 x.1 x.C (zw ((yT x.1 x.C).1==x.b) (k0 x.C) (a (x.1,x.b,zh x.C)))) (k1 ()))
def lU k0 k1:=iter (@ku R k0 k1) FUEL
def YL (x:Hm):Option Int:=nz (lU (fun r=>yh r) (fun s=>yh (-1)) (x.1,x.2,0))
def y9n:List QF:=[]
def HN (t:Elts ybZ):St:=nd (stP ybZ [.v 2,.d 3,.v 1,.d 14] [] t)
def y03:Gk cY:=fun κ=>nd (ku (zM κ none [tI] [.d 4,.v 1,.d 15] []) (zM κ (some 0) [] [.d 20] []))
def y9o:Lp:=YT 2 (zR ybZ HN) @y03 ZM
theorem ycA:LK y9n y9o 247 Tryz.f247 0:=Zm 2 HN @y03
def SQ:=qN 247 YL y6D 1 y9n y9o Tryz.func247 ⟨ycA,trivial⟩
abbrev aX:Type:=Hm
def Wn (k0:y3i→Option R) (k1:List yb→Option R) (a:aX→Option R) (x:aX):Option R:=nz (Z0 x.2 x.1.z (z6 x.1 x.2 (ye (yx ((yT x.1 x.2).1,1,60)) fun r=>wM (!r) (WM (decide (x.2>0)) (z6 x.1 (jE x.2) (z6 x.1 x.2 (yh (decide ((yT x.1 (jE x.2)).1≥(yT x.1 x.2).1))))) fun s=>yh s) fun t=>zw t (k0 (x.1,false)) (z6 x.1 x.2 (WM ((yT x.1 x.2).2 !=0) (oc 0 x.2 x.1.z (z6 x.1 x.2 (ye (YL (aD x.1 0 x.2,(yT x.1 x.2).2)) fun u=>yh (decide (u<0))))) fun v=>zw v (k0 (x.1,false)) (a (x.1,zh x.2)))))) (k1 x.1))
def ir k0 k1:=iter (@Wn R k0 k1) FUEL
def JQ (x:List yb):Option Bool:=nz (ir (fun r=>yh r.2) (fun s=>yh (decide (s.z≤16))) (x,0))
def y9p:List QF:=[mI,SQ]
def HO (t:Elts yb_):St:=nd (stP yb_ [.v 1,.d 2,.v 1,.d 52] [] t)
def y04:Gk aX:=fun κ=>nd (Wn (zM κ none yeP [.v 1,.d 1,.v 1,.d 53] []) (zM κ (some 0) [yY] [.v 1,.d 55] []))
def y9q:Lp:=YT 2 (zR yb_ HO) @y04 ZM
theorem ycB:LK y9p y9q 173 Tryz.f173 0:=Zm 2 HO @y04
def ycC:=qN 173 JQ y6E 1 y9p y9q Tryz.func173 ⟨ycB,trivial⟩
abbrev Q2:Type:=yc0
def we (k0:yeQ→Option R) (k1:List ya→Option R) (a:Q2→Option R) (x:Q2):Option R:=nz (Z0 x.2 x.1.z (z6 x.1 x.2 (ye (yx ((yD x.1 x.2).1,0,999)) fun r=>wM (!r) (z6 x.1 x.2 (ye (Y5 ((yD x.1 x.2).C)) fun s=>yh (!s))) fun t=>wM t (z6 x.1 x.2 (WM (!((yD x.1 x.2).b)) (z6 x.1 x.2 (yh ((yD x.1 x.2).C !=0))) fun u=>yh u)) fun v=>zw v (k0 (x.1,false)) (a (x.1,zh x.2)))) (k1 x.1))
def fE k0 k1:=iter (@we R k0 k1) FUEL
def wg (x:List ya):Option Bool:=nz (fE (fun r=>yh r.2) (fun s=>yh (s.z==24)) (x,0))
def y9r:List QF:=[mI,y3D]
def HP (t:Elts yc1):St:=nd (stP yc1 [.v 1,.d 2,.v 1,.d 41] [] t)
def y05:Gk Q2:=fun κ=>nd (we (zM κ none yeR [.v 1,.d 1,.v 1,.d 42] []) (zM κ (some 0) [yL] [.v 1,.d 44] []))
def y9s:Lp:=YT 2 (zR yc1 HP) @y05 ZM
theorem ycD:LK y9r y9s 174 Tryz.f174 0:=Zm 2 HP @y05
def ycE:=qN 174 wg y6F 1 y9r y9s Tryz.func174 ⟨ycD,trivial⟩
abbrev aY:Type:=ykq
def Wo (k0:List yf→Option R) (a:aY→Option R) (x:aY):Option R:=nz (Z0 x.c x.1.z (z6 x.1 x.c (KA ((yT x.1 x.c).2==x.b) (x.b !=0) fun r=>zw r (z6 x.1 x.c (YS x.D ([(yT x.1 x.c).1]:List yf) 8 (a (x.1,x.b,zh x.c,x.D++([(yT x.1 x.c).1]:List yf))))) (a (x.1,x.b,zh x.c,x.D)))) (k0 x.D))
def iu k0:=iter (@Wo R k0) FUEL
def WN (x:Hm):Option (List yf):=nz (iu (fun r=>yh r) (x.1,x.2,0,([]:List yf)))
def y9t:List QF:=[]
def HQ (t:Elts yc2):St:=nd (stP yc2 [.v 2,.d 3,.o 10000000,.v 1,.d 27] [(10000000,[])] t)
def y06:Gk aY:=fun κ=>nd (Wo (zM κ (some 0) [z4] [.d 5,.o 10000000,.d 28] [(10000000,[])]))
def y9u:Lp:=YT 3 (zR yc2 HQ) @y06 ZM
theorem ycF:LK y9t y9u 248 Tryz.f248 0:=Zm 3 HQ @y06
def ycG:=qN 248 WN y6G 1 y9t y9u Tryz.func248 ⟨ycF,trivial⟩
abbrev Q3:Type:=ykr
def wh (k0:yc4→Option R) (k1:M_→Option R) (a:Q3→Option R) (x:Q3):Option R:=nz (Z0 x.b x.1 (z6 x.g x.b (zw ((yC x.g x.b).b==x.j) (k0 (false,x.1,x.c,x.d,x.e,x.f,x.g,x.h)) (a (x.1,zh x.b,ycl x.C)))) (k1 (x.1,x.c,x.d,x.e,x.f,x.g,x.h)))
def Q4 k0 k1:=iter (@wh R k0 k1) FUEL
abbrev Q5:Type:=M_
def wi (k0:N0→Option R) (k1:f6→Option R) (a:Q5→Option R) (x:Q5):Option R:=nz (Z0 x.1 x.f.z (z6 x.f x.1 (ye (ZB ((yC x.f x.1).1)) fun r=>wM (!r) (ye (yx ((yC x.f x.1).c,1,12)) fun s=>yh (!s)) fun t=>wM t (ye (YL (x.d,(yC x.f x.1).b)) fun u=>yh (decide (u<0))) fun v=>wM v (ye (WN (x.d,(yC x.f x.1).b)) fun w=>yh (decide (w.z>0))) fun p=>wM p (WM (decide (x.1>0)) (z6 x.f (jE x.1) (yh (!(Go.Op.bytesLess (((yC x.f (jE x.1)).1).toList) (((yC x.f x.1).1).toList))))) fun q=>yh q) fun m=>zw m (k0 (false,x.2)) (Q4 (fun n=>k0 (n.1,n.C)) (fun o=>a (zh o.1,Dx o.2)) (x.1,0,aN x.2 (oa (yC x.f x.1)))))) (k1 x.2))
def fF k0 k1:=iter (@wi R k0 k1) FUEL
def VC (x:f6):Option Bool:=nz (fF (fun r=>yh r.1) (fun s=>yh (decide (s.e.z≤6))) (0,Dx x))
def y07:List QF:=[mI,y3C,SQ,ycG]
def HR (t:Elts yc3):St:=nd (stP yc3 [.d 1,.b 1,.d 1,.v 1,.b 4,.v 1,.d 73] [(1,[.v 6]),(4,[.v 4])] t)
def y08:Gk Q3:=fun κ=>nd (wh (zM κ none yc5 [.d 1,.b 1,.v 2,.d 75] [(1,[.v 6])]) (zM κ (some 2) sE [.d 1,.b 1,.d 1,.v 1,.d 75] [(1,[.v 6])]))
def HS (t:Elts sE):St:=nd (stP sE [.d 1,.b 1,.d 1,.v 1,.d 75] [(1,[.v 6])] t)
def y09:Gk Q5:=fun κ=>nd (wi (zM κ none y3j [.d 1,.b 1,.v 1,.d 76] [(1,[.v 6])]) (zM κ (some 0) Z1 [.d 1,.b 1,.d 77] [(1,[.v 6])]))
def y0a:Lp:=YT 2 (zR sE HS) @y09 (YT 8 (zR yc3 HR) @y08 ZM)
theorem ycH:LK y07 y0a 175 Tryz.f175 1:=Zm 8 HR @y08
theorem ycI:LK y07 y0a 175 Tryz.f175 0:=Zm 2 HS @y09
def ylg:=qN 175 VC y6H 2 y07 y0a Tryz.func175 ⟨ycI,ycH,trivial⟩
def KL (x:yc6):Option yeS:=nz (ye (yx (x.b,0,jE x.1.z)) fun r=>wM (!r) (z6 x.1 x.b (yh (!((yD x.1 x.b).b)))) fun s=>wM s (z6 x.1 x.b (yh ((yD x.1 x.b).1 !=x.C))) fun t=>zw t (yh (0,false)) (z6 x.1 x.b (yh ((yD x.1 x.b).C,true))))
def ylh:=q0 249 KL y6I [mI] Tryz.func249
abbrev vO:Type:=yc6
def jR (k0:Int→Option R) (a:vO→Option R) (x:vO):Option R:=nz (Z0 x.C x.1.z (z6 x.1 x.C (zw ((yD x.1 x.C).b) (a (x.1,zh x.b,zh x.C)) (a (x.1,x.b,zh x.C)))) (k0 x.b))
def cZ k0:=iter (@jR R k0) FUEL
def kY (x:List ya):Option Int:=nz (cZ (fun r=>yh r) (x,0,0))
def y9v:List QF:=[]
def HT (t:Elts yc7):St:=nd (stP yc7 [.v 1,.d 2,.v 2,.d 14] [] t)
def y0b:Gk vO:=fun κ=>nd (jR (zM κ (some 0) [tI] [.d 3,.v 1,.d 15] []))
def y9w:Lp:=YT 3 (zR yc7 HT) @y0b ZM
theorem ycJ:LK y9v y9w 250 Tryz.f250 0:=Zm 3 HT @y0b
def yli:=qN 250 kY y6J 1 y9v y9w Tryz.func250 ⟨ycJ,trivial⟩
abbrev VD:Type:=yeT
def Jo (k0:yks→Option R) (k1:y3l→Option R) (a:VD→Option R) (x:VD):Option R:=nz (Z0 x.c x.b (z6 x.J x.c (WM ((yy x.J x.c).c==1) (z6 x.J x.c (z6 x.J x.b (yh ((yy x.J x.c).d==(yy x.J x.b).d)))) fun r=>zw r (k0 (false,x.1,x.b,x.D)) (a (x.1,x.b,zh x.c,Pf x.D)))) (k1 (x.1,x.b,x.D)))
def VE k0 k1:=iter (@Jo R k0 k1) FUEL
abbrev Q6:Type:=y3l
def wj (k0:yc4→Option R) (k1:M_→Option R) (a:Q6→Option R) (x:Q6):Option R:=nz (Z0 x.b x.I.z (z6 x.I x.b (ye (YL (x.e,(yy x.I x.b).b)) fun r=>Z0 r 0 (k0 (false,x.1,x.c,x.d,x.e,x.f,x.g,x.h)) (z6 x.I x.b (Mg ((yy x.I x.b).c) 1 (a (x.1,zh x.b,Pf x.C)) (z6 x.I x.b (z6 x.I x.b (ye (KL (x.f,(yy x.I x.b).d,(yy x.I x.b).E)) fun s=>zw (!s.2) (k0 (false,zh x.1,x.c,x.d,x.e,x.f,x.g,x.h)) (VE (fun t=>k0 (t.1,t.b,t.d,t.e,t.f,t.g,t.h,t.i)) (fun u=>a (u.1,zh u.b,Pf u.C)) (zh x.1,x.b,0,Pf x.C))))))))) (k1 (x.1,x.c,x.d,x.e,x.f,x.g,x.h)))
def fG k0 k1:=iter (@wj R k0 k1) FUEL
def VF (x:f6):Option Bool:=nz (ye (zA (x.1,x.b)) fun r=>fG (fun s=>yh s.1) (fun t=>ye (kY t.e) fun u=>yh (t.1==u)) (0,0,aN x r))
def y0c:List QF:=[N2,SQ,ylh,yli]
def Dy (t:Elts y3k):St:=nd (stP y3k [.d 1,.b 1,.d 1,.o 10000000,.v 2,.d 2,.v 1,.d 73] [(1,[.v 6]),(10000000,[])] t)
def Ph:Gk VD:=fun κ=>nd (Jo (zM κ none ykt [.d 1,.b 1,.v 1,.o 10000000,.v 2,.d 76] [(1,[.v 6]),(10000000,[])]) (zM κ (some 2) Cw [.d 1,.b 1,.d 1,.o 10000000,.v 2,.d 76] [(1,[.v 6]),(10000000,[])]))
def HU (t:Elts Cw):St:=nd (stP Cw [.d 1,.b 1,.d 1,.o 10000000,.v 2,.d 76] [(1,[.v 6]),(10000000,[])] t)
def y0d:Gk Q6:=fun κ=>nd (wj (zM κ none yc5 [.d 1,.b 1,.v 1,.d 1,.v 1,.d 77] [(1,[.v 6])]) (zM κ (some 0) sE [.d 1,.b 1,.d 2,.v 1,.d 77] [(1,[.v 6])]))
def y0e:Lp:=YT 4 (zR Cw HU) @y0d (YT 14 (zR y3k Dy) @Ph ZM)
theorem y3G:LK y0c y0e 176 Tryz.f176 1:=Zm 14 Dy @Ph
theorem ycK:LK y0c y0e 176 Tryz.f176 0:=Zm 4 HU @y0d
def ylj:=qN 176 VF y6K 2 y0c y0e Tryz.func176 ⟨ycK,y3G,trivial⟩
abbrev aZ:Type:=M_
def Wp (k0:N0→Option R) (k1:f6→Option R) (a:aZ→Option R) (x:aZ):Option R:=nz (Z0 x.1 x.d.z (z6 x.d x.1 (zge ((yT x.d x.1).1) x.G (k0 (false,x.2)) (a (zh x.1,Dx x.2)))) (k1 x.2))
def iv k0 k1:=iter (@Wp R k0 k1) FUEL
def yZ (x:f6):Option Bool:=nz (iv (fun r=>yh r.1) (fun s=>ye (ZC (s.1,s.b)) fun t=>WM t (ye (JQ s.c) fun u=>yh u) fun v=>WM v (ye (wg s.d) fun w=>yh w) fun p=>WM p (ye (yx (s.F,1,61)) fun q=>yh q) fun m=>WM m (ye (VC s) fun n=>yh n) fun o=>WM o (ye (VF s) fun e=>yh e) fun f=>yh f) (0,Dx x))
def yhZ:List QF:=[mI,yhY,ycC,ycE,ylg,ylj]
def Pi (t:Elts sE):St:=nd (stP sE [.d 1,.b 1,.d 1,.v 1,.d 42] [(1,[.v 6])] t)
def y9x:Gk aZ:=fun κ=>nd (Wp (zM κ none y3j [.d 1,.b 1,.v 1,.d 43] [(1,[.v 6])]) (zM κ (some 0) Z1 [.d 1,.b 1,.d 44] [(1,[.v 6])]))
def yh_:Lp:=YT 2 (zR sE Pi) @y9x ZM
theorem yi0:LK yhZ yh_ 85 Tryz.f85 0:=Zm 2 Pi @y9x
def q85:=qN 85 yZ ygW 1 yhZ yh_ Tryz.func85 ⟨yi0,trivial⟩
abbrev a_:Type:=SJ ⊕ y3m
def j8 (k0:Unit→Option R) (k1:List yc→Option R) (a:a_→Option R):a_→Option R
 | .inl x=>nz (Z0 x.1 x.2.z (z6 x.2 x.1 (YS ([]:List y7) (yK x.2 x.1) 40 (if List.length ([([]:List y7)++yK x.2 x.1]:List yc)*24<140737488355328 then a (Sum.inr (zh x.1,x.2,([([]:List y7)++yK x.2 x.1]:List yc))) else none))) (k0 ()))
 | .inr x=>nz (Z0 x.1 x.b.z (z6 x.b x.1 (YS ([]:List y7) (yK x.b x.1) 40 (YS x.C ([([]:List y7)++yK x.b x.1]:List yc) 24 (a (Sum.inr (zh x.1,x.b,x.C++([([]:List y7)++yK x.b x.1]:List yc))))))) (k1 x.C))
def iw k0 k1:=iter (@j8 R k0 k1) FUEL
def zX (x:List yc):Option (List yc):=nz (iw (fun r=>yh ([]:List yc)) (fun s=>yh s) (Sum.inl (0,x)))
def HV:List QF:=[]
def pe (t:Elts Hk):St:=nd (stP Hk [.d 1,.b 1,.b 2,.b 3,.v 1,.d 21] [(1,[.v 1]),(2,[.s]),(3,[.s])] t)
theorem y0f: ∀ s t,zR Hk pe s=some t→pe t=s:=Y3 fun t=>by kernel_rfl
def pf (t:Elts y3n):St:=nd (stP y3n [.d 1,.b 1,.b 2,.b 3,.v 1,.d 21] [(1,[.v 1]),(2,[.s]),(3,[.o 10000000]),(10000000,[])] t)
theorem y0g: ∀ s t,zR y3n pf s=some t→pf t=s:=Y3 fun t=>by kernel_rfl
def pg:(SJ ⊕ y3m)→St:=Sum.elim pe pf
def B1 (s:St):Option (SJ ⊕ y3m):=((zR Hk pe s).map Sum.inl).or (((zR y3n pf) s).map Sum.inr)
theorem y0h: ∀ s t,B1 s=some t→pg t=s:=Kz y0f y0g
def F1:Gk a_:=fun κ=>nd (j8 (zM κ (some 0) [] [.d 2,.b 2,.b 3,.d 22] [(2,[.s]),(3,[.s])]) (zM κ (some 0) [zt] [.d 2,.b 2,.b 3,.d 22] [(2,[.s]),(3,[.o 10000000]),(10000000,[])]))
def HW:Lp:=YT 3 B1 @F1 ZM
theorem y0i:LF HV HW 251 3 Tryz.f251 0 pg @F1 fun v:SJ=> .inl v:=fun R κ again v=>by kernel_rfl
theorem y0j:LF HV HW 251 3 Tryz.f251 0 pg @F1 fun v:y3m=> .inr v:=fun R κ again v=>by kernel_rfl
theorem ycL:LF HV HW 251 3 Tryz.f251 0 pg @F1 fun t=>t:=(LC.sum y0i y0j)
theorem ycM:LK HV HW 251 Tryz.f251 0:=Gc (u:=B1) y0h ycL
def yi1:=qN 251 zX y6L 1 HV HW Tryz.func251 ⟨ycM,trivial⟩
abbrev b7:Type:=y3o ⊕ y3q
def j9 (k0:List yf→Option R) (k1:o9→Option R) (a:b7→Option R):b7→Option R
 | .inl x=>nz (Z0 x.1 x.c.z (z6 x.c x.1 (ye (zX (yt x.c x.1)) fun r=>if List.length ([r]:List y6)*24<140737488355328 then a (Sum.inr (zh x.1,Y9 x.2 ([r]:List y6))) else none)) (k0 x.D))
 | .inr x=>nz (Z0 x.1 x.c.z (z6 x.c x.1 (ye (zX (yt x.c x.1)) fun r=>YS x.E ([r]:List y6) 24 (a (Sum.inr (zh x.1,wX x.2 (x.E++([r]:List y6))))))) (k1 x.D))
def ix k0 k1:=iter (@j9 R k0 k1) FUEL
def JR (x:o9):Option o9:=nz (YS ([]:List yf) x.1 8 (ix (fun r=>yh (r,([]:List y6))) (fun s=>yh s) (Sum.inl (0,x.1,x.2,([]:List yf)++x.1))))
def HX:List QF:=[yi1]
def ph (t:Elts y3p):St:=nd (stP y3p [.d 1,.b 1,.b 2,.b 3,.v 1,.d 24] [(1,[.v 2]),(2,[.s,.s]),(3,[.o 10000000,.s]),(10000000,[])] t)
theorem y0k: ∀ s t,zR y3p ph s=some t→ph t=s:=Y3 fun t=>by kernel_rfl
def pk (t:Elts y3r):St:=nd (stP y3r [.d 1,.b 1,.b 2,.b 3,.v 1,.d 24] [(1,[.v 2]),(2,[.s,.s]),(3,[.o 10000000,.o 10000001]),(10000000,[]),(10000001,[])] t)
theorem y0l: ∀ s t,zR y3r pk s=some t→pk t=s:=Y3 fun t=>by kernel_rfl
def pm:(y3o ⊕ y3q)→St:=Sum.elim ph pk
def B2 (s:St):Option (y3o ⊕ y3q):=((zR y3p ph s).map Sum.inl).or (((zR y3r pk) s).map Sum.inr)
theorem y0m: ∀ s t,B2 s=some t→pm t=s:=Kz y0k y0l
def F2:Gk b7:=fun κ=>nd (j9 (zM κ (some 0) [z4] [.d 2,.b 2,.b 3,.d 25] [(2,[.s,.s]),(3,[.o 10000000,.s]),(10000000,[])]) (zM κ (some 0) Vm [.d 2,.b 2,.b 3,.d 25] [(2,[.s,.s]),(3,[.o 10000000,.o 10000001]),(10000000,[]),(10000001,[])]))
def HY:Lp:=YT 3 B2 @F2 ZM
theorem y0n:LF HX HY 177 3 Tryz.f177 0 pm @F2 fun v:y3o=> .inl v:=fun R κ again v=>by kernel_rfl
theorem y0o:LF HX HY 177 3 Tryz.f177 0 pm @F2 fun v:y3q=> .inr v:=fun R κ again v=>by kernel_rfl
theorem ycN:LF HX HY 177 3 Tryz.f177 0 pm @F2 fun t=>t:=(LC.sum y0n y0o)
theorem ycO:LK HX HY 177 Tryz.f177 0:=Gc (u:=B2) y0m ycN
def ycP:=qN 177 JR y6M 1 HX HY Tryz.func177 ⟨ycO,trivial⟩
def ju (x:List ya):Option (List ya):=nz (YS ([]:List ya) x 24 (yh (([]:List ya)++x)))
def ycQ:=q0 178 ju y6N [] Tryz.func178
def yF (x:f6):Option f6:=nz (ye (JR (x.1,x.b)) fun r=>YS ([]:List yb) x.c 16 (ye (ju x.d) fun s=>YS ([]:List yj) x.e 40 (yh (r.1,r.2,([]:List yb)++x.c,s,([]:List yj)++x.e,x.F))))
def TX:=q0 86 yF ygX [ycP,ycQ] Tryz.func86
def wk (x:y3s):Option Int:=nz (ye (yZ (x.1,x.b,x.c,x.d,x.e,x.f)) fun r=>wM (!r) (ye (ZB x.G) fun s=>yh (!s)) fun t=>zw t (yh 1) (yh 0))
def ycR:=q0 179 wk y6O [q85,y3C] Tryz.func179
abbrev c_:Type:=yku
def kv (k0:Int→Option R) (k1:Unit→Option R) (a:c_→Option R) (x:c_):Option R:=nz (Z0 x.b x.g.z (z6 x.g x.b (zw (((yC x.g x.b).1).toList==x.1.toList) (k0 x.b) (a (x.1,zh x.b,Dx x.C)))) (k1 ()))
def lV k0 k1:=iter (@kv R k0 k1) FUEL
def z_ (x:y3s):Option Int:=nz (lV (fun r=>yh r) (fun s=>yh (-1)) (x.G,0,x.1,x.b,x.c,x.d,x.e,x.f))
def y9y:List QF:=[]
def HZ (t:Elts yc8):St:=nd (stP yc8 [.d 1,.v 1,.b 2,.d 2,.v 1,.d 16] [(2,[.v 6])] t)
def y0p:Gk c_:=fun κ=>nd (kv (zM κ none [tI] [.d 4,.v 1,.d 17] []) (zM κ (some 0) [] [.d 22] []))
def y9z:Lp:=YT 2 (zR yc8 HZ) @y0p ZM
theorem ycS:LK y9y y9z 180 Tryz.f180 0:=Zm 2 HZ @y0p
def H_:=qN 180 z_ y6P 1 y9y y9z Tryz.func180 ⟨ycS,trivial⟩
abbrev vc:Type:=ykv
def vd (k0:ykw→Option R) (a:vc→Option R) (x:vc):Option R:=nz (Z0 x.e x.1.z (WM (!x.d) (z6 x.1 x.e (yh (decide ((yT x.1 x.e).1>x.b)))) fun r=>zw r (YS x.F ([(x.b,x.c)]:List yb) 16 (z6 x.1 x.e (YS (x.F++([(x.b,x.c)]:List yb)) ([((yT x.1 x.e).1,(yT x.1 x.e).2)]:List yb) 16 (a (wX x (true,zh x.e,x.F++([(x.b,x.c)]:List yb)++([((yT x.1 x.e).1,(yT x.1 x.e).2)]:List yb))))))) (z6 x.1 x.e (YS x.F ([((yT x.1 x.e).1,(yT x.1 x.e).2)]:List yb) 16 (a (fX x (zh x.e,x.F++([((yT x.1 x.e).1,(yT x.1 x.e).2)]:List yb))))))) (k0 (fX x x.F)))
def iy k0:=iter (@vd R k0) FUEL
def Zc (x:yeO):Option y3i:=nz (ye (YL (x.1,x.b)) fun r=>iy (fun s=>zw (!s.d) (YS s.E ([(s.b,s.c)]:List yb) 16 (ye (YL (s.1,s.b)) fun t=>wM (decide (t≥0)) (ye (JQ (s.E++([(s.b,s.c)]:List yb))) fun u=>yh (!u)) fun v=>zw v (YS ([]:List yb) s.1 16 (yh (([]:List yb)++s.1,false))) (yh (s.E++([(s.b,s.c)]:List yb),true)))) (ye (YL (s.1,s.b)) fun w=>wM (decide (w≥0)) (ye (JQ s.E) fun p=>yh (!p)) fun q=>zw q (YS ([]:List yb) s.1 16 (yh (([]:List yb)++s.1,false))) (yh (s.E,true)))) (Y9 x (decide (r≥0),0,([]:List yb))))
def y9A:List QF:=[ycC,SQ]
def I0 (t:Elts yc9):St:=nd (stP yc9 [.v 3,.d 5,.o 10000000,.v 2,.d 56] [(10000000,[])] t)
def y0q:Gk vc:=fun κ=>nd (vd (zM κ (some 0) ykx [.v 3,.d 5,.o 10000000,.v 1,.d 57] [(10000000,[])]))
def y9B:Lp:=YT 4 (zR yc9 I0) @y0q ZM
theorem ycT:LK y9A y9B 181 Tryz.f181 0:=Zm 4 I0 @y0q
def ycU:=qN 181 Zc y6Q 1 y9A y9B Tryz.func181 ⟨ycT,trivial⟩
abbrev wZ:Type:=yeU
def w_ (k0:yeU→Option R) (a:wZ→Option R) (x:wZ):Option R:=nz (WM (decide (x.1>0)) (z6 x.F (jE x.1) (yh (!(Go.Op.bytesLess (((yC x.F (jE x.1)).1).toList) x.b.toList||((yC x.F (jE x.1)).1).toList==x.b.toList)))) fun r=>zw r (z6 x.F (jE x.1) (z6 x.F x.1 (a (jE x.1,fX x.2 (lh x.F x.1 (oa (yC x.F (jE x.1)))))))) (k0 x))
def d7 k0:=iter (@w_ R k0) FUEL
def wl (x:yca):Option (List yj):=nz (YS ([]:List yj) x.1 40 (YS (([]:List yj)++x.1) ([x.2]:List yj) 40 (d7 (fun r=>z6 r.F r.1 (yh (lh r.F r.1 (r.b,r.c,r.d,r.e)))) (jE ((List.length (([]:List yj)++x.1++([x.2]:List yj)):Nat):Int),mH x.2 (([]:List yj)++x.1++([x.2]:List yj))))))
def y9C:List QF:=[]
def I1 (t:Elts y3t):St:=nd (stP y3t [.d 3,.b 3,.d 1,.o 10000000,.v 1,.d 37] [(3,[.v 4]),(10000000,[])] t)
def y0r:Gk wZ:=fun κ=>nd (w_ (zM κ (some 0) y3t [.d 3,.b 3,.d 1,.o 10000000,.v 1,.d 37] [(3,[.v 4]),(10000000,[])]))
def y9D:Lp:=YT 3 (zR y3t I1) @y0r ZM
theorem ycV:LK y9C y9D 182 Tryz.f182 0:=Zm 3 I1 @y0r
def yi2:=qN 182 wl y6R 1 y9C y9D Tryz.func182 ⟨ycV,trivial⟩
def zD (x:yky):Option pa:=nz (wM (!x.M) (ye (yZ (x.g,x.h,x.i,x.j,x.k,x.l)) fun r=>yh (!r)) fun s=>zw s (ye (yF (x.1,x.b,x.c,x.d,x.e,x.f)) fun t=>yh (aN t 6)) (yh (Vn x.G 0)))
def SR:=q0 183 zD y6S [q85,TX] Tryz.func183
def KM (x:y3u):Option pa:=nz (ye (wk (x.1,x.b,x.c,x.d,x.e,x.f,x.g)) fun r=>Mg r 0 (ye (yF (x.1,x.b,x.c,x.d,x.e,x.f)) fun s=>yh (aN s r)) (ye (z_ (x.1,x.b,x.c,x.d,x.e,x.f,x.g)) fun t=>zge t 0 (ye (yF (x.1,x.b,x.c,x.d,x.e,x.f)) fun u=>yh (aN u 3)) (ye (yx (x.H,1,12)) fun v=>zw (!v) (ye (yF (x.1,x.b,x.c,x.d,x.e,x.f)) fun w=>yh (aN w 4)) (ye (yF (x.1,x.b,x.c,x.d,x.e,x.f)) fun p=>ye (Zc (x.c,x.f,0)) fun q=>ye (wl (x.e,x.g,x.f,x.H,false)) fun m=>ye (zD (Vn x (p.1,p.b,q.1,p.d,m,zh x.f,q.2))) fun n=>yh n))))
def q87:=q0 87 KM ygY [mI,TX,ycR,H_,ycU,yi2,SR] Tryz.func87
def av (x:ykz):Option pa:=nz (ye (wk (x.1,x.b,x.c,x.d,x.e,x.f,x.g)) fun r=>wM (r !=0) (ye (ZB x.h) fun s=>yh (!s)) fun t=>zw t (ye (yF (x.1,x.b,x.c,x.d,x.e,x.f)) fun u=>yh (aN u 1)) (ye (z_ (x.1,x.b,x.c,x.d,x.e,x.f,x.g)) fun v=>Z0 v 0 (ye (yF (x.1,x.b,x.c,x.d,x.e,x.f)) fun w=>yh (aN w 2)) (ye (z_ (Vn x x.h)) fun p=>zge p 0 (ye (yF (x.1,x.b,x.c,x.d,x.e,x.f)) fun q=>yh (aN q 3)) (ye (yF (x.1,x.b,x.c,x.d,x.e,x.f)) fun m=>ye (z_ (x.1,x.b,x.c,x.d,x.e,x.f,x.g)) fun n=>z6 x.e n (ye (Zc (x.c,x.f,(yC x.e n).b)) fun o=>z6 x.e n (ye (Zc (o.1,zh x.f,(yC x.e n).b)) fun e=>z6 m.e n (z6 x.e n (ye (wl (lh m.e n ((yC m.e n).1,x.f,(yC m.e n).C),x.h,zh x.f,(yC x.e n).c,x.I)) fun f=>KA o.2 e.2 fun g=>ye (zD (Vn x (m.1,m.b,e.1,m.d,f,JP x.f 2,g))) fun h=>yh h))))))))
def q88:=q0 88 av ygZ [TX,y3C,ycR,H_,ycU,yi2,SR] Tryz.func88
def KN (x:y3s):Option Int:=nz (ye (wk x) fun r=>WM (r==0) (ye (z_ x) fun s=>yh (decide (s<0))) fun t=>zw t (yh 2) (yh r))
def yi3:=q0 184 KN y6T [ycR,H_] Tryz.func184
def wQ (x:y3s):Option pa:=nz (ye (yF (x.1,x.b,x.c,x.d,x.e,x.f)) fun r=>ye (KN x) fun s=>Mg s 0 (yh (aN r s)) (ye (z_ x) fun t=>oc 0 t x.e.z (YS ([]:List yj) (aD x.e 0 t) 40 (oc (zh t) x.e.z x.e.z (YS (([]:List yj)++aD x.e 0 t) (aD x.e (zh t) x.e.z) 40 (ye (zD (Vn x (fX r (([]:List yj)++aD x.e 0 t++aD x.e (zh t) x.e.z,r.F,true)))) fun u=>yh u))))))
def q89:=q0 89 wQ yg_ [TX,H_,SR,yi3] Tryz.func89
def J9 (x:y3u):Option Int:=nz (ye (KN (x.1,x.b,x.c,x.d,x.e,x.f,x.g)) fun r=>Mg r 0 (yh r) (ye (z_ (x.1,x.b,x.c,x.d,x.e,x.f,x.g)) fun s=>z6 x.e s (zw ((yC x.e s).D) (yh 5) (ye (z_ (x.1,x.b,x.c,x.d,x.e,x.f,x.g)) fun t=>z6 x.e t (ye (yx (x.H,0,jE ((yC x.e t).c))) fun u=>zw (!u) (yh 4) (yh 0))))))
def ycW:=q0 185 J9 y6U [mI,H_,yi3] Tryz.func185
abbrev k8:Type:=ykA
def k9 (k0:ykB→Option R) (k1:List ya→Option R) (a:k8→Option R) (x:k8):Option R:=nz (WM (decide (x.c<x.1.z)) (ye (wg x.1) fun r=>yh r) fun s=>WM s (ye (Y5 x.b) fun t=>yh t) fun u=>zw u (z6 x.1 x.c (zw (!((yD x.1 x.c).b)) (z6 x.D x.c (if 0≤x.c then if x.c<((List.length (lh x.D x.c ((yD x.D x.c).1,true,(yD x.D x.c).C)):Nat):Int) then k0 (x.c,true,lh (lh x.D x.c ((yD x.D x.c).1,true,(yD x.D x.c).C)) x.c ((yD (lh x.D x.c ((yD x.D x.c).1,true,(yD x.D x.c).C)) x.c).1,(yD (lh x.D x.c ((yD x.D x.c).1,true,(yD x.D x.c).C)) x.c).b,x.b)) else none else none)) (a (x.1,x.b,zh x.c,x.D)))) (k1 x.D))
def eg k0 k1:=iter (@k9 R k0 k1) FUEL
def ja (x:yc0):Option ykD:=nz (ye (ju x.1) fun r=>eg (fun s=>yh (s.C,s.1,s.b)) (fun t=>yh (t,0,false)) (x.1,x.2,0,r))
def y9E:List QF:=[y3D,ycE,ycQ]
def I2 (t:Elts ycb):St:=nd (stP ycb [.v 2,.d 5,.o 10000000,.v 1,.d 34] [(10000000,[])] t)
def y0s:Gk k8:=fun κ=>nd (k9 (zM κ none ykC [.d 4,.o 10000000,.v 2,.o 10000000,.d 35] [(10000000,[])]) (zM κ (some 0) [yL] [.d 7,.o 10000000,.d 35] [(10000000,[])]))
def y9F:Lp:=YT 3 (zR ycb I2) @y0s ZM
theorem ycX:LK y9E y9F 186 Tryz.f186 0:=Zm 3 I2 @y0s
def ycY:=qN 186 ja y6V 1 y9E y9F Tryz.func186 ⟨ycX,trivial⟩
abbrev kZ:Type:=ykE
def k_ (k0:Int→Option R) (a:kZ→Option R) (x:kZ):Option R:=nz (Z0 x.d x.e.z (z6 x.e x.d (ye (KJ (x.1,x.b)) fun r=>zle (Y4 x.e x.d) r (a (x.1,x.b,x.d,zh x.d,x.e,x.F)) (a (wX x (zh x.d,x.e,x.F))))) (k0 x.c))
def fH k0:=iter (@k_ R k0) FUEL
def kw (x:yeV):Option Int:=nz (fH (fun r=>yh r) (x.c,x.D,-1,0,x.1,x.b))
def y9G:List QF:=[yhW]
def I3 (t:Elts ycc):St:=nd (stP ycc [.d 1,.v 2,.b 3,.d 3,.v 2,.d 18] [(3,[.v 2])] t)
def y0t:Gk kZ:=fun κ=>nd (k_ (zM κ (some 0) [tI] [.d 7,.v 1,.d 19] []))
def y9H:Lp:=YT 3 (zR ycc I3) @y0t ZM
theorem ycZ:LK y9G y9H 301 Tryz.f301 0:=Zm 3 I3 @y0t
def yi4:=qN 301 kw y6W 1 y9G y9H Tryz.func301 ⟨ycZ,trivial⟩
abbrev d8:Type:=ykF
def kx (k0:yeW→Option R) (k1:AX→Option R) (a:d8→Option R) (x:d8):Option R:=nz (Z0 x.d x.1.z (z6 x.1 x.d (WM ((yy x.1 x.d).1==x.b) (z6 x.1 x.d (yh ((yy x.1 x.d).b==x.c))) fun r=>zw r (z6 x.1 x.d (k0 (true,gD (yy x.1 x.d)))) (a (wX x (zh x.d,gD x.E))))) (k1 x.E))
def lW k0 k1:=iter (@kx R k0 k1) FUEL
def VG (x:ykG):Option Hn:=nz (lW (fun r=>yh (uk r.2 r.1)) (fun s=>yh (0,0,0,0,0,false)) (Y9 x (0,0,0,0,0,0)))
def y9I:List QF:=[]
def I4 (t:Elts ycd):St:=nd (stP ycd [.v 3,.d 3,.b 6,.d 1,.v 1,.d 27] [(6,[.v 5])] t)
def y0u:Gk d8:=fun κ=>nd (kx (zM κ none yeX [.d 6,.b 6,.v 1,.d 28] [(6,[.v 5])]) (zM κ (some 0) j6 [.d 6,.b 6,.d 29] [(6,[.v 5])]))
def y9J:Lp:=YT 2 (zR ycd I4) @y0u ZM
theorem yc_:LK y9I y9J 335 Tryz.f335 0:=Zm 2 I4 @y0u
def yi5:=qN 335 VG y6X 1 y9I y9J Tryz.func335 ⟨yc_,trivial⟩
abbrev ve:Type:=ykH
def vf (k0:yeW→Option R) (k1:AX→Option R) (a:ve→Option R) (x:ve):Option R:=nz (zge x.c 0 (z6 x.d x.c (ye (VG (yK x.d x.c,x.1,x.b)) fun r=>KA r.F (r.c==0) fun s=>zw s (k0 (false,0,0,0,0,0)) (zw r.F (k0 (true,r.1,r.b,r.c,r.d,r.e)) (a (x.1,x.b,jE x.c,Dx x.D))))) (k1 x.E))
def iz k0 k1:=iter (@vf R k0 k1) FUEL
def QC (x:ykI):Option Hn:=nz (iz (fun r=>yh (uk r.2 r.1)) (fun s=>yh (0,0,0,0,0,false)) (x.b,x.C,jE x.1.z,x.1,0,0,0,0,0))
def y9K:List QF:=[yi5]
def I5 (t:Elts yce):St:=nd (stP yce [.d 1,.v 2,.b 3,.d 2,.b 6,.d 1,.v 1,.d 31] [(3,[.v 1]),(6,[.v 5])] t)
def y0v:Gk ve:=fun κ=>nd (vf (zM κ none yeX [.d 6,.b 6,.v 1,.d 32] [(6,[.v 5])]) (zM κ (some 0) j6 [.d 6,.b 6,.d 33] [(6,[.v 5])]))
def y9L:Lp:=YT 2 (zR yce I5) @y0v ZM
theorem yd0:LK y9K y9L 302 Tryz.f302 0:=Zm 2 I5 @y0v
def ylk:=qN 302 QC y6Y 1 y9K y9L Tryz.func302 ⟨yd0,trivial⟩
def WO (x:yeV):Option Hn:=nz (ye (kw x) fun r=>ye (yx (r,0,jE x.b.z)) fun s=>zw (!s) (yh (0,0,0,0,0,false)) (z6 x.b r (ye (QC (yt x.b r,x.c,x.D)) fun t=>yh t)))
def yd1:=q0 252 WO y6Z [mI,yi4,ylk] Tryz.func252
def zF (x:List y7):Option (List yc):=nz (ZE x.z 0 (yh ([]:List yc)) (YS ([]:List y7) x 40 (yh ([([]:List y7)++x]:List yc))))
def y3H:=q0 308 zF y6_ [] Tryz.func308
def jS (x:ykJ):Option ykK:=nz (ye (zX x.1) fun r=>zge (jE r.z) 0 (z6 r (jE r.z) (ye (VG (yK r (jE r.z),x.b,x.c)) fun s=>WM (decide (jE r.z≥0)) (z6 r (jE r.z) (dO (decide (((List.length (yK r (jE r.z)):Nat):Int)<4)) s.F fun t=>yh t)) fun u=>zw u (z6 r (jE r.z) (ye (Yk (yK r (jE r.z),gD x.2)) fun v=>z6 r (jE r.z) (ye (Y6 (lh r (jE r.z) v)) fun w=>zw w (yh (lh r (jE r.z) v,true)) (ye (z7 x.1) fun p=>ye (Yk (p,x.2)) fun q=>ye (Z5 q) fun m=>nC m.z 8 (ye (zX x.1) fun n=>yh (n,false)) (ye (zF m) fun o=>ye (Y6 o) fun e=>zw (!e) (ye (zX x.1) fun f=>yh (f,false)) (ye (zF m) fun g=>yh (g,true))))))) (YS r ([([x.2]:List y7)]:List yc) 24 (ye (Y6 (r++([([x.2]:List y7)]:List yc))) fun h=>zw h (yh (r++([([x.2]:List y7)]:List yc),true)) (ye (z7 x.1) fun i=>ye (Yk (i,x.2)) fun j=>ye (Z5 j) fun l=>nC l.z 8 (ye (zX x.1) fun y=>yh (y,false)) (ye (zF l) fun z=>ye (Y6 z) fun b=>zw (!b) (ye (zX x.1) fun c=>yh (c,false)) (ye (zF l) fun d=>yh (d,true)))))))) (WM (decide (jE r.z≥0)) (z6 r (jE r.z) (KA (decide (((List.length (yK r (jE r.z)):Nat):Int)<4)) true fun R=>yh R)) fun A=>zw A (z6 r (jE r.z) (ye (Yk (yK r (jE r.z),gD x.2)) fun B=>z6 r (jE r.z) (ye (Y6 (lh r (jE r.z) B)) fun C=>zw C (yh (lh r (jE r.z) B,true)) (ye (z7 x.1) fun D=>ye (Yk (D,x.2)) fun E=>ye (Z5 E) fun G=>nC G.z 8 (ye (zX x.1) fun H=>yh (H,false)) (ye (zF G) fun I=>ye (Y6 I) fun J=>zw (!J) (ye (zX x.1) fun K=>yh (K,false)) (ye (zF G) fun L=>yh (L,true))))))) (YS r ([([x.2]:List y7)]:List yc) 24 (ye (Y6 (r++([([x.2]:List y7)]:List yc))) fun M=>zw M (yh (r++([([x.2]:List y7)]:List yc),true)) (ye (z7 x.1) fun N=>ye (Yk (N,x.2)) fun O=>ye (Z5 O) fun P=>nC P.z 8 (ye (zX x.1) fun Q=>yh (Q,false)) (ye (zF P) fun T=>ye (Y6 T) fun U=>zw (!U) (ye (zX x.1) fun V=>yh (V,false)) (ye (zF P) fun W=>yh (W,true))))))))
def yi6:=q0 304 jS y70 [yi1,yhV,N1,ycs,y3F,y3H,yi5] Tryz.func304
def K0 (x:ykL):Option o9:=nz (oc 0 x.c x.1.z (YS ([]:List yf) (aD x.1 0 x.c) 8 (YS (([]:List yf)++aD x.1 0 x.c) x.d 8 (oc (zh x.c) x.1.z x.1.z (YS (([]:List yf)++aD x.1 0 x.c++x.d) (aD x.1 (zh x.c) x.1.z) 8 (oc 0 x.c x.b.z (YS ([]:List y6) (aD x.b 0 x.c) 24 (YS (([]:List y6)++aD x.b 0 x.c) x.E 24 (oc (zh x.c) x.b.z x.b.z (YS (([]:List y6)++aD x.b 0 x.c++x.E) (aD x.b (zh x.c) x.b.z) 24 (yh (([]:List yf)++aD x.1 0 x.c++x.d++aD x.1 (zh x.c) x.1.z,([]:List y6)++aD x.b 0 x.c++x.E++aD x.b (zh x.c) x.b.z))))))))))))
def yll:=q0 305 K0 y71 [] Tryz.func305
abbrev bd:Type:=ybY
def vg (k0:Int→Option R) (k1:Unit→Option R) (a:bd→Option R) (x:bd):Option R:=nz (Z0 (zh x.1) x.C.z (z6 x.C x.1 (ye (z7 (yt x.C x.1)) fun r=>z6 x.C (zh x.1) (ye (z7 (yt x.C (zh x.1))) fun s=>zle (JP r.z s.z) 6 (k0 x.1) (a (zh x.1,x.b,x.C))))) (k1 ()))
def iA k0 k1:=iter (@vg R k0 k1) FUEL
def KO (x:o9):Option Int:=nz (iA (fun r=>yh r) (fun s=>yh (-1)) (0,x.1,x.2))
def y9M:List QF:=[N1]
def I6 (t:Elts E_):St:=nd (stP E_ [.d 1,.b 1,.d 1,.v 1,.d 26] [(1,[.v 2])] t)
def y0w:Gk bd:=fun κ=>nd (vg (zM κ none [tI] [.d 2,.v 1,.d 27] []) (zM κ (some 0) [] [.d 30] []))
def y9N:Lp:=YT 2 (zR E_ I6) @y0w ZM
theorem yd2:LK y9M y9N 338 Tryz.f338 0:=Zm 2 I6 @y0w
def ylm:=qN 338 KO y72 1 y9M y9N Tryz.func338 ⟨yd2,trivial⟩
abbrev bf:Type:=ybY
def vh (k0:o9→Option R) (a:bf→Option R) (x:bf):Option R:=nz (zge x.1 0 (z6 x.C x.1 (ye (z7 (yt x.C x.1)) fun r=>z6 x.C (zh x.1) (ye (z7 (yt x.C (zh x.1))) fun s=>YS r s 40 (oc 0 (zh x.1) x.b.z (YS ([]:List yf) (aD x.b 0 (zh x.1)) 8 (oc (JP x.1 2) x.b.z x.b.z (YS (([]:List yf)++aD x.b 0 (zh x.1)) (aD x.b (JP x.1 2) x.b.z) 8 (oc 0 x.1 x.C.z (YS ([]:List y6) (aD x.C 0 x.1) 24 (ye (zF (r++s)) fun t=>YS (([]:List y6)++aD x.C 0 x.1) ([t]:List y6) 24 (oc (JP x.1 2) x.C.z x.C.z (YS (([]:List y6)++aD x.C 0 x.1++([t]:List y6)) (aD x.C (JP x.1 2) x.C.z) 24 (ye (KO (([]:List yf)++aD x.b 0 (zh x.1)++aD x.b (JP x.1 2) x.b.z,([]:List y6)++aD x.C 0 x.1++([t]:List y6)++aD x.C (JP x.1 2) x.C.z)) fun u=>a (u,([]:List yf)++aD x.b 0 (zh x.1)++aD x.b (JP x.1 2) x.b.z,([]:List y6)++aD x.C 0 x.1++([t]:List y6)++aD x.C (JP x.1 2) x.C.z)))))))))))))) (k0 x.2))
def iB k0:=iter (@vh R k0) FUEL
def JS (x:o9):Option o9:=nz (ye (KO x) fun r=>iB (fun s=>yh s) (r,x))
def y9O:List QF:=[N1,y3H,ylm]
def I7 (t:Elts E_):St:=nd (stP E_ [.d 1,.b 1,.b 2,.v 1,.d 56] [(1,[.o 10000000,.o 10000001]),(2,[.s,.s]),(10000000,[]),(10000001,[])] t)
def y0x:Gk bf:=fun κ=>nd (vh (zM κ (some 0) Vm [.d 1,.b 1,.b 2,.d 57] [(1,[.o 10000000,.o 10000001]),(2,[.s,.s]),(10000000,[]),(10000001,[])]))
def y9P:Lp:=YT 2 (zR E_ I7) @y0x ZM
theorem yd3:LK y9O y9P 309 Tryz.f309 0:=Zm 2 I7 @y0x
def yln:=qN 309 JS y73 1 y9O y9P Tryz.func309 ⟨yd3,trivial⟩
def YY (x:ykM):Option ykN:=nz (ye (JR (x.1,x.b)) fun r=>ye (ZC (x.1,x.b)) fun s=>wM (!s) (ye (wY x.C) fun t=>yh (!t)) fun u=>zw u (yh (r.1,r.2,false)) (ye (kw (x.1,x.b,x.c,x.d)) fun v=>z6 x.b v (ye (jS (yt x.b v,gD x.C)) fun w=>z6 x.1 v (ye (K0 (r.1,r.2,v,([Y4 x.1 v]:List yf),([w.1]:List y6))) fun p=>zw (!w.2) (z6 x.b v (ye (z7 (yt x.b v)) fun q=>ye (Yk (q,x.C)) fun m=>ye (Z5 m) fun n=>z6 x.1 v (z6 n (fY (Int.tdiv (zh n.z) 2)) (ye (KK (gD (yy n (fY (Int.tdiv (zh n.z) 2))))) fun o=>oc 0 (fY (Int.tdiv (zh n.z) 2)) n.z (ye (zF (aD n 0 (fY (Int.tdiv (zh n.z) 2)))) fun e=>oc (fY (Int.tdiv (zh n.z) 2)) n.z n.z (ye (zF (aD n (fY (Int.tdiv (zh n.z) 2)) n.z)) fun f=>ye (K0 (r.1,r.2,v,([Y4 x.1 v,o]:List yf),([e,f]:List y6))) fun g=>ye (JS g) fun h=>ye (ZC h) fun i=>zw (!i) (yh (r.1,r.2,false)) (yh (h.1,h.2,true)))))))) (WM (decide (v>0)) (ye (z7 w.1) fun j=>yh (j.z==0)) fun l=>zw l (ye (K0 (r.1,r.2,v,([]:List yf),([]:List y6))) fun y=>ye (JS y) fun z=>ye (ZC z) fun b=>zw (!b) (yh (r.1,r.2,false)) (yh (z.1,z.2,true))) (ye (JS p) fun c=>ye (ZC c) fun d=>zw (!d) (yh (r.1,r.2,false)) (yh (c.1,c.2,true))))))))
def y3I:=q0 253 YY y74 [yhY,ycP,N1,yhX,yi4,y3E,yi6,yll,ycs,y3F,y3H,yln] Tryz.func253
def Ja (x:yc0):Option (List ya):=nz (ye (ju x.1) fun r=>ye (wg x.1) fun s=>WM s (ye (yx (x.2,0,jE x.1.z)) fun t=>yh t) fun u=>WM u (z6 x.1 x.2 (yh ((yD x.1 x.2).b))) fun v=>zw v (z6 x.1 x.2 (z6 r x.2 (yh (lh r x.2 (Int.tmod (zh ((yD x.1 x.2).1)) 1000,false,0))))) (yh r))
def yd4:=q0 262 Ja y75 [mI,ycE,ycQ] Tryz.func262
def VH (x:ykO):Option f6:=nz (KA x.L (x.i==1) fun r=>zw r (ye (Ja (x.d,x.j)) fun s=>yh (wX x (s,x.e,x.f))) (yh (x.1,x.b,x.c,x.d,x.e,x.f)))
def ylo:=q0 254 VH y76 [yd4] Tryz.func254
def YG (x:y3v):Option N0:=nz (ye (WO (x.1,x.b,x.g,x.h)) fun r=>ye (YY (x.1,x.b,x.G)) fun s=>zw (!s.C) (yh (false,x.1,x.b,x.c,x.d,x.e,x.f)) (ye (VH (s.1,s.b,fX x.C r)) fun t=>yh (true,t)))
def yd5:=q0 187 YG y77 [yd1,y3I,ylo] Tryz.func187
def VI (x:ykP):Option pa:=nz (ye (yF (x.1,x.b,x.c,x.d,x.e,x.f)) fun r=>ye (J9 (x.1,x.b,x.c,x.d,x.e,x.f,x.g,x.h)) fun s=>WM (s==0) (ye (Y5 x.I) fun t=>yh (!t)) fun u=>zw u (Mg 4 0 (yh (aN r 4)) (ye (ja (x.d,x.I)) fun v=>zw v.C (ye (z_ (x.1,x.b,x.c,x.d,x.e,x.f,x.g)) fun w=>z6 x.e w (z6 v.1 v.b (ye (YG (wX r (v.1,r.e,r.F,x.h,(yC x.e w).b,1,v.b,(yD v.1 v.b).1))) fun p=>ye (zD (Vn x (aN p.2 p.1))) fun q=>yh q))) (ye (zD (Vn x (wX r (v.1,r.e,r.F,false)))) fun m=>yh m))) (Mg s 0 (yh (aN r s)) (ye (ja (x.d,x.I)) fun n=>zw n.C (ye (z_ (x.1,x.b,x.c,x.d,x.e,x.f,x.g)) fun o=>z6 x.e o (z6 n.1 n.b (ye (YG (wX r (n.1,r.e,r.F,x.h,(yC x.e o).b,1,n.b,(yD n.1 n.b).1))) fun e=>ye (zD (Vn x (aN e.2 e.1))) fun f=>yh f))) (ye (zD (Vn x (wX r (n.1,r.e,r.F,false)))) fun g=>yh g))))
def q90:=q0 90 VI yh0 [TX,y3D,H_,SR,ycW,ycY,yd5] Tryz.func90
abbrev vi:Type:=ykQ
def vj (k0:List yf→Option R) (a:vi→Option R) (x:vi):Option R:=nz (KA (decide (x.b≥0)) (decide (x.C.z≤x.1.z)) fun r=>zw r (z6 x.1 x.b (YS x.C ([(yT x.1 x.b).1]:List yf) 8 (z6 x.1 x.b (ye (YL (x.1,(yT x.1 x.b).2)) fun s=>a (x.1,s,x.C++([(yT x.1 x.b).1]:List yf)))))) (k0 x.C))
def iC k0:=iter (@vj R k0) FUEL
def KP (x:Hm):Option (List yf):=nz (ye (YL x) fun r=>iC (fun s=>yh s) (x.1,r,([]:List yf)))
def y9Q:List QF:=[SQ]
def I8 (t:Elts ycf):St:=nd (stP ycf [.v 1,.d 4,.o 10000000,.v 1,.d 29] [(10000000,[])] t)
def y0y:Gk vi:=fun κ=>nd (vj (zM κ (some 0) [z4] [.d 5,.o 10000000,.d 30] [(10000000,[])]))
def y9R:Lp:=YT 3 (zR ycf I8) @y0y ZM
theorem yd6:LK y9Q y9R 310 Tryz.f310 0:=Zm 3 I8 @y0y
def yi7:=qN 310 KP y78 1 y9Q y9R Tryz.func310 ⟨yd6,trivial⟩
abbrev bg:Type:=ykR
def Wq (k0:List y7→Option R) (a:bg→Option R) (x:bg):Option R:=nz (Z0 x.b x.D.z (z6 x.D x.b (zw ((yy x.D x.b).1==x.1) (z6 x.D x.b (YS x.c ([gD (yy x.D x.b)]:List y7) 40 (a (x.1,zh x.b,x.c++([gD (yy x.D x.b)]:List y7),x.D)))) (a (x.1,zh x.b,x.c,x.D)))) (k0 x.c))
def iD k0:=iter (@Wq R k0) FUEL
def QD (x:y3h):Option (List y7):=nz (ye (zA (x.1,x.b)) fun r=>iD (fun s=>yh s) (x.C,0,([]:List y7),r))
def y9S:List QF:=[N2]
def I9 (t:Elts ycg):St:=nd (stP ycg [.d 1,.v 1,.d 3,.o 10000000,.o 10000001,.v 1,.d 24] [(10000000,[]),(10000001,[])] t)
def y0z:Gk bg:=fun κ=>nd (Wq (zM κ (some 0) [zj] [.d 5,.o 10000000,.d 26] [(10000000,[])]))
def y9T:Lp:=YT 4 (zR ycg I9) @y0z ZM
theorem yd7:LK y9S y9T 339 Tryz.f339 0:=Zm 4 I9 @y0z
def ylp:=qN 339 QD y79 1 y9S y9T Tryz.func339 ⟨yd7,trivial⟩
abbrev d9:Type:=ykS
def ky (k0:Bool→Option R) (k1:Unit→Option R) (a:d9→Option R) (x:d9):Option R:=nz (Z0 x.C x.1.z (z6 x.1 x.C (zw (Y4 x.1 x.C==x.b) (k0 true) (a (x.1,x.b,zh x.C)))) (k1 ()))
def lX k0 k1:=iter (@ky R k0 k1) FUEL
def cg (x:ykT):Option Bool:=nz (lX (fun r=>yh r) (fun s=>yh false) (x.1,x.2,0))
def y9U:List QF:=[]
def Ia (t:Elts ych):St:=nd (stP ych [.v 2,.d 3,.v 1,.d 12] [] t)
def y0A:Gk d9:=fun κ=>nd (ky (zM κ none [tB] [.d 4,.v 1,.d 13] []) (zM κ (some 0) [] [.d 18] []))
def y9V:Lp:=YT 2 (zR ych Ia) @y0A ZM
theorem yd8:LK y9U y9V 340 Tryz.f340 0:=Zm 2 Ia @y0A
def ylq:=qN 340 cg y7a 1 y9U y9V Tryz.func340 ⟨yd8,trivial⟩
abbrev bh:Type:=ykU
def Wr (k0:ykV→Option R) (a:bh→Option R) (x:bh):Option R:=nz (Z0 x.c x.N.z (z6 x.N x.c (ye (cg (x.1,(yy x.N x.c).b)) fun r=>WM r (wM (!x.b) (z6 x.N x.c (yh (decide ((yy x.N x.c).b>x.j)))) fun s=>yh s) fun t=>zw t (z6 x.N x.c (a (x.1,true,zh x.c,Pb x.D (uk (yy x.N x.c) x.N)))) (a (x.1,x.b,zh x.c,XM x.D)))) (k0 (x.b,x.d,x.e,x.f,x.g,x.h,x.i,x.j,x.k,x.l,x.m)))
def iE k0:=iter (@Wr R k0) FUEL
def WP (x:ykX):Option Hn:=nz (ye (QD (x.1,x.b,x.c)) fun r=>iE (fun s=>yh (uk s.G s.1)) (x.D,false,0,0,0,0,0,0,0,0,0,0,0,r))
def y9W:List QF:=[ylp,ylq]
def Ib (t:Elts yci):St:=nd (stP yci [.d 2,.v 1,.d 3,.b 6,.d 1,.b 8,.v 1,.o 10000000,.v 1,.d 37] [(6,[.v 5]),(8,[.v 5]),(10000000,[])] t)
def y0B:Gk bh:=fun κ=>nd (Wr (zM κ (some 0) ykW [.d 6,.b 6,.d 1,.b 8,.v 1,.d 39] [(6,[.v 5]),(8,[.v 5])]))
def y9X:Lp:=YT 5 (zR yci Ib) @y0B ZM
theorem yd9:LK y9W y9X 311 Tryz.f311 0:=Zm 5 Ib @y0B
def yi8:=qN 311 WP y7b 1 y9W y9X Tryz.func311 ⟨yd9,trivial⟩
def wm (x:yeY):Option Hn:=nz (ye (KP (x.c,x.E)) fun r=>ZE r.z 0 (yh (0,0,0,0,0,false)) (oc 1 r.z r.z (ye (WP (x.1,x.b,x.d,aD r 1 r.z)) fun s=>yh s)))
def yi9:=q0 255 wm y7c [yi7,yi8] Tryz.func255
def ZO (x:ykY):Option N0:=nz (z6 x.e x.g (ye (wm (wX x (x.H,(yC x.e x.g).b))) fun r=>KA r.F (r.c==1) fun s=>zw s (ye (YG (Vn x (x.H,(yC x.e x.g).b,2,0,0))) fun t=>yh t) (ye (WO (x.1,x.b,x.H,(yC x.e x.g).b)) fun u=>zw (!u.F) (yh (true,x.1,x.b,x.c,x.d,x.e,x.f)) (ye (YG (Vn x (x.H,(yC x.e x.g).b,0,0,0))) fun v=>yh v))))
def yia:=q0 188 ZO y7d [yd5,yd1,yi9] Tryz.func188
def kz (x:y3u):Option pa:=nz (ye (yF (x.1,x.b,x.c,x.d,x.e,x.f)) fun r=>ye (J9 x) fun s=>Mg s 0 (yh (aN r s)) (ye (z_ (x.1,x.b,x.c,x.d,x.e,x.f,x.g)) fun t=>ye (ZO (aN r (t,x.H))) fun u=>ye (zD (Vn x (aN u.2 u.1))) fun v=>yh v))
def q91:=q0 91 kz yh1 [TX,H_,SR,ycW,yia] Tryz.func91
abbrev K1:Type:=y3w ⊕ y3y
def wo (k0:ykZ→Option R) (k1:yl0→Option R) (a:K1→Option R):K1→Option R
 | .inl x=>nz (KA (decide (x.d≥x.1)) x.c fun r=>zw r (ye (ZO (uk x.M (x.l,x.b,x.d))) fun s=>a (Sum.inr (x.1,x.b,s.1,jE x.d,zT7 x.E (wX s.2 (s.G,s.e,s.f))))) (k0 (wX x x.E)))
 | .inr x=>nz (KA (decide (x.d≥x.1)) x.c fun r=>zw r (ye (ZO (wX x.L (x.p,x.Q,x.o,x.b,x.d))) fun s=>a (Sum.inr (x.1,x.b,s.1,jE x.d,zT7 x.E (wX s.2 (s.G,s.e,s.f))))) (k1 (wX x x.E)))
def K2 k0 k1:=iter (@wo R k0 k1) FUEL
def KQ (x:y3u):Option pa:=nz (ye (yF (x.1,x.b,x.c,x.d,x.e,x.f)) fun r=>ye (J9 (zT7 x 0)) fun s=>WM (s==0) (ye (yx (x.H,1,12)) fun t=>yh (!t)) fun u=>zw u (Mg 4 0 (yh (aN r 4)) (ye (z_ (x.1,x.b,x.c,x.d,x.e,x.f,x.g)) fun v=>z6 x.e v (K2 (fun w=>z6 w.P w.b (ye (zD (Vn w.D (fX w.L (lh w.P w.b ((yC w.P w.b).1,(yC w.P w.b).b,w.1,(yC w.P w.b).D),w.k,w.c)))) fun p=>yh p)) (fun q=>z6 q.P q.b (ye (zD (Vn q.D (wX q.K (q.o,lh q.P q.b ((yC q.P q.b).1,(yC q.P q.b).b,q.1,(yC q.P q.b).D),q.n,q.c)))) fun m=>yh m)) (Sum.inl (x.H,v,true,jE ((yC x.e v).c),Vn x (0,r.F,r.1,r.b,r.c,r.d,r.e)))))) (Mg s 0 (yh (aN r s)) (ye (z_ (x.1,x.b,x.c,x.d,x.e,x.f,x.g)) fun n=>z6 x.e n (K2 (fun o=>z6 o.P o.b (ye (zD (Vn o.D (fX o.L (lh o.P o.b ((yC o.P o.b).1,(yC o.P o.b).b,o.1,(yC o.P o.b).D),o.k,o.c)))) fun e=>yh e)) (fun f=>z6 f.P f.b (ye (zD (Vn f.D (wX f.K (f.o,lh f.P f.b ((yC f.P f.b).1,(yC f.P f.b).b,f.1,(yC f.P f.b).D),f.n,f.c)))) fun g=>yh g)) (Sum.inl (x.H,n,true,jE ((yC x.e n).c),Vn x (0,r.F,r.1,r.b,r.c,r.d,r.e)))))))
def y0C:List QF:=[mI,TX,H_,SR,ycW,yia]
def pn (t:Elts y3x):St:=nd (stP y3x [.d 2,.v 1,.b 3,.d 2,.b 6,.d 1,.b 8,.d 1,.v 3,.d 49] [(3,[.v 6]),(6,[.s,.s,.s,.s,.s,.v 1]),(8,[.o 10000000,.o 10000001,.o 10000002,.o 10000003,.o 10000004,.v 1]),(10000000,[]),(10000001,[]),(10000002,[]),(10000003,[]),(10000004,[])] t)
theorem y0D: ∀ s t,zR y3x pn s=some t→pn t=s:=Y3 fun t=>by kernel_rfl
def po (t:Elts y3z):St:=nd (stP y3z [.d 2,.v 1,.b 3,.d 2,.b 6,.d 1,.b 8,.d 1,.v 3,.d 49] [(3,[.v 6]),(6,[.s,.s,.s,.s,.s,.v 1]),(8,[.v 3,.o 10000000,.o 10000001,.v 1]),(10000000,[]),(10000001,[])] t)
theorem y0E: ∀ s t,zR y3z po s=some t→po t=s:=Y3 fun t=>by kernel_rfl
def pp:(y3w ⊕ y3y)→St:=Sum.elim pn po
def B3 (s:St):Option (y3w ⊕ y3y):=((zR y3x pn s).map Sum.inl).or (((zR y3z po) s).map Sum.inr)
theorem y0F: ∀ s t,B3 s=some t→pp t=s:=Kz y0D y0E
def F3:Gk K1:=fun κ=>nd (wo (zM κ (some 0) yk_ [.d 2,.v 1,.b 3,.d 2,.b 6,.d 1,.b 8,.d 1,.v 2,.d 50] [(3,[.v 6]),(6,[.s,.s,.s,.s,.s,.v 1]),(8,[.o 10000000,.o 10000001,.o 10000002,.o 10000003,.o 10000004,.v 1]),(10000000,[]),(10000001,[]),(10000002,[]),(10000003,[]),(10000004,[])]) (zM κ (some 0) yl1 [.d 2,.v 1,.b 3,.d 2,.b 6,.d 1,.b 8,.d 1,.v 2,.d 50] [(3,[.v 6]),(6,[.s,.s,.s,.s,.s,.v 1]),(8,[.v 3,.o 10000000,.o 10000001,.v 1]),(10000000,[]),(10000001,[])]))
def y0G:Lp:=YT 10 B3 @F3 ZM
theorem y0H:LF y0C y0G 92 10 Tryz.f92 0 pp @F3 fun v:y3w=> .inl v:=fun R κ again v=>by kernel_rfl
theorem y0I:LF y0C y0G 92 10 Tryz.f92 0 pp @F3 fun v:y3y=> .inr v:=fun R κ again v=>by kernel_rfl
theorem yda:LF y0C y0G 92 10 Tryz.f92 0 pp @F3 fun t=>t:=(LC.sum y0H y0I)
theorem ydb:LK y0C y0G 92 Tryz.f92 0:=Gc (u:=B3) y0F yda
def q92:=qN 92 KQ yh2 1 y0C y0G Tryz.func92 ⟨ydb,trivial⟩
def eh (x:yeY):Option Hn:=nz (ye (KP (x.c,x.E)) fun r=>ye (WP (x.1,x.b,x.d,r)) fun s=>yh s)
def ylr:=q0 351 eh y7e [yi7,yi8] Tryz.func351
def ei (x:yl2):Option Bool:=nz (ye (eh (fX x x.I)) fun r=>KA r.F (r.b==x.e) fun s=>yh s)
def yls:=q0 349 ei y7f [ylr] Tryz.func349
abbrev vP:Type:=yl3
def jT (k0:Bool→Option R) (k1:Unit→Option R) (a:vP→Option R) (x:vP):Option R:=nz (Z0 x.1 x.f.z (z6 x.f x.1 (WM (decide ((yC x.f x.1).c>x.h)) (z6 x.f x.1 (ye (ei (wX x.2 (uk x.H ((yC x.f x.1).b)))) fun r=>yh r)) fun s=>zw s (k0 true) (a (zh x.1,XM x.2)))) (k1 ()))
def db k0 k1:=iter (@jT R k0 k1) FUEL
def K3 (x:y3v):Option Bool:=nz (db (fun r=>yh r) (fun s=>yh false) (0,XM x))
def y9Y:List QF:=[yls]
def Ic (t:Elts ycj):St:=nd (stP ycj [.d 2,.b 2,.b 3,.d 1,.v 1,.d 30] [(2,[.v 6]),(3,[.v 5])] t)
def y0J:Gk vP:=fun κ=>nd (jT (zM κ none [tB] [.d 4,.v 1,.d 31] []) (zM κ (some 0) [] [.d 36] []))
def y9Z:Lp:=YT 2 (zR ycj Ic) @y0J ZM
theorem ydc:LK y9Y y9Z 341 Tryz.f341 0:=Zm 2 Ic @y0J
def ylt:=qN 341 K3 y7g 1 y9Y y9Z Tryz.func341 ⟨ydc,trivial⟩
abbrev f9:Type:=yeZ
def KR (k0:Bool→Option R) (k1:Unit→Option R) (a:f9→Option R) (x:f9):Option R:=nz (Z0 x.b x.g.z (z6 x.g x.b (zw ((yC x.g x.b).b==x.1) (k0 false) (a (x.1,zh x.b,Dx x.C)))) (k1 ()))
def nE k0 k1:=iter (@KR R k0 k1) FUEL
def aw (x:pa):Option Bool:=nz (nE (fun r=>yh r) (fun s=>yh true) (x.G,0,x.1,x.b,x.c,x.d,x.e,x.f))
def y9_:List QF:=[]
def Ie (t:Elts y3A):St:=nd (stP y3A [.d 1,.v 1,.b 2,.d 2,.v 1,.d 15] [(2,[.v 6])] t)
def y0K:Gk f9:=fun κ=>nd (KR (zM κ none [tB] [.d 4,.v 1,.d 16] []) (zM κ (some 0) [] [.d 21] []))
def ya0:Lp:=YT 2 (zR y3A Ie) @y0K ZM
theorem ydd:LK y9_ ya0 314 Tryz.f314 0:=Zm 2 Ie @y0K
def yib:=qN 314 aw y7h 1 y9_ ya0 Tryz.func314 ⟨ydd,trivial⟩
def JT (x:pa):Option Int:=nz (ye (WN (x.c,x.G)) fun r=>ye (aw x) fun s=>dO (!s) (r.z !=1) fun t=>zw t (yh 0) (z6 r 0 (yh (Y4 r 0))))
def yic:=q0 258 JT y7i [ycG,yib] Tryz.func258
def dc (x:y3v):Option Bool:=nz (ye (JT (Vn x x.h)) fun r=>ZE r 0 (yh false) (ye (WO (x.1,x.b,x.g,r)) fun s=>yh (!s.F)))
def ylu:=q0 342 dc y7j [yd1,yic] Tryz.func342
def QE (x:yl4):Option Bool:=nz (ZE x.g 1 (ye (K3 (Vn x x.H)) fun r=>yh (!r)) (ZE x.g 2 (ye (wm (wX x (x.h,x.i))) fun s=>KA (x.j==2) (!s.F) fun t=>yh t) (ye (dc (Vn x x.H)) fun u=>yh u)))
def ylv:=q0 312 QE y7k [yi9,ylt,ylu] Tryz.func312
abbrev bj:Type:=y3l
def Ws (k0:yl5→Option R) (k1:M_→Option R) (a:bj→Option R) (x:bj):Option R:=nz (Z0 x.b x.I.z (z6 x.I x.b (zw ((yy x.I x.b).b==x.1) (k0 (x.1,false,x.c,x.d,x.e,x.f,x.g,x.h)) (a (x.1,zh x.b,Pf x.C)))) (k1 (x.1,x.c,x.d,x.e,x.f,x.g,x.h)))
def iF k0 k1:=iter (@Ws R k0 k1) FUEL
def QG (x:pa):Option Bool:=nz (ye (zA (x.1,x.b)) fun r=>iF (fun s=>yh s.b) (fun t=>ye (aw (aN t.2 t.1)) fun u=>WM u (ye (WN (t.d,t.1)) fun v=>yh (decide (v.z≤1))) fun w=>yh w) (x.G,0,Vn x r))
def ya1:List QF:=[N2,ycG,yib]
def Ig (t:Elts Cw):St:=nd (stP Cw [.d 1,.v 1,.b 2,.d 2,.o 10000000,.v 1,.d 27] [(2,[.v 6]),(10000000,[])] t)
def y0L:Gk bj:=fun κ=>nd (Ws (zM κ none yl6 [.d 1,.v 1,.b 2,.d 1,.v 1,.d 29] [(2,[.v 6])]) (zM κ (some 0) sE [.d 1,.v 1,.b 2,.d 31] [(2,[.v 6])]))
def ya2:Lp:=YT 3 (zR Cw Ig) @y0L ZM
theorem yde:LK ya1 ya2 313 Tryz.f313 0:=Zm 3 Ig @y0L
def ylw:=qN 313 QG y7l 1 ya1 ya2 Tryz.func313 ⟨yde,trivial⟩
abbrev VJ:Type:=y3l
def Jp (k0:yeT→Option R) (k1:ye_→Option R) (a:VJ→Option R) (x:VJ):Option R:=nz (Z0 x.b x.I.z (z6 x.I x.b (ye (QE (Vn x.C (x.1,gD (yy x.I x.b)))) fun r=>zw r (k0 (x.1,x.b,x.1,x.C)) (a (x.1,zh x.b,Pf x.C)))) (k1 (x.1,x.C)))
def ej k0 k1:=iter (@Jp R k0 k1) FUEL
abbrev VK:Type:=ye_
def Jq (k0:yeZ→Option R) (k1:f6→Option R) (a:VK→Option R) (x:VK):Option R:=nz (zle x.1 3 (ej (fun r=>k0 (r.1,r.b,r.d,r.e,r.f,r.g,r.h,r.i)) (fun s=>a (zh s.1,Pf s.2)) (x.1,0,Pf x.2)) (k1 (x.b,x.c,x.d,x.e,x.f,x.g)))
def ek k0 k1:=iter (@Jq R k0 k1) FUEL
abbrev vQ:Type:=M_
def jU (k0:Hl→Option R) (k1:Unit→Option R) (a:vQ→Option R) (x:vQ):Option R:=nz (Z0 x.1 x.d.z (z6 x.d x.1 (ye (QG (aN x.2 ((yT x.d x.1).1))) fun r=>zw r (k0 (4,x.1)) (a (zh x.1,Dx x.2)))) (k1 ()))
def de k0 k1:=iter (@jU R k0 k1) FUEL
def vk (x:f6):Option Hl:=nz (ye (yZ x) fun r=>zw (!r) (yh (0,0)) (ye (zA (x.1,x.b)) fun s=>ek (fun t=>yh (t.1,t.b)) (fun u=>de (fun v=>yh v) (fun w=>yh (0,0)) (0,Dx u)) (1,aN x s)))
def Pj:List QF:=[q85,N2,ylv,ylw]
def Ih (t:Elts Cw):St:=nd (stP Cw [.d 1,.b 1,.d 2,.o 10000000,.v 2,.d 42] [(1,[.v 6]),(10000000,[])] t)
def y0M:Gk VJ:=fun κ=>nd (Jp (zM κ none y3k [.d 1,.b 1,.v 2,.o 10000000,.v 1,.d 43] [(1,[.v 6]),(10000000,[])]) (zM κ (some 2) y3B [.d 1,.b 1,.d 2,.o 10000000,.v 1,.d 43] [(1,[.v 6]),(10000000,[])]))
def Ii (t:Elts y3B):St:=nd (stP y3B [.d 1,.b 1,.d 2,.o 10000000,.v 1,.d 43] [(1,[.v 6]),(10000000,[])] t)
def y0N:Gk VK:=fun κ=>nd (Jq (zM κ none y3A [.d 1,.b 1,.v 2,.d 45] [(1,[.v 6])]) (zM κ (some 0) Z1 [.d 1,.b 1,.d 47] [(1,[.v 6])]))
def Dz (t:Elts sE):St:=nd (stP sE [.d 1,.b 1,.d 5,.v 1,.d 41] [(1,[.v 6])] t)
def Pk:Gk vQ:=fun κ=>nd (jU (zM κ none ybV [.d 2,.v 2,.d 45] []) (zM κ (some 4) [] [.d 49] []))
def Pm:Lp:=YT 13 (zR sE Dz) @Pk (YT 5 (zR y3B Ii) @y0N (YT 8 (zR Cw Ih) @y0M ZM))
theorem ydf:LK Pj Pm 256 Tryz.f256 1:=Zm 8 Ih @y0M
theorem ydg:LK Pj Pm 256 Tryz.f256 0:=Zm 5 Ii @y0N
theorem y3J:LK Pj Pm 256 Tryz.f256 2:=Zm 13 Dz @Pk
def ylx:=qN 256 vk y7m 3 Pj Pm Tryz.func256 ⟨ydg,ydf,y3J,trivial⟩
def wq (x:y3v):Option N0:=nz (ye (YG (zT8 x (0,0,0))) fun r=>yh r)
def yly:=q0 257 wq y7n [yd5] Tryz.func257
abbrev bl:Type:=yl7
def vn (k0:List yb→Option R) (a:bl→Option R) (x:bl):Option R:=nz (Z0 x.d x.1.z (z6 x.1 x.d (zw ((yT x.1 x.d).2==x.b) (z6 x.1 x.c (zw (x.d !=x.c) (YS x.E ([((yT x.1 x.d).1,(yT x.1 x.c).2)]:List yb) 16 (a (wX x (zh x.d,x.E++([((yT x.1 x.d).1,(yT x.1 x.c).2)]:List yb))))) (a (wX x (zh x.d,x.E))))) (zw (x.d !=x.c) (YS x.E ([((yT x.1 x.d).1,(yT x.1 x.d).2)]:List yb) 16 (a (wX x (zh x.d,x.E++([((yT x.1 x.d).1,(yT x.1 x.d).2)]:List yb))))) (a (wX x (zh x.d,x.E)))))) (k0 x.E))
def iG k0:=iter (@vn R k0) FUEL
def KS (x:Hm):Option y3i:=nz (ye (YL x) fun r=>wM (decide (r<0)) (ye (JQ x.1) fun s=>yh (!s)) fun t=>zw t (YS ([]:List yb) x.1 16 (yh (([]:List yb)++x.1,false))) (iG (fun u=>yh (u,true)) (x.1,x.2,r,0,([]:List yb))))
def ya3:List QF:=[ycC,SQ]
def Ij (t:Elts yck):St:=nd (stP yck [.v 2,.d 4,.v 1,.o 10000000,.v 1,.d 43] [(10000000,[])] t)
def y0O:Gk bl:=fun κ=>nd (vn (zM κ (some 0) [yY] [.d 7,.o 10000000,.d 44] [(10000000,[])]))
def ya4:Lp:=YT 6 (zR yck Ij) @y0O ZM
theorem ydh:LK ya3 ya4 259 Tryz.f259 0:=Zm 6 Ij @y0O
def ylz:=qN 259 KS y7o 1 ya3 ya4 Tryz.func259 ⟨ydh,trivial⟩
def Zs (x:f6):Option Dm:=nz (ye (yF x) fun r=>ye (vk x) fun s=>ye (zA (x.1,x.b)) fun t=>ZE s.1 1 (ZE s.1 1 (z6 t s.2 (ye (wq (aN r (gD (yy t s.2)))) fun u=>wM (!u.1) (ye (yZ u.2) fun v=>yh (!v)) fun w=>zw w (ye (yF x) fun p=>yh (aN p false)) (yh (aN u.2 true)))) (ZE s.1 3 (z6 t s.2 (ye (YY (r.1,r.b,(yy t s.2).1,(yy t s.2).b,0,0,0)) fun q=>ye (JT (aN x ((yy t s.2).b))) fun m=>ye (YY (q.1,q.b,(yy t s.2).1,m,kl (yy t s.2).C)) fun n=>KA q.C n.C fun o=>wM (!o) (ye (yZ (n.1,n.b,r.C)) fun e=>yh (!e)) fun f=>zw f (ye (yF x) fun g=>yh (aN g false)) (yh (n.1,n.b,mH r.C true)))) (ZE s.1 4 (z6 x.c s.2 (ye (KS (x.c,(yT x.c s.2).1)) fun h=>wM (!h.2) (ye (yZ (r.1,r.b,h.1,r.D)) fun i=>yh (!i)) fun j=>zw j (ye (yF x) fun l=>yh (aN l false)) (yh (r.1,r.b,h.1,Y9 r.D true)))) (wM (!(s.1 !=0)) (ye (yZ r) fun y=>yh (!y)) fun z=>zw z (ye (yF x) fun b=>yh (aN b false)) (yh (aN r true)))))) (ZE s.1 2 (z6 t s.2 (ye (wq (aN r (gD (yy t s.2)))) fun c=>wM (!c.1) (ye (yZ c.2) fun d=>yh (!d)) fun R=>zw R (ye (yF x) fun A=>yh (aN A false)) (yh (aN c.2 true)))) (ZE s.1 3 (z6 t s.2 (ye (YY (r.1,r.b,(yy t s.2).1,(yy t s.2).b,0,0,0)) fun B=>ye (JT (aN x ((yy t s.2).b))) fun C=>ye (YY (B.1,B.b,(yy t s.2).1,C,kl (yy t s.2).C)) fun D=>KA B.C D.C fun E=>wM (!E) (ye (yZ (D.1,D.b,r.C)) fun G=>yh (!G)) fun H=>zw H (ye (yF x) fun I=>yh (aN I false)) (yh (D.1,D.b,mH r.C true)))) (ZE s.1 4 (z6 x.c s.2 (ye (KS (x.c,(yT x.c s.2).1)) fun J=>wM (!J.2) (ye (yZ (r.1,r.b,J.1,r.D)) fun K=>yh (!K)) fun L=>zw L (ye (yF x) fun M=>yh (aN M false)) (yh (r.1,r.b,J.1,Y9 r.D true)))) (wM (!(s.1 !=0)) (ye (yZ r) fun N=>yh (!N)) fun O=>zw O (ye (yF x) fun P=>yh (aN P false)) (yh (aN r true)))))))
def ylA:=q0 189 Zs y7p [q85,TX,N2,y3I,ylx,yly,yic,ylz] Tryz.func189
def bm (x:List yc):Option (List yc):=nz (ye (z7 x) fun r=>ye (zF r) fun s=>yh s)
def ylB:=q0 315 bm y7q [N1,y3H] Tryz.func315
def bo (x:y3h):Option o9:=nz (ye (JR (x.1,x.b)) fun r=>ye (yx (x.C,0,jE x.b.z)) fun s=>zw s (z6 x.b x.C (ye (bm (yt x.b x.C)) fun t=>z6 r.2 x.C (yh (r.1,lh r.2 x.C t)))) (yh r))
def ylC:=q0 260 bo y7r [mI,ycP,ylB] Tryz.func260
def Jb (x:pa):Option Dm:=nz (ye (yF (x.1,x.b,x.c,x.d,x.e,x.f)) fun r=>ye (yZ (x.1,x.b,x.c,x.d,x.e,x.f)) fun s=>wM (!s) (ye (yx (x.G,0,jE x.b.z)) fun t=>yh (!t)) fun u=>zw u (yh (aN r false)) (ye (bo (x.1,x.b,x.G)) fun v=>yh (v.1,v.2,mH r.C true)))
def ylD:=q0 190 Jb y7s [mI,q85,TX,ylC] Tryz.func190
abbrev vo:Type:=yf0
def vp (k0:AX→Option R) (k1:AX→Option R) (a:vo→Option R) (x:vo):Option R:=nz (Z0 x.b x.H.z (z6 x.H x.b (WM ((yy x.H x.b).c==1) (z6 x.H x.b (yh ((yy x.H x.b).d==x.1))) fun r=>zw r (z6 x.H x.b (k0 (gD (yy x.H x.b)))) (a (x.1,zh x.b,Dx x.C)))) (k1 (x.c,x.d,x.e,x.f,x.g)))
def iH k0 k1:=iter (@vp R k0 k1) FUEL
def QH (x:pa):Option AX:=nz (ye (zA (x.1,x.b)) fun r=>iH (fun s=>yh s) (fun t=>yh (0,0,0,0,0)) (x.G,0,0,0,0,0,0,r))
def ya5:List QF:=[N2]
def Ik (t:Elts UT):St:=nd (stP UT [.d 1,.v 1,.d 2,.b 4,.o 10000000,.v 1,.d 29] [(4,[.v 5]),(10000000,[])] t)
def y0P:Gk vo:=fun κ=>nd (vp (zM κ none j6 [.d 4,.b 4,.d 31] [(4,[.v 5])]) (zM κ (some 0) j6 [.d 4,.b 4,.d 31] [(4,[.v 5])]))
def ya6:Lp:=YT 3 (zR UT Ik) @y0P ZM
theorem ydi:LK ya5 ya6 261 Tryz.f261 0:=Zm 3 Ik @y0P
def ylE:=qN 261 QH y7t 1 ya5 ya6 Tryz.func261 ⟨ydi,trivial⟩
def Jc (x:pa):Option Dm:=nz (ye (yF (x.1,x.b,x.c,x.d,x.e,x.f)) fun r=>ye (yZ (x.1,x.b,x.c,x.d,x.e,x.f)) fun s=>wM (!s) (ye (yx (x.G,0,jE x.d.z)) fun t=>yh (!t)) fun u=>wM u (z6 x.d x.G (yh (!((yD x.d x.G).b)))) fun v=>zw v (yh (aN r false)) (ye (QH x) fun w=>z6 x.d x.G (ye (ja (x.d,(yD x.d x.G).C)) fun p=>dO (!p.C) (decide (p.b>x.G)) fun q=>zw q (yh (aN r false)) (z6 p.1 p.b (ye (YY (x.1,x.b,wX w (p.b,(yD p.1 p.b).1))) fun m=>ye (Ja (p.1,x.G)) fun n=>wM (!m.C) (ye (yZ (m.1,m.b,r.c,n,r.E)) fun o=>yh (!o)) fun e=>zw e (ye (yF (x.1,x.b,x.c,x.d,x.e,x.f)) fun f=>yh (aN f false)) (yh (m.1,m.b,r.c,n,r.e,r.F,true)))))))
def ylF:=q0 191 Jc y7u [mI,q85,TX,ycY,y3I,ylE,yd4] Tryz.func191
def df (x:y5v):Option Dm:=nz (ZE x.g 7 (ye (Zs (x.1,x.b,x.c,x.d,x.e,x.f)) fun r=>yh r) (ZE x.g 8 (ye (Jb (Vn x x.j)) fun s=>yh s) (ye (Jc (Vn x x.j)) fun t=>yh t)))
def q93:=q0 93 df yh3 [ylA,ylD,ylF] Tryz.func93
def W0 (x:y5v):Option pa:=nz (ye (kq x.G) fun r=>wM (!r) (ye (yZ (x.1,x.b,x.c,x.d,x.e,x.f)) fun s=>yh (!s)) fun t=>zw t (ye (yF (x.1,x.b,x.c,x.d,x.e,x.f)) fun u=>yh (aN u 1)) (ZE x.g 1 (ye (KM (Vn x (x.h,x.j))) fun v=>yh v) (ZE x.g 2 (ye (av (Vn x (x.h,x.i,x.K==1))) fun w=>yh w) (ZE x.g 3 (ye (wQ (Vn x x.h)) fun p=>yh p) (ZE x.g 4 (ye (VI (Vn x (x.h,x.J))) fun q=>yh q) (ZE x.g 5 (ye (kz (Vn x (x.h,x.j))) fun m=>yh m) (ZE x.g 6 (ye (KQ (Vn x (x.h,x.j))) fun n=>yh n) (ye (df x) fun o=>zw (!o.G) (yh (Vn o 2)) (yh (Vn o 0))))))))))
def q28:=q0 28 W0 yh4 [q84,q85,TX,q87,q88,q89,q90,q91,q92,q93] Tryz.func28
def K4 (x:yf1):Option y5w:=nz (ye (yd (wX x x.D.z)) fun r=>z6 x.D r.1 (yh (SG x.D r.1,kl r.2)))
def ydj:=q0 145 K4 y7v [pd] Tryz.func145
def YZ (x:Co):Option y5w:=nz (ye (K4 (Y9 x ([{data:= #[97]},{data:= #[98]},{data:= #[99]},{data:= #[100]},{data:= #[101,53]}]:List cU))) fun r=>yh r)
def yid:=q0 111 YZ y7w [ydj] Tryz.func111
def jv (x:Co):Option Qz4:=nz (ye (yd (Y9 x 200)) fun r=>ye (yE (Y9 r.2 ([0,1,2,7,65535,JP 1 r.1]:List yf))) fun s=>yh s)
def ylG:=q0 226 jv y7x [SO,pd] Tryz.func226
def jV (x:Co):Option yf2:=nz (ye (yE (Y9 x ([1,1,1,2,2,3,4,4,4,4,4,4,5,6,7,7,8,9]:List yf))) fun r=>Z0 r.1 7 (ye (K4 (Y9 r.2 ([{data:= #[97]},{data:= #[97]},{data:= #[98]},{data:= #[99]},{data:= #[100]}]:List cU))) fun s=>ZE r.1 1 (ZE r.1 1 (ye (yE (Y9 s.2 ([1,3,4,12,5]:List yf))) fun t=>yh (r.1,s.1,(⟨#[]⟩:ByteArray),t.1,0,kl t.2)) (ZE r.1 2 (ye (YZ s.2) fun u=>ye (yE (Y9 u.2 ([0,0,0,1]:List yf))) fun v=>yh (r.1,s.1,u.1,0,oa v)) (ZE r.1 4 (ye (yd (Y9 s.2 5)) fun w=>ye (jv w.2) fun p=>yh (r.1,s.1,(⟨#[]⟩:ByteArray),w.1,oa p)) (ZE r.1 5 (ye (yd (Y9 s.2 5)) fun q=>yh (r.1,s.1,(⟨#[]⟩:ByteArray),q.1,0,kl q.2)) (ZE r.1 8 (ZE r.1 8 (ye (yd (Y9 s.2 6)) fun m=>yh (r.1,s.1,(⟨#[]⟩:ByteArray),m.1,0,kl m.2)) (yh (r.1,s.1,(⟨#[]⟩:ByteArray),0,0,kl s.2))) (ZE r.1 9 (ye (yd (Y9 s.2 6)) fun n=>yh (r.1,s.1,(⟨#[]⟩:ByteArray),n.1,0,kl n.2)) (yh (r.1,s.1,(⟨#[]⟩:ByteArray),0,0,kl s.2)))))))) (ZE r.1 6 (ye (yE (Y9 s.2 ([1,3,4,12,5]:List yf))) fun o=>yh (r.1,s.1,(⟨#[]⟩:ByteArray),o.1,0,kl o.2)) (ZE r.1 2 (ye (YZ s.2) fun e=>ye (yE (Y9 e.2 ([0,0,0,1]:List yf))) fun f=>yh (r.1,s.1,e.1,0,oa f)) (ZE r.1 4 (ye (yd (Y9 s.2 5)) fun g=>ye (jv g.2) fun h=>yh (r.1,s.1,(⟨#[]⟩:ByteArray),g.1,oa h)) (ZE r.1 5 (ye (yd (Y9 s.2 5)) fun i=>yh (r.1,s.1,(⟨#[]⟩:ByteArray),i.1,0,kl i.2)) (ZE r.1 8 (ZE r.1 8 (ye (yd (Y9 s.2 6)) fun j=>yh (r.1,s.1,(⟨#[]⟩:ByteArray),j.1,0,kl j.2)) (yh (r.1,s.1,(⟨#[]⟩:ByteArray),0,0,kl s.2))) (ZE r.1 9 (ye (yd (Y9 s.2 6)) fun l=>yh (r.1,s.1,(⟨#[]⟩:ByteArray),l.1,0,kl l.2)) (yh (r.1,s.1,(⟨#[]⟩:ByteArray),0,0,kl s.2))))))))) (ZE r.1 1 (ZE r.1 1 (ye (yE (Y9 r.2 ([1,3,4,12,5]:List yf))) fun y=>yh (r.1,(⟨#[]⟩:ByteArray),(⟨#[]⟩:ByteArray),y.1,0,kl y.2)) (ZE r.1 2 (ye (YZ r.2) fun z=>ye (yE (Y9 z.2 ([0,0,0,1]:List yf))) fun b=>yh (r.1,(⟨#[]⟩:ByteArray),z.1,0,oa b)) (ZE r.1 4 (ye (yd (Y9 r.2 5)) fun c=>ye (jv c.2) fun d=>yh (r.1,(⟨#[]⟩:ByteArray),(⟨#[]⟩:ByteArray),c.1,oa d)) (ZE r.1 5 (ye (yd (Y9 r.2 5)) fun R=>yh (r.1,(⟨#[]⟩:ByteArray),(⟨#[]⟩:ByteArray),R.1,0,kl R.2)) (ZE r.1 8 (ZE r.1 8 (ye (yd (Y9 r.2 6)) fun A=>yh (r.1,(⟨#[]⟩:ByteArray),(⟨#[]⟩:ByteArray),A.1,0,kl A.2)) (yh (r.1,(⟨#[]⟩:ByteArray),(⟨#[]⟩:ByteArray),0,0,kl r.2))) (ZE r.1 9 (ye (yd (Y9 r.2 6)) fun B=>yh (r.1,(⟨#[]⟩:ByteArray),(⟨#[]⟩:ByteArray),B.1,0,kl B.2)) (yh (r.1,(⟨#[]⟩:ByteArray),(⟨#[]⟩:ByteArray),0,0,kl r.2)))))))) (ZE r.1 6 (ye (yE (Y9 r.2 ([1,3,4,12,5]:List yf))) fun C=>yh (r.1,(⟨#[]⟩:ByteArray),(⟨#[]⟩:ByteArray),C.1,0,kl C.2)) (ZE r.1 2 (ye (YZ r.2) fun D=>ye (yE (Y9 D.2 ([0,0,0,1]:List yf))) fun E=>yh (r.1,(⟨#[]⟩:ByteArray),D.1,0,oa E)) (ZE r.1 4 (ye (yd (Y9 r.2 5)) fun G=>ye (jv G.2) fun H=>yh (r.1,(⟨#[]⟩:ByteArray),(⟨#[]⟩:ByteArray),G.1,oa H)) (ZE r.1 5 (ye (yd (Y9 r.2 5)) fun I=>yh (r.1,(⟨#[]⟩:ByteArray),(⟨#[]⟩:ByteArray),I.1,0,kl I.2)) (ZE r.1 8 (ZE r.1 8 (ye (yd (Y9 r.2 6)) fun J=>yh (r.1,(⟨#[]⟩:ByteArray),(⟨#[]⟩:ByteArray),J.1,0,kl J.2)) (yh (r.1,(⟨#[]⟩:ByteArray),(⟨#[]⟩:ByteArray),0,0,kl r.2))) (ZE r.1 9 (ye (yd (Y9 r.2 6)) fun K=>yh (r.1,(⟨#[]⟩:ByteArray),(⟨#[]⟩:ByteArray),K.1,0,kl K.2)) (yh (r.1,(⟨#[]⟩:ByteArray),(⟨#[]⟩:ByteArray),0,0,kl r.2))))))))))
def yie:=q0 146 jV y7y [SO,pd,yid,ydj,ylG] Tryz.func146
def kA (x:Unit):Option o9:=nz (yh (([0]:List yf),([([]:List yc)]:List y6)))
def yif:=q0 274 kA y7z [] Tryz.func274
def Wt (x:Unit):Option (List ya):=nz (if (0:Int)≤24 then if (24:Int)≤24 then if 24*((24:Nat):Int)≤140737488351232 then yh (List.replicate (Int.toNat 24) jo) else none else none else none)
def yig:=q0 275 Wt y7A [] Tryz.func275
def VL (x:Unit):Option f6:=nz (ye (kA ()) fun r=>ye (Wt ()) fun s=>yh (r.1,r.2,([]:List yb),s,([]:List yj),1))
def yih:=q0 212 VL y7B [yif,yig] Tryz.func212
abbrev K5:Type:=O8 ⊕ Oa
def ws (k0:yf3→Option R) (k1:yf5→Option R) (a:K5→Option R):K5→Option R
 | .inl x=>nz (nC x.1 0 (ye (jV (x.b,x.c,x.d)) fun r=>ye (W0 (uk x.G (x.f,r.1,r.b,r.c,r.d,r.e))) fun s=>a (Sum.inr (jE x.1,Y9 r.F (x.e,wX s (s.f,s.d,s.e))))) (k0 x.2))
 | .inr x=>nz (nC x.1 0 (ye (jV (x.b,x.c,x.d)) fun r=>ye (W0 (wX x.F (x.j,x.K,x.i,r.1,r.b,r.c,r.d,r.e))) fun s=>a (Sum.inr (jE x.1,Y9 r.F (x.e,wX s (s.f,s.d,s.e))))) (k1 x.2))
def fI k0 k1:=iter (@ws R k0 k1) FUEL
def VM (x:US):Option y5x:=nz (ye (VL ()) fun r=>ye (yd (wX x (zh x.D))) fun s=>fI (fun t=>yh (uk t.F (t.e,t.1,t.b,t.c))) (fun u=>yh (wX u.E (u.i,u.J,u.h,u.1,u.b,u.c))) (Sum.inl (mH s (0,r.F,r.1,r.b,r.c,r.d,r.e))))
def Il:List QF:=[q28,pd,yie,yih]
def pq (t:Elts O9):St:=nd (stP O9 [.b 900,.d 3,.b 4,.b 5,.v 1,.d 17] [(900,[.v 3]),(4,[.s,.s,.s,.s,.s,.v 1]),(5,[.o 10000000,.o 10000001,.o 10000002,.o 10000003,.o 10000004,.v 1]),(10000000,[]),(10000001,[]),(10000002,[]),(10000003,[]),(10000004,[])] t)
theorem y0Q: ∀ s t,zR O9 pq s=some t→pq t=s:=Y3 fun t=>by kernel_rfl
def pr (t:Elts Oc):St:=nd (stP Oc [.b 900,.d 3,.b 4,.b 5,.v 1,.d 17] [(900,[.v 3]),(4,[.s,.s,.s,.s,.s,.v 1]),(5,[.v 3,.o 10000000,.o 10000001,.v 1]),(10000000,[]),(10000001,[])] t)
theorem y0R: ∀ s t,zR Oc pr s=some t→pr t=s:=Y3 fun t=>by kernel_rfl
def pt:(O8 ⊕ Oa)→St:=Sum.elim pq pr
def B4 (s:St):Option (O8 ⊕ Oa):=((zR O9 pq s).map Sum.inl).or (((zR Oc pr) s).map Sum.inr)
theorem y0S: ∀ s t,B4 s=some t→pt t=s:=Kz y0Q y0R
def F4:Gk K5:=fun κ=>nd (ws (zM κ (some 0) yf4 [.b 900,.d 3,.b 4,.b 5,.d 18] [(900,[.v 3]),(4,[.s,.s,.s,.s,.s,.v 1]),(5,[.o 10000000,.o 10000001,.o 10000002,.o 10000003,.o 10000004,.v 1]),(10000000,[]),(10000001,[]),(10000002,[]),(10000003,[]),(10000004,[])]) (zM κ (some 0) yf6 [.b 900,.d 3,.b 4,.b 5,.d 18] [(900,[.v 3]),(4,[.s,.s,.s,.s,.s,.v 1]),(5,[.v 3,.o 10000000,.o 10000001,.v 1]),(10000000,[]),(10000001,[])]))
def Im:Lp:=YT 3 B4 @F4 ZM
theorem y0T:LF Il Im 141 3 Tryz.f141 0 pt @F4 fun v:O8=> .inl v:=fun R κ again v=>by kernel_rfl
theorem y0U:LF Il Im 141 3 Tryz.f141 0 pt @F4 fun v:Oa=> .inr v:=fun R κ again v=>by kernel_rfl
theorem ydk:LF Il Im 141 3 Tryz.f141 0 pt @F4 fun t=>t:=(LC.sum y0T y0U)
theorem ydl:LK Il Im 141 Tryz.f141 0:=Gc (u:=B4) y0S ydk
def ylH:=qN 141 VM y7C 1 Il Im Tryz.func141 ⟨ydl,trivial⟩
def Y_ (x:Co):Option Od:=nz (ye (yd (Y9 x 4)) fun r=>ye (yd (Y9 r.2 5)) fun s=>ye (yE (Y9 s.2 ([0,1,1,1,2]:List yf))) fun t=>ZE t.1 1 (ye (yd (Y9 t.2 24)) fun u=>ye (yE (Y9 u.2 ([0,1,256,999]:List yf))) fun v=>yh (r.1,JP 1 s.1,t.1,u.1,oa v)) (yh (r.1,JP 1 s.1,t.1,0,0,kl t.2)))
def y0V:=q0 286 Y_ y7D [SO,pd] Tryz.func286
def ch (x:Co):Option Od:=nz (ye (Y_ x) fun r=>ye (yd (Y9 r.F 12)) fun s=>yh (s.1,fX r.2 s.2))
def ylI:=q0 283 ch y7E [pd,y0V] Tryz.func283
abbrev vq:Type:=yf7
def vr (k0:yf8→Option R) (a:vq→Option R) (x:vq):Option R:=nz (nC x.1 0 (ye (ch (x.b,x.c,x.d)) fun r=>ye (YY (x.e,x.F,r.1,r.b,r.c,r.d,r.e)) fun s=>a (jE x.1,Y9 r.F (s.1,s.b))) (k0 x.2))
def iI k0:=iter (@vr R k0) FUEL
def QI (x:US):Option y5y:=nz (ye (kA ()) fun r=>ye (yd (wX x (zh x.D))) fun s=>iI (fun t=>yh (t.d,t.E,t.1,t.b,t.c)) (mH s r))
def ya7:List QF:=[pd,y3I,yif,ylI]
def Io (t:Elts UU):St:=nd (stP UU [.b 900,.d 3,.b 4,.b 5,.v 1,.d 17] [(900,[.v 3]),(4,[.s,.s]),(5,[.o 10000000,.o 10000001]),(10000000,[]),(10000001,[])] t)
def y0W:Gk vq:=fun κ=>nd (vr (zM κ (some 0) yf9 [.b 900,.d 3,.b 4,.b 5,.d 18] [(900,[.v 3]),(4,[.s,.s]),(5,[.o 10000000,.o 10000001]),(10000000,[]),(10000001,[])]))
def ya8:Lp:=YT 3 (zR UU Io) @y0W ZM
theorem ydm:LK ya7 ya8 222 Tryz.f222 0:=Zm 3 Io @y0W
def ylJ:=qN 222 QI y7F 1 ya7 ya8 Tryz.func222 ⟨ydm,trivial⟩
abbrev vt:Type:=Qz4 ⊕ Oe
def Wu (k0:Co→Option R) (k1:yfa→Option R) (a:vt→Option R):vt→Option R
 | .inl x=>nz (nC x.1 0 (ye (Y_ x.2) fun r=>ye (jS (([]:List yc),r.1,r.b,r.c,r.d,r.e)) fun s=>a (Sum.inr (jE x.1,Y9 r.F s.1))) (k0 x.2))
 | .inr x=>nz (nC x.1 0 (ye (Y_ (x.b,x.c,x.d)) fun r=>ye (jS (x.E,r.1,r.b,r.c,r.d,r.e)) fun s=>a (Sum.inr (jE x.1,Y9 r.F s.1))) (k1 x.2))
def iJ k0 k1:=iter (@Wu R k0 k1) FUEL
def QJ (x:Co):Option y5z:=nz (ye (yd (Y9 x 12)) fun r=>iJ (fun s=>yh (([]:List yc),kl s)) (fun t=>yh (t.D,t.1,t.b,t.c)) (Sum.inl r))
def Ip:List QF:=[pd,y0V,yi6]
def pw (t:Elts qz4):St:=nd (stP qz4 [.b 900,.d 1,.b 2,.b 3,.v 1,.d 15] [(900,[.v 3]),(2,[.s]),(3,[.s])] t)
theorem y0X: ∀ s t,zR qz4 pw s=some t→pw t=s:=Y3 fun t=>by kernel_rfl
def pz (t:Elts Of):St:=nd (stP Of [.b 900,.d 1,.b 2,.b 3,.v 1,.d 15] [(900,[.v 3]),(2,[.s]),(3,[.o 10000000]),(10000000,[])] t)
theorem y0Y: ∀ s t,zR Of pz s=some t→pz t=s:=Y3 fun t=>by kernel_rfl
def pD:(Qz4 ⊕ Oe)→St:=Sum.elim pw pz
def B5 (s:St):Option (Qz4 ⊕ Oe):=((zR qz4 pw s).map Sum.inl).or (((zR Of pz) s).map Sum.inr)
theorem y0Z: ∀ s t,B5 s=some t→pD t=s:=Kz y0X y0Y
def F5:Gk vt:=fun κ=>nd (Wu (zM κ (some 0) gC [.b 900,.d 1,.b 2,.b 3,.d 16] [(900,[.v 3]),(2,[.s]),(3,[.s])]) (zM κ (some 0) yfb [.b 900,.d 1,.b 2,.b 3,.d 16] [(900,[.v 3]),(2,[.s]),(3,[.o 10000000]),(10000000,[])]))
def Iq:Lp:=YT 3 B5 @F5 ZM
theorem y0_:LF Ip Iq 284 3 Tryz.f284 0 pD @F5 fun v:Qz4=> .inl v:=fun R κ again v=>by kernel_rfl
theorem y10:LF Ip Iq 284 3 Tryz.f284 0 pD @F5 fun v:Oe=> .inr v:=fun R κ again v=>by kernel_rfl
theorem ydn:LF Ip Iq 284 3 Tryz.f284 0 pD @F5 fun t=>t:=(LC.sum y0_ y10)
theorem ydo:LK Ip Iq 284 Tryz.f284 0:=Gc (u:=B5) y0Z ydn
def ylK:=qN 284 QJ y7G 1 Ip Iq Tryz.func284 ⟨ydo,trivial⟩
abbrev vu:Type:=yfc
def vv (k0:yfd→Option R) (a:vu→Option R) (x:vu):Option R:=nz (nC x.1 0 (ye (Y_ (x.b,x.c,x.d)) fun r=>ye (Yk (x.E,r.1,r.b,r.c,r.d,r.e)) fun s=>a (jE x.1,Y9 r.F s)) (k0 x.2))
def iK k0:=iter (@vv R k0) FUEL
def QK (x:US):Option y5A:=nz (ye (yd (wX x (zh x.D))) fun r=>iK (fun s=>yh (s.D,s.1,s.b,s.c)) (mH r ([]:List y7)))
def ya9:List QF:=[pd,y0V,y3F]
def Ir (t:Elts UV):St:=nd (stP UV [.b 900,.d 4,.o 10000000,.v 1,.d 14] [(900,[.v 3]),(10000000,[])] t)
def y11:Gk vu:=fun κ=>nd (vv (zM κ (some 0) yfe [.b 900,.d 4,.o 10000000,.d 15] [(900,[.v 3]),(10000000,[])]))
def yaa:Lp:=YT 3 (zR UV Ir) @y11 ZM
theorem ydp:LK ya9 yaa 324 Tryz.f324 0:=Zm 3 Ir @y11
def ylL:=qN 324 QK y7H 1 ya9 yaa Tryz.func324 ⟨ydp,trivial⟩
def ci (x:Co):Option Od:=nz (ye (Y_ x) fun r=>ye (yd (Y9 r.F 12)) fun s=>ZE s.1 0 (ye (yE (Y9 s.2 ([-1,15,16]:List yf))) fun t=>yh (t.1,fX r.2 t.2)) (ZE s.1 1 (ye (yE (Y9 s.2 ([0,60,61]:List yf))) fun u=>yh (r.1,u.1,wX r.C u.2)) (ZE s.1 2 (ye (yE (Y9 s.2 ([-1,3]:List yf))) fun v=>yh (r.1,r.b,v.1,r.d,r.e,v.2)) (ZE s.1 3 (ye (yE (Y9 s.2 ([-1,1,23,24]:List yf))) fun w=>yh (wX r (w.1,r.e,w.2))) (ZE s.1 4 (ye (yE (Y9 s.2 ([-1,1,999,1000]:List yf))) fun p=>yh (fX r p)) (yh (Pb r s.2)))))))
def ylM:=q0 325 ci y7I [SO,pd,y0V] Tryz.func325
def cj (x:US):Option y5A:=nz (ye (QK x) fun r=>ye (yd (Y9 r.2 8)) fun s=>ZE s.1 0 (ye (ci s.2) fun t=>YS r.1 ([(t.1,t.b,t.c,t.d,t.e)]:List y7) 40 (yh (r.1++([(t.1,t.b,t.c,t.d,t.e)]:List y7),kl t.F))) (ZE s.1 1 (nC r.1.z 1 (z6 r.1 0 (z6 r.1 1 (z6 r.1 0 (if (0:Int)≤1 then if 1<((List.length (lh r.1 0 (gD (yy r.1 1))):Nat):Int) then yh (lh (lh r.1 0 (gD (yy r.1 1))) 1 (gD (yy r.1 0)),kl s.2) else none else none)))) (yh (r.1,s.2))) (yh (r.1,s.2))))
def ylN:=q0 285 cj y7J [pd,ylL,ylM] Tryz.func285
def VN (x:Co):Option y5z:=nz (ye (QJ x) fun r=>ye (yd (Y9 r.2 8)) fun s=>ZE s.1 0 (ye (cj (Y9 s.2 6)) fun t=>YS r.1 ([t.1]:List yc) 24 (yh (r.1++([t.1]:List yc),kl t.2))) (ZE s.1 1 (ye (Y_ s.2) fun u=>ye (Y_ u.F) fun v=>YS r.1 ([([(u.1,u.b,u.c,u.d,u.e)]:List y7),([(v.1,v.b,v.c,v.d,v.e)]:List y7)]:List yc) 24 (yh (r.1++([([(u.1,u.b,u.c,u.d,u.e)]:List y7),([(v.1,v.b,v.c,v.d,v.e)]:List y7)]:List yc),kl v.F))) (yh (r.1,s.2))))
def ylO:=q0 223 VN y7K [pd,ylK,ylN,y0V] Tryz.func223
def ck (x:US):Option y5y:=nz (ye (QI x) fun r=>ye (yd (Y9 r.C 12)) fun s=>ZE s.1 0 (ye (yd (Y9 s.2 r.1.z)) fun t=>ye (yE (Y9 t.2 ([0,-1,1,300]:List yf))) fun u=>z6 r.1 t.1 (yh (lh r.1 t.1 u.1,r.b,kl u.2))) (ZE s.1 1 (ye (VN s.2) fun v=>YS r.b ([v.1]:List y6) 24 (yh (r.1,r.b++([v.1]:List y6),kl v.2))) (ZE s.1 2 (ye (yd (Y9 s.2 r.b.z)) fun w=>ye (VN w.2) fun p=>z6 r.b w.1 (yh (r.1,lh r.b w.1 p.1,kl p.2))) (ZE s.1 3 (yh (([]:List yf),([]:List y6),kl s.2)) (yh (r.1,r.b,s.2))))))
def ylP:=q0 142 ck y7L [SO,pd,ylJ,ylO] Tryz.func142
def Zd (x:US):Option yff:=nz (ye (yd x) fun r=>yh (r.1==0,kl r.2))
def q47:=q0 47 Zd yh5 [pd] Tryz.func47
abbrev vw:Type:=y5B
def vx (k0:y5C→Option R) (a:vw→Option R) (x:vw):Option R:=nz (nC x.1 0 (nC x.E.z 0 (ye (Zd (wX x.2 4)) fun r=>zw (!r.1) (ye (yd (Y9 r.2 x.E.z)) fun s=>z6 x.E s.1 (ye (yd (Y9 s.2 8)) fun t=>ye (Zc (x.E,JP 1 t.1,(yT x.E s.1).1)) fun u=>a (jE x.1,Y9 t.2 u.1))) (ye (yd (Y9 r.2 8)) fun v=>ye (Zc (x.E,JP 1 v.1,0)) fun w=>a (jE x.1,Y9 v.2 w.1))) (ye (yd (wX x.2 8)) fun p=>ye (Zc (x.E,JP 1 p.1,0)) fun q=>a (jE x.1,Y9 p.2 q.1))) (k0 x.2))
def iL k0:=iter (@vx R k0) FUEL
def QL (x:Co):Option y5E:=nz (ye (yd (Y9 x 8)) fun r=>iL (fun s=>yh (s.D,s.1,s.b,s.c)) (mH r ([]:List yb)))
def yab:List QF:=[q47,pd,ycU]
def Is (t:Elts Dn):St:=nd (stP Dn [.b 900,.d 2,.o 10000000,.v 1,.d 34] [(900,[.v 3]),(10000000,[])] t)
def y12:Gk vw:=fun κ=>nd (vx (zM κ (some 0) y5D [.b 900,.d 2,.o 10000000,.d 35] [(900,[.v 3]),(10000000,[])]))
def yac:Lp:=YT 3 (zR Dn Is) @y12 ZM
theorem ydq:LK yab yac 224 Tryz.f224 0:=Zm 3 Is @y12
def ylQ:=qN 224 QL y7M 1 yab yac Tryz.func224 ⟨ydq,trivial⟩
abbrev vy:Type:=y5B
def vz (k0:y5C→Option R) (a:vy→Option R) (x:vy):Option R:=nz (Z0 x.1 14 (YS x.E ([(JP 20 x.1,0)]:List yb) 16 (a (zh x.1,wX x.2 (x.E++([(JP 20 x.1,0)]:List yb))))) (k0 x.2))
def iM k0:=iter (@vz R k0) FUEL
def cm (x:Co):Option y5E:=nz (ye (QL x) fun r=>ye (yd (Y9 r.2 8)) fun s=>ZE s.1 0 (ye (yE (Y9 s.2 ([0,3,60,61]:List yf))) fun t=>ye (yE (Y9 t.2 ([0,1,9,-1]:List yf))) fun u=>YS r.1 ([(t.1,u.1)]:List yb) 16 (yh (r.1++([(t.1,u.1)]:List yb),kl u.2))) (ZE s.1 1 (nC r.1.z 0 (ye (yE (Y9 s.2 ([1,2,3]:List yf))) fun v=>z6 r.1 0 (yh (lh r.1 0 ((yT r.1 0).1,v.1),kl v.2))) (yh (r.1,s.2))) (ZE s.1 2 (iM (fun w=>yh (w.D,w.1,w.b,w.c)) (0,Y9 s.2 r.1)) (yh (r.1,s.2)))))
def yad:List QF:=[SO,pd,ylQ]
def DA (t:Elts Dn):St:=nd (stP Dn [.b 900,.d 2,.o 10000000,.v 1,.d 40] [(900,[.v 3]),(10000000,[])] t)
def Pn:Gk vy:=fun κ=>nd (vz (zM κ (some 1) y5D [.b 900,.d 2,.o 10000000,.d 41] [(900,[.v 3]),(10000000,[])]))
def yae:Lp:=YT 10 (zR Dn DA) @Pn ZM
theorem y3K:LK yad yae 143 Tryz.f143 0:=Zm 10 DA @Pn
def ylR:=qN 143 cm y7N 1 yad yae Tryz.func143 ⟨y3K,trivial⟩
abbrev vC:Type:=yfg
def vD (k0:yfh→Option R) (a:vC→Option R) (x:vC):Option R:=nz (nC x.1 0 (ye (Zd (wX x.2 3)) fun r=>zw r.1 (ye (yd (Y9 r.2 6)) fun s=>ye (Ja (x.E,s.1)) fun t=>a (jE x.1,Y9 s.2 t)) (ye (yE (Y9 r.2 ([0,5,65535]:List yf))) fun u=>ye (ja (x.E,u.1)) fun v=>a (jE x.1,Y9 u.2 v.1))) (k0 x.2))
def iN k0:=iter (@vD R k0) FUEL
def QM (x:Co):Option y5F:=nz (ye (Wt ()) fun r=>ye (yd (Y9 x 30)) fun s=>iN (fun t=>yh (t.D,t.1,t.b,t.c)) (mH s r))
def yaf:List QF:=[q47,SO,pd,ycY,yd4,yig]
def It (t:Elts UW):St:=nd (stP UW [.b 900,.d 2,.o 10000000,.v 1,.d 23] [(900,[.v 3]),(10000000,[])] t)
def y13:Gk vC:=fun κ=>nd (vD (zM κ (some 0) yfi [.b 900,.d 2,.o 10000000,.d 24] [(900,[.v 3]),(10000000,[])]))
def yag:Lp:=YT 3 (zR UW It) @y13 ZM
theorem ydr:LK yaf yag 225 Tryz.f225 0:=Zm 3 It @y13
def ylS:=qN 225 QM y7O 1 yaf yag Tryz.func225 ⟨ydr,trivial⟩
def cn (x:Co):Option y5F:=nz (ye (QM x) fun r=>ye (yd (Y9 r.2 10)) fun s=>ZE s.1 0 (oc 1 r.1.z r.1.z (yh (aD r.1 1 r.1.z,kl s.2))) (ZE s.1 1 (ye (yd (Y9 s.2 r.1.z)) fun t=>ye (yE (Y9 t.2 ([-1,999,1000]:List yf))) fun u=>z6 r.1 t.1 (yh (lh r.1 t.1 (u.1,(yD r.1 t.1).2),kl u.2))) (ZE s.1 2 (ye (yd (Y9 s.2 r.1.z)) fun v=>ye (yE (Y9 v.2 ([-1,5,65536]:List yf))) fun w=>z6 r.1 v.1 (yh (lh r.1 v.1 ((yD r.1 v.1).1,(yD r.1 v.1).b,w.1),kl w.2))) (ZE s.1 3 (z6 r.1 0 (yh (lh r.1 0 (999,(yD r.1 0).2),kl s.2))) (yh (r.1,s.2))))))
def ylT:=q0 144 cn y7P [SO,pd,ylS] Tryz.func144
def QN (x:US):Option y5x:=nz (ye (VM x) fun r=>ye (yd (Y9 r.G 20)) fun s=>ZE s.1 0 (ye (ck (Y9 s.2 6)) fun t=>yh (t.1,t.b,fX r.C t.C)) (ZE s.1 1 (ye (cm s.2) fun u=>yh (r.1,r.b,u.1,wX r.D u.2)) (ZE s.1 2 (ye (cn s.2) fun v=>yh (wX r (v.1,r.e,r.f,v.2))) (ZE s.1 3 (ye (K4 (Y9 s.2 ([{data:= #[97]},{data:= #[122,122]},{data:= #[65]}]:List cU))) fun w=>ye (yd (Y9 w.2 4)) fun p=>ye (yE (Y9 p.2 ([0,1,13]:List yf))) fun q=>YS r.e ([(w.1,JP 1 p.1,q.1,false)]:List yj) 40 (yh (fX r (r.e++([(w.1,JP 1 p.1,q.1,false)]:List yj),r.f,kl q.2)))) (ZE s.1 4 (ye (yE (Y9 s.2 ([0,1,60,61,62]:List yf))) fun m=>yh (Pb r m)) (ZE s.1 5 (ye (yd (Y9 s.2 r.d.z)) fun n=>z6 r.d n.1 (yh (wX r (lh r.d n.1 ((yD r.d n.1).1,true,(yD r.d n.1).C),r.e,r.f,kl n.2)))) (ZE s.1 6 (nC r.e.z 0 (ye (yd (Y9 s.2 6)) fun o=>z6 r.e 0 (yh (fX r (lh r.e 0 ((yC r.e 0).1,JP 1 o.1,(yC r.e 0).C),r.f,kl o.2)))) (yh (Vn r s.2))) (yh (Vn r s.2)))))))))
def q69:=q0 69 QN yh6 [SO,pd,ylH,ylP,ylR,ylT,ydj] Tryz.func69
abbrev K8:Type:=Og ⊕ Oi
def wu (k0:yfj→Option R) (k1:yfl→Option R) (a:K8→Option R):K8→Option R
 | .inl x=>nz (nC x.1 0 (ye (YZ (x.c,x.d,x.e)) fun r=>ye (wQ (fX x.F (x.K,x.j,r.1))) fun s=>a (Sum.inr (jE x.1,x.b,Y9 r.2 (wX s (s.f,s.d,s.e))))) (k0 (x.b,x.F)))
 | .inr x=>nz (nC x.1 0 (ye (YZ (x.c,x.d,x.e)) fun r=>ye (wQ (wX x.F (x.j,x.K,x.i,r.1))) fun s=>a (Sum.inr (jE x.1,x.b,Y9 r.2 (wX s (s.f,s.d,s.e))))) (k1 (x.b,x.F)))
def fJ k0 k1:=iter (@wu R k0 k1) FUEL
def VO (x:List yn):Option f6:=nz (ye (kX x) fun r=>ye (KH (x,24)) fun s=>ye (QN (Y9 r (JP 6 s))) fun t=>ye (yd (Y9 t.G 3)) fun u=>fJ (fun v=>yh (fX v.2 (v.G,v.f))) (fun w=>yh (wX w.2 (w.f,w.G,w.e))) (Sum.inl (u.1,0,Y9 u.2 (fX t (t.f,t.e)))))
def y14:List QF:=[q45,pd,q56,q69,q89,yid]
def uW (t:Elts Oh):St:=nd (stP Oh [.d 2,.b 2,.b 8500,.b 4,.v 1,.d 21] [(2,[.s,.s,.s,.s,.s,.v 1]),(8500,[.v 3]),(4,[.v 4,.o 10000000,.v 1]),(10000000,[])] t)
theorem y3L: ∀ s t,zR Oh uW s=some t→uW t=s:=Y3 fun t=>by kernel_rfl
def uX (t:Elts Oj):St:=nd (stP Oj [.d 2,.b 2,.b 8500,.b 4,.v 1,.d 21] [(2,[.s,.s,.s,.s,.s,.v 1]),(8500,[.v 3]),(4,[.v 3,.o 10000000,.o 10000001,.v 1]),(10000000,[]),(10000001,[])] t)
theorem y3M: ∀ s t,zR Oj uX s=some t→uX t=s:=Y3 fun t=>by kernel_rfl
def uY:(Og ⊕ Oi)→St:=Sum.elim uW uX
def F6 (s:St):Option (Og ⊕ Oi):=((zR Oh uW s).map Sum.inl).or (((zR Oj uX) s).map Sum.inr)
theorem y3N: ∀ s t,F6 s=some t→uY t=s:=Kz y3L y3M
def Po:Gk K8:=fun κ=>nd (wu (zM κ (some 0) yfk [.d 2,.b 2,.d 1,.b 4,.d 22] [(2,[.s,.s,.s,.s,.s,.v 1]),(4,[.v 4,.o 10000000,.v 1]),(10000000,[])]) (zM κ (some 0) yfm [.d 2,.b 2,.d 1,.b 4,.d 22] [(2,[.s,.s,.s,.s,.s,.v 1]),(4,[.v 3,.o 10000000,.o 10000001,.v 1]),(10000000,[]),(10000001,[])]))
def y15:Lp:=YT 4 F6 @Po ZM
theorem y3O:LF y14 y15 36 4 Tryz.f36 0 uY @Po fun v:Og=> .inl v:=fun R κ again v=>by kernel_rfl
theorem y3P:LF y14 y15 36 4 Tryz.f36 0 uY @Po fun v:Oi=> .inr v:=fun R κ again v=>by kernel_rfl
theorem yii:LF y14 y15 36 4 Tryz.f36 0 uY @Po fun t=>t:=(LC.sum y3O y3P)
theorem yij:LK y14 y15 36 Tryz.f36 0:=Gc (u:=F6) y3N yii
def q36:=qN 36 VO yh7 1 y14 y15 Tryz.func36 ⟨yij,trivial⟩
def W5 (x:List yn):Option f6:=nz (ye (VO x) fun r=>yh r)
def q7:=q0 7 W5 sg7 [q36] Tryz.func7
def K9 (x:AX):Option Bool:=nz (ye (yI (x.1,0,15)) fun r=>wM (!r) (ye (yI (x.b,1,60)) fun s=>yh (!s)) fun t=>wM t (ye (yI (x.c,0,2)) fun u=>yh (!u)) fun v=>zw v (yh false) (Mg x.c 1 (KA (x.d==0) (x.E==0) fun w=>yh w) (ye (yI (x.d,0,23)) fun p=>WM p (ye (yI (x.E,0,999)) fun q=>yh q) fun m=>yh m)))
def yds:=q0 117 K9 y7Q [Hz] Tryz.func117
def kB (x:y3f):Option Bool:=nz (wM (decide (x.1<x.f)) (KA (x.1==x.f) (decide (x.b<x.g)) fun r=>yh r) fun s=>yh s)
def yik:=q0 318 kB y7R [] Tryz.func318
abbrev dg:Type:=yfn
def kC (k0:yeG→Option R) (k1:List y7→Option R) (a:dg→Option R) (x:dg):Option R:=nz (Z0 x.D x.c (z6 x.b x.D (ye (K9 (gD (yy x.b x.D))) fun r=>wM (!r) (WM (decide (x.D>0)) (z6 x.1 (jE x.D) (ye (kB (uk (yy x.1 (jE x.D)) (gD (yy x.b x.D)))) fun s=>yh (!s))) fun t=>yh t) fun u=>zw u (k0 (x.1,false)) (a (wX x (zh x.D))))) (k1 x.1))
def lY k0 k1:=iter (@kC R k0 k1) FUEL
def cp (x:List y7):Option Bool:=nz (lY (fun r=>yh r.2) (fun s=>yh (decide (s.z≤60))) (x,x,x.z,0))
def yah:List QF:=[yds,yik]
def Iu (t:Elts UX):St:=nd (stP UX [.v 1,.d 4,.v 3,.d 25] [] t)
def y16:Gk dg:=fun κ=>nd (kC (zM κ none yeH [.v 1,.d 1,.v 1,.d 30] []) (zM κ (some 0) [zj] [.v 1,.d 32] []))
def yai:Lp:=YT 2 (zR UX Iu) @y16 ZM
theorem ydt:LK yah yai 267 Tryz.f267 0:=Zm 2 Iu @y16
def ylU:=qN 267 cp y7S 1 yah yai Tryz.func267 ⟨ydt,trivial⟩
abbrev bp:Type:=yfo
def Wv (k0:yfp→Option R) (k1:SJ→Option R) (a:bp→Option R) (x:bp):Option R:=nz (Z0 x.d x.c (z6 x.b x.d (ye (cp (yK x.b x.d)) fun r=>dO (!r) ((yK x.b x.d).z==0) fun s=>zw s (k0 (false,x.1,x.E)) (a (JP x.1 ((yK x.b x.d).z),x.b,x.c,zh x.d,x.E)))) (k1 (x.1,x.E)))
def iO k0 k1:=iter (@Wv R k0 k1) FUEL
def QO (x:List yc):Option Bool:=nz (iO (fun r=>yh r.1) (fun s=>KA (decide (s.2.z≤3)) (decide (s.1≤8)) fun t=>yh t) (0,x,x.z,0,x))
def yaj:List QF:=[ylU]
def Iv (t:Elts UY):St:=nd (stP UY [.d 1,.b 1,.d 1,.v 1,.d 3,.v 3,.d 24] [(1,[.v 1])] t)
def y17:Gk bp:=fun κ=>nd (Wv (zM κ none yfq [.d 1,.b 1,.v 2,.d 30] [(1,[.v 1])]) (zM κ (some 0) Hk [.d 1,.b 1,.d 1,.v 1,.d 30] [(1,[.v 1])]))
def yak:Lp:=YT 3 (zR UY Iv) @y17 ZM
theorem ydu:LK yaj yak 201 Tryz.f201 0:=Zm 3 Iv @y17
def ylV:=qN 201 QO y7T 1 yaj yak Tryz.func201 ⟨ydu,trivial⟩
def fa (x:Hl):Option Int:=nz (yh (JP (dP 64 x.1) x.2))
def ylW:=q0 242 fa y7U [] Tryz.func242
abbrev VP:Type:=yfr
def Jr (k0:yfs→Option R) (k1:y5G→Option R) (a:VP→Option R) (x:VP):Option R:=nz (Z0 x.g x.f (z6 x.e x.g (ye (fa ((yy x.e x.g).1,(yy x.e x.g).b)) fun r=>z6 x.h x.1 (wM (decide (r<Y4 x.h x.1)) (WM (decide (zh x.1<x.h.z)) (z6 x.h (zh x.1) (yh (decide (r≥Y4 x.h (zh x.1))))) fun s=>yh s) fun t=>zw t (k0 (x.1,false,wX x.2 x.H)) (a (Vn x (zh x.g,x.h,x.I)))))) (k1 (fX x x.H)))
def VQ k0 k1:=iter (@Jr R k0 k1) FUEL
abbrev VR:Type:=y5G
def Js (k0:Bool→Option R) (k1:Unit→Option R) (a:VR→Option R) (x:VR):Option R:=nz (Z0 x.d x.c (z6 x.b x.d (VQ (fun r=>k0 r.b) (fun s=>a (wX s (zh s.d,s.e,s.F))) (fX x (yK x.b x.d,(yK x.b x.d).z,0,x.e,x.F)))) (k1 ()))
def em k0 k1:=iter (@Js R k0 k1) FUEL
def vE (x:y3h):Option Bool:=nz (z6 x.b x.C (em (fun r=>yh r) (fun s=>yh true) (x.C,yt x.b x.C,(yt x.b x.C).z,0,x.1,x.b)))
def y18:List QF:=[ylW]
def Iw (t:Elts UZ):St:=nd (stP UZ [.d 1,.v 1,.b 2,.d 12,.v 3,.d 3,.v 3,.d 35] [(2,[.v 2])] t)
def y19:Gk VP:=fun κ=>nd (Jr (zM κ none yft [.d 1,.v 1,.b 2,.d 1,.v 1,.d 10,.v 3,.d 41] [(2,[.v 2])]) (zM κ (some 2) Ok [.d 1,.v 1,.b 2,.d 12,.v 3,.d 41] [(2,[.v 2])]))
def Ix (t:Elts Ok):St:=nd (stP Ok [.d 1,.v 1,.b 2,.d 12,.v 3,.d 41] [(2,[.v 2])] t)
def y1a:Gk VR:=fun κ=>nd (Js (zM κ none [tB] [.d 4,.v 1,.d 54] []) (zM κ (some 0) [] [.d 59] []))
def y1b:Lp:=YT 2 (zR Ok Ix) @y1a (YT 5 (zR UZ Iw) @y19 ZM)
theorem ydv:LK y18 y1b 202 Tryz.f202 1:=Zm 5 Iw @y19
theorem ydw:LK y18 y1b 202 Tryz.f202 0:=Zm 2 Ix @y1a
def ylX:=qN 202 vE y7V 2 y18 y1b Tryz.func202 ⟨ydw,ydv,trivial⟩
def bq (x:List y7):Option (List y7):=nz (YS ([]:List y7) x 40 (yh (([]:List y7)++x)))
def ylY:=q0 287 bq y7W [] Tryz.func287
def Ww (x:y3f):Option Bool:=nz (KA (x.1==x.f) (x.b==x.g) fun r=>yh r)
def ylZ:=q0 330 Ww y7X [] Tryz.func330
abbrev vF:Type:=yfu
def jc (k0:yeJ→Option R) (a:vF→Option R) (x:vF):Option R:=nz (Z0 x.d x.c (z6 x.b x.d (WM (!x.1) (ye (kB (uk (yy x.b x.d) (x.e,x.f,x.g,x.h,x.i))) fun r=>yh (!r)) fun s=>zw s (YS x.J ([(x.e,x.f,x.g,x.h,x.i)]:List y7) 40 (ye (Ww (uk (yy x.b x.d) (x.e,x.f,x.g,x.h,x.i))) fun t=>zw (!t) (YS (x.J++([(x.e,x.f,x.g,x.h,x.i)]:List y7)) ([gD (yy x.b x.d)]:List y7) 40 (a (true,x.b,x.c,zh x.d,Pb x.E (x.J++([(x.e,x.f,x.g,x.h,x.i)]:List y7)++([gD (yy x.b x.d)]:List y7))))) (a (true,x.b,x.c,zh x.d,Pb x.E (x.J++([(x.e,x.f,x.g,x.h,x.i)]:List y7)))))) (ye (Ww (uk (yy x.b x.d) (x.e,x.f,x.g,x.h,x.i))) fun u=>zw (!u) (YS x.J ([gD (yy x.b x.d)]:List y7) 40 (a (wX x (zh x.d,Pb x.E (x.J++([gD (yy x.b x.d)]:List y7)))))) (a (wX x (zh x.d,Dx x.E)))))) (k0 (x.1,x.E)))
def br k0:=iter (@jc R k0) FUEL
def QP (x:yeL):Option (List y7):=nz (br (fun r=>zw (!r.1) (YS r.G ([(r.b,r.c,r.d,r.e,r.f)]:List y7) 40 (yh (r.G++([(r.b,r.c,r.d,r.e,r.f)]:List y7)))) (yh r.G)) (false,x.1,x.1.z,0,uk x.2 ([]:List y7)))
def yal:List QF:=[yik,ylZ]
def Iy (t:Elts U_):St:=nd (stP U_ [.d 3,.b 3,.d 1,.o 10000000,.v 1,.d 3,.v 3,.d 31] [(3,[.v 5]),(10000000,[])] t)
def y1c:Gk vF:=fun κ=>nd (jc (zM κ (some 0) yeK [.d 3,.b 3,.d 1,.o 10000000,.v 1,.d 37] [(3,[.v 5]),(10000000,[])]))
def yam:Lp:=YT 4 (zR U_ Iy) @y1c ZM
theorem ydx:LK yal yam 297 Tryz.f297 0:=Zm 4 Iy @y1c
def yl_:=qN 297 QP y7Y 1 yal yam Tryz.func297 ⟨ydx,trivial⟩
abbrev vR:Type:=y5H
def jW (k0:List y7→Option R) (a:vR→Option R) (x:vR):Option R:=nz (Z0 x.c x.b (z6 x.1 x.c (ye (QP (x.D,gD (yy x.1 x.c))) fun r=>a (x.1,x.b,zh x.c,r))) (k0 x.D))
def dh k0:=iter (@jW R k0) FUEL
def wv (x:yeM):Option (List y7):=nz (ye (bq x.1) fun r=>dh (fun s=>yh s) (x.2,x.2.z,0,r))
def yan:List QF:=[ylY,yl_]
def Iz (t:Elts Do):St:=nd (stP Do [.d 5,.o 10000000,.d 4,.v 3,.d 8] [(10000000,[])] t)
def y1d:Gk vR:=fun κ=>nd (jW (zM κ (some 0) [zj] [.d 5,.o 10000000,.d 15] [(10000000,[])]))
def yao:Lp:=YT 3 (zR Do Iz) @y1d ZM
theorem ydy:LK yan yao 268 Tryz.f268 0:=Zm 3 Iz @y1d
def ym0:=qN 268 wv y7Z 1 yan yao Tryz.func268 ⟨ydy,trivial⟩
abbrev fb:Type:=y5H
def KT (k0:List y7→Option R) (a:fb→Option R) (x:fb):Option R:=nz (Z0 x.c x.b (z6 x.1 x.c (Mg ((yy x.1 x.c).c) 0 (YS x.D ([gD (yy x.1 x.c)]:List y7) 40 (a (x.1,x.b,zh x.c,x.D++([gD (yy x.1 x.c)]:List y7)))) (a (x.1,x.b,zh x.c,x.D)))) (k0 x.D))
def nF k0:=iter (@KT R k0) FUEL
def ax (x:List y7):Option (List y7):=nz (nF (fun r=>yh r) (x,x.z,0,([]:List y7)))
def yap:List QF:=[]
def IA (t:Elts Do):St:=nd (stP Do [.d 3,.o 10000000,.d 3,.v 3,.d 12] [(10000000,[])] t)
def y1e:Gk fb:=fun κ=>nd (KT (zM κ (some 0) [zj] [.d 3,.o 10000000,.d 18] [(10000000,[])]))
def yaq:Lp:=YT 3 (zR Do IA) @y1e ZM
theorem ydz:LK yap yaq 269 Tryz.f269 0:=Zm 3 IA @y1e
def ym1:=qN 269 ax y7_ 1 yap yaq Tryz.func269 ⟨ydz,trivial⟩
abbrev VS:Type:=yfv
def Jt (k0:List y7→Option R) (a:VS→Option R) (x:VS):Option R:=nz (Z0 x.c x.b (z6 x.1 x.c (ye (wv (x.D,yK x.1 x.c)) fun r=>a (x.1,x.b,zh x.c,r))) (k0 x.D))
def eu k0:=iter (@Jt R k0) FUEL
def jd (x:List yc):Option (List y7):=nz (eu (fun r=>ye (ax r) fun s=>yh s) (x,x.z,0,([]:List y7)))
def yar:List QF:=[ym0,ym1]
def IB (t:Elts X0):St:=nd (stP X0 [.d 3,.o 10000000,.d 4,.v 3,.d 9] [(10000000,[])] t)
def y1f:Gk VS:=fun κ=>nd (Jt (zM κ (some 0) [zj] [.d 3,.o 10000000,.d 16] [(10000000,[])]))
def yas:Lp:=YT 3 (zR X0 IB) @y1f ZM
theorem ydA:LK yar yas 203 Tryz.f203 0:=Zm 3 IB @y1f
def yil:=qN 203 jd y80 1 yar yas Tryz.func203 ⟨ydA,trivial⟩
abbrev bt:Type:=yfw
def Wx (k0:y5I→Option R) (k1:Int→Option R) (a:bt→Option R) (x:bt):Option R:=nz (Z0 x.d x.c (z6 x.b x.d (WM (decide (x.d>0)) (z6 x.e (jE x.d) (z6 x.e x.d (yh (decide (Y4 x.e (jE x.d)≥Y4 x.e x.d))))) fun r=>wM r (ye (QO (yt x.b x.d)) fun s=>yh (!s)) fun t=>wM t (ye (vE (x.e,x.F,x.d)) fun u=>yh (!u)) fun v=>zw v (k0 (false,x.1)) (ye (jd (yt x.b x.d)) fun w=>KA (decide (x.d>0)) (w.z==0) fun p=>zw p (k0 (false,x.1)) (a (JP x.1 w.z,x.b,x.c,zh x.d,x.e,x.F))))) (k1 x.1))
def iP k0 k1:=iter (@Wx R k0 k1) FUEL
def QQ (x:o9):Option Bool:=nz (ye (yI (x.2.z,1,20)) fun r=>dO (!r) (x.1.z !=x.2.z) fun s=>wM s (z6 x.1 0 (yh (Y4 x.1 0 !=0))) fun t=>zw t (yh false) (iP (fun u=>yh u.1) (fun v=>yh (decide (v≤60))) (0,x.2,x.2.z,0,x.1,x.2)))
def yat:List QF:=[Hz,ylV,ylX,yil]
def IC (t:Elts X1):St:=nd (stP X1 [.d 1,.b 1,.d 1,.v 1,.d 25,.v 3,.d 46] [(1,[.v 2])] t)
def y1g:Gk bt:=fun κ=>nd (Wx (zM κ none yfx [.d 2,.v 2,.d 74] []) (zM κ (some 0) [tI] [.d 3,.v 1,.d 74] []))
def yau:Lp:=YT 5 (zR X1 IC) @y1g ZM
theorem ydB:LK yat yau 112 Tryz.f112 0:=Zm 5 IC @y1g
def ym2:=qN 112 QQ y81 1 yat yau Tryz.func112 ⟨ydB,trivial⟩
def di (x:Qz0):Option y5I:=nz (yh (x.1==x.C,x.C))
def ym3:=q0 271 di y82 [] Tryz.func271
abbrev YM:Type:=yfy
def zJ (k0:Hl→Option R) (k1:Int→Option R) (a:YM→Option R) (x:YM):Option R:=nz (Z0 x.c x.b (z6 x.1 x.c (ye (di ((yT x.1 x.c).1,(yT x.1 x.c).2,x.D)) fun r=>zw r.1 (k0 (x.c,r.2)) (a (x.1,x.b,zh x.c,r.2)))) (k1 x.D))
def ZP k0 k1:=iter (@zJ R k0 k1) FUEL
def Y7 (x:Hm):Option Hl:=nz (ZP (fun r=>yh r) (fun s=>yh (-1,s)) (x.1,x.1.z,0,x.2))
def ID:List QF:=[ym3]
def tY (t:Elts X2):St:=nd (stP X2 [.v 1,.c 271 901,.d 5,.v 2,.d 10] [(901,[.v 1])] t)
def DB:Gk YM:=fun κ=>nd (zJ (zM κ none ybV [.d 1,.c 271 901,.d 2,.v 1,.d 14] [(901,[.v 1])]) (zM κ (some 0) [tI] [.d 1,.c 271 901,.d 17] [(901,[.v 1])]))
def IE:Lp:=YT 2 (zR X2 tY) @DB ZM
theorem SS:LK ID IE 100000 Tryz.f270 0:=Zm 2 tY @DB
def y3Q:=qN 100000 Y7 Hr 1 ID IE Tryz.func270 ⟨SS,trivial⟩
def W6 (x:Hm):Option Int:=nz (ye (Y7 x) fun r=>yh r.1)
def ydC:=q0 204 W6 y83 [y3Q] Tryz.func204
abbrev bu:Type:=yfz
def Wy (k0:y3i→Option R) (k1:List yb→Option R) (a:bu→Option R) (x:bu):Option R:=nz (Z0 x.D x.c (z6 x.b x.D (ye (yI ((yT x.b x.D).1,1,60)) fun r=>wM (!r) (WM (decide (x.D>0)) (z6 x.1 (jE x.D) (yh (decide ((yT x.1 (jE x.D)).1≥(yT x.b x.D).1)))) fun s=>yh s) fun t=>wM t (WM ((yT x.b x.D).2 !=0) (oc 0 x.D x.1.z (ye (W6 (aD x.1 0 x.D,(yT x.b x.D).2)) fun u=>yh (decide (u<0)))) fun v=>yh v) fun w=>zw w (k0 (x.1,false)) (a (wX x (zh x.D))))) (k1 x.1))
def iQ k0 k1:=iter (@Wy R k0 k1) FUEL
def QR (x:List yb):Option Bool:=nz (iQ (fun r=>yh r.2) (fun s=>yh (decide (s.z≤16))) (x,x,x.z,0))
def yav:List QF:=[Hz,ydC]
def IF (t:Elts X3):St:=nd (stP X3 [.v 1,.d 4,.v 3,.d 41] [] t)
def y1h:Gk bu:=fun κ=>nd (Wy (zM κ none yeP [.v 1,.d 1,.v 1,.d 46] []) (zM κ (some 0) [yY] [.v 1,.d 48] []))
def yaw:Lp:=YT 2 (zR X3 IF) @y1h ZM
theorem ydD:LK yav yaw 113 Tryz.f113 0:=Zm 2 IF @y1h
def ym4:=qN 113 QR y84 1 yav yaw Tryz.func113 ⟨ydD,trivial⟩
def QS (x:Int):Option Bool:=nz (ye (yI (x,0,65535)) fun r=>yh r)
def ym5:=q0 152 QS y85 [Hz] Tryz.func152
abbrev Q7:Type:=yfA
def ww (k0:yeQ→Option R) (k1:List ya→Option R) (a:Q7→Option R) (x:Q7):Option R:=nz (Z0 x.D x.c (z6 x.b x.D (ye (yI ((yD x.b x.D).1,0,999)) fun r=>wM (!r) (ye (QS ((yD x.b x.D).C)) fun s=>yh (!s)) fun t=>wM t (KA ((yD x.b x.D).C !=0) (!((yD x.b x.D).b)) fun u=>yh u) fun v=>zw v (k0 (x.1,false)) (a (wX x (zh x.D))))) (k1 x.1))
def fK k0 k1:=iter (@ww R k0 k1) FUEL
def VT (x:List ya):Option Bool:=nz (fK (fun r=>yh r.2) (fun s=>yh (s.z==24)) (x,x,x.z,0))
def yax:List QF:=[Hz,ym5]
def IG (t:Elts X4):St:=nd (stP X4 [.v 1,.d 4,.v 3,.d 27] [] t)
def y1i:Gk Q7:=fun κ=>nd (ww (zM κ none yeR [.v 1,.d 1,.v 1,.d 32] []) (zM κ (some 0) [yL] [.v 1,.d 34] []))
def yay:Lp:=YT 2 (zR X4 IG) @y1i ZM
theorem ydE:LK yax yay 114 Tryz.f114 0:=Zm 2 IG @y1i
def ym6:=qN 114 VT y86 1 yax yay Tryz.func114 ⟨ydE,trivial⟩
abbrev bw:Type:=Qz7
def bz (k0:Qz8→Option R) (k1:ByteArray→Option R) (a:bw→Option R) (x:bw):Option R:=nz (Z0 x.2 ((ByteArray.size x.1:Nat):Int) (if 0≤x.2 then if r:x.2.toNat<ByteArray.size x.1 then ye (yI (fY ((UInt8.toNat (ByteArray.get x.1 x.2.toNat r):Nat):Int),97,122)) fun s=>WM (!s) (if 0≤x.2 then if t:x.2.toNat<ByteArray.size x.1 then ye (yI (fY ((UInt8.toNat (ByteArray.get x.1 x.2.toNat t):Nat):Int),48,57)) fun u=>yh (!u) else none else none) fun v=>zw v (k0 (x.1,false)) (a (x.1,zh x.2)) else none else none) (k1 x.1))
def iR k0 k1:=iter (@bz R k0 k1) FUEL
def QT (x:ByteArray):Option Bool:=nz (iR (fun r=>yh r.2) (fun s=>ye (yI (((ByteArray.size s:Nat):Int),1,6)) fun t=>yh t) (x,0))
def yaz:List QF:=[Hz]
def IH (t:Elts qz7):St:=nd (stP qz7 [.v 1,.d 2,.v 1,.d 23] [] t)
def y1j:Gk bw:=fun κ=>nd (bz (zM κ none qz8 [.v 1,.d 1,.v 1,.d 24] []) (zM κ (some 0) [tS] [.v 1,.d 26] []))
def yaA:Lp:=YT 2 (zR qz7 IH) @y1j ZM
theorem ydF:LK yaz yaA 153 Tryz.f153 0:=Zm 2 IH @y1j
def ym7:=qN 153 QT y87 1 yaz yaA Tryz.func153 ⟨ydF,trivial⟩
abbrev bB:Type:=yfB
def Wz (k0:List yf→Option R) (a:bB→Option R) (x:bB):Option R:=nz (Z0 x.d x.c (z6 x.b x.d (zw ((yT x.b x.d).2==x.1) (YS x.E ([(yT x.b x.d).1]:List yf) 8 (a (wX x (zh x.d,x.E++([(yT x.b x.d).1]:List yf))))) (a (wX x (zh x.d,x.E))))) (k0 x.E))
def iS k0:=iter (@Wz R k0) FUEL
def QU (x:Hm):Option (List yf):=nz (ZE x.2 0 (yh ([]:List yf)) (iS (fun r=>yh r) (x.2,x.1,x.1.z,0,([]:List yf))))
def yaB:List QF:=[]
def II (t:Elts X5):St:=nd (stP X5 [.d 1,.v 1,.d 3,.o 10000000,.d 6,.v 3,.d 14] [(10000000,[])] t)
def y1k:Gk bB:=fun κ=>nd (Wz (zM κ (some 0) [z4] [.d 5,.o 10000000,.d 23] [(10000000,[])]))
def yaC:Lp:=YT 5 (zR X5 II) @y1k ZM
theorem ydG:LK yaB yaC 205 Tryz.f205 0:=Zm 5 II @y1k
def ym8:=qN 205 QU y88 1 yaB yaC Tryz.func205 ⟨ydG,trivial⟩
def bC (x:yfC):Option y5J:=nz (yh (x.b==x.f,oa x.E))
def ym9:=q0 207 bC y89 [] Tryz.func207
abbrev YB:Type:=yfD
def zG (k0:y5K→Option R) (k1:yfF→Option R) (a:YB→Option R) (x:YB):Option R:=nz (Z0 x.c x.b (z6 x.1 x.c (ye (bC (mH (yC x.1 x.c) (oa x.D))) fun r=>zw r.1 (k0 (x.c,r.2)) (a (x.1,x.b,zh x.c,oa r.2)))) (k1 x.D))
def ZG k0 k1:=iter (@zG R k0 k1) FUEL
def Y0 (x:yca):Option y5K:=nz (ZG (fun r=>yh r) (fun s=>yh (-1,oa s)) (x.1,x.1.z,0,oa x.2))
def IJ:List QF:=[ym9]
def tZ (t:Elts X6):St:=nd (stP X6 [.v 1,.c 207 901,.d 5,.v 2,.d 10] [(901,[.v 4])] t)
def DC:Gk YB:=fun κ=>nd (zG (zM κ none yfE [.d 1,.c 207 901,.d 2,.v 1,.d 14] [(901,[.v 4])]) (zM κ (some 0) AY [.d 1,.c 207 901,.d 17] [(901,[.v 4])]))
def IK:Lp:=YT 2 (zR X6 tZ) @DC ZM
theorem SU:LK IJ IK 100002 Tryz.f228 0:=Zm 2 tZ @DC
def y3R:=qN 100002 Y0 Hs 1 IJ IK Tryz.func228 ⟨SU,trivial⟩
def zy (x:yca):Option y5J:=nz (ye (Y0 x) fun r=>yh (decide (r.1≥0),oa r.2))
def y3S:=q0 100001 zy Hu [y3R] Tryz.func206
abbrev bD:Type:=yfG
def WA (k0:N0→Option R) (k1:f6→Option R) (a:bD→Option R) (x:bD):Option R:=nz (Z0 x.c x.b (z6 x.1 x.c (ye (QT ((yC x.1 x.c).1)) fun r=>wM (!r) (WM (decide (x.c>0)) (z6 x.h (jE x.c) (yh (!(Go.Op.bytesLess (((yC x.h (jE x.c)).1).toList) (((yC x.1 x.c).1).toList))))) fun s=>yh s) fun t=>wM t (ye (yI ((yC x.1 x.c).c,1,12)) fun u=>yh (!u)) fun v=>zw v (k0 (false,x.D)) (ye (W6 (x.f,(yC x.1 x.c).b)) fun w=>wM (decide (w<0)) (ye (QU (x.f,(yC x.1 x.c).b)) fun p=>yh (decide (p.z>0))) fun q=>zw q (k0 (false,x.D)) (oc 0 x.c x.h.z (ye (zy (aD x.h 0 x.c,oa (yC x.1 x.c))) fun m=>zw m.1 (k0 (false,x.D)) (a (x.1,x.b,zh x.c,Dx x.D))))))) (k1 x.D))
def iT k0 k1:=iter (@WA R k0 k1) FUEL
def QV (x:f6):Option Bool:=nz (iT (fun r=>yh r.1) (fun s=>yh (decide (s.e.z≤6))) (x.e,x.e.z,0,Dx x))
def yaD:List QF:=[Hz,ym7,ydC,ym8,y3S]
def IL (t:Elts X7):St:=nd (stP X7 [.d 1,.b 1,.d 4,.v 3,.d 56] [(1,[.v 6])] t)
def y1l:Gk bD:=fun κ=>nd (WA (zM κ none y3j [.d 1,.b 1,.v 1,.d 62] [(1,[.v 6])]) (zM κ (some 0) Z1 [.d 1,.b 1,.d 63] [(1,[.v 6])]))
def yaE:Lp:=YT 2 (zR X7 IL) @y1l ZM
theorem ydH:LK yaD yaE 115 Tryz.f115 0:=Zm 2 IL @y1l
def yma:=qN 115 QV y8a 1 yaD yaE Tryz.func115 ⟨ydH,trivial⟩
abbrev VU:Type:=yfH
def Ju (k0:List y7→Option R) (a:VU→Option R) (x:VU):Option R:=nz (Z0 x.c x.b (z6 x.1 x.c (ye (jd (yt x.1 x.c)) fun r=>YS x.D r 40 (a (x.1,x.b,zh x.c,x.D++r)))) (k0 x.D))
def eC k0:=iter (@Ju R k0) FUEL
def WB (x:o9):Option (List y7):=nz (eC (fun r=>yh r) (x.2,x.2.z,0,([]:List y7)))
def yaF:List QF:=[yil]
def IM (t:Elts X8):St:=nd (stP X8 [.d 3,.o 10000000,.d 4,.v 3,.d 9] [(10000000,[])] t)
def y1m:Gk VU:=fun κ=>nd (Ju (zM κ (some 0) [zj] [.d 3,.o 10000000,.d 16] [(10000000,[])]))
def yaG:Lp:=YT 3 (zR X8 IM) @y1m ZM
theorem ydI:LK yaF yaG 166 Tryz.f166 0:=Zm 3 IM @y1m
def ymb:=qN 166 WB y8b 1 yaF yaG Tryz.func166 ⟨ydI,trivial⟩
def QW (x:yc6):Option yeS:=nz (ye (yI (x.b,0,jE x.1.z)) fun r=>wM (!r) (z6 x.1 x.b (yh (!((yD x.1 x.b).b)))) fun s=>wM s (z6 x.1 x.b (yh ((yD x.1 x.b).1 !=x.C))) fun t=>zw t (yh (0,false)) (z6 x.1 x.b (yh ((yD x.1 x.b).C,true))))
def ymc:=q0 208 QW y8c [Hz] Tryz.func208
abbrev vT:Type:=yfI
def jX (k0:Int→Option R) (a:vT→Option R) (x:vT):Option R:=nz (Z0 x.D x.c (z6 x.b x.D (zw ((yD x.b x.D).b) (a (zh x.1,x.b,x.c,zh x.D)) (a (wX x (zh x.D))))) (k0 x.1))
def dj k0:=iter (@jX R k0) FUEL
def Ka (x:List ya):Option Int:=nz (dj (fun r=>yh r) (0,x,x.z,0))
def yaH:List QF:=[]
def IP (t:Elts X9):St:=nd (stP X9 [.d 3,.v 1,.d 2,.v 3,.d 9] [] t)
def y1n:Gk vT:=fun κ=>nd (jX (zM κ (some 0) [tI] [.d 3,.v 1,.d 14] []))
def yaI:Lp:=YT 3 (zR X9 IP) @y1n ZM
theorem ydJ:LK yaH yaI 209 Tryz.f209 0:=Zm 3 IP @y1n
def ymd:=qN 209 Ka y8d 1 yaH yaI Tryz.func209 ⟨ydJ,trivial⟩
abbrev Q8:Type:=yfJ
def wx (k0:yc4→Option R) (k1:M_→Option R) (a:Q8→Option R) (x:Q8):Option R:=nz (Z0 x.c x.b (z6 x.K x.c (ye (W6 (x.f,(yy x.K x.c).b)) fun r=>Z0 r 0 (k0 (false,x.1,x.d,x.e,x.f,x.g,x.h,x.i)) (Mg ((yy x.K x.c).c) 1 (a (x.1,x.b,zh x.c,zF8 x.D)) (ye (QW (x.g,(yy x.K x.c).d,(yy x.K x.c).E)) fun s=>wM (!s.2) (z6 x.j ((yy x.K x.c).d) (yh (O7 x.j ((yy x.K x.c).d)))) fun t=>zw t (k0 (false,x.1,x.d,x.e,x.f,x.g,x.h,x.i)) (z6 x.j ((yy x.K x.c).d) (a (zh x.1,x.b,zh x.c,Vn x.D (lh x.j ((yy x.K x.c).d) true,x.K)))))))) (k1 (x.1,x.d,x.e,x.f,x.g,x.h,x.i)))
def fL k0 k1:=iter (@wx R k0 k1) FUEL
def VV (x:f6):Option Bool:=nz (if (0:Int)≤24 then if (24:Int)≤24 then if 24*((1:Nat):Int)≤140737488351232 then ye (WB (x.1,x.b)) fun r=>fL (fun s=>yh s.1) (fun t=>ye (Ka t.e) fun u=>yh (u==t.1)) (0,r.z,0,aN x (List.replicate (Int.toNat 24) MZ,r)) else none else none else none)
def yaJ:List QF:=[ymb,ydC,ymc,ymd]
def IQ (t:Elts Xa):St:=nd (stP Xa [.d 1,.b 1,.d 1,.o 10000000,.v 1,.d 7,.o 10000001,.v 2,.d 43] [(1,[.v 6]),(10000000,[]),(10000001,[])] t)
def y1o:Gk Q8:=fun κ=>nd (wx (zM κ none yc5 [.d 1,.b 1,.v 1,.d 1,.v 1,.d 53] [(1,[.v 6])]) (zM κ (some 0) sE [.d 1,.b 1,.d 2,.v 1,.d 53] [(1,[.v 6])]))
def yaK:Lp:=YT 4 (zR Xa IQ) @y1o ZM
theorem ydK:LK yaJ yaK 116 Tryz.f116 0:=Zm 4 IQ @y1o
def yme:=qN 116 VV y8e 1 yaJ yaK Tryz.func116 ⟨ydK,trivial⟩
abbrev bE:Type:=yfK
def WC (k0:N0→Option R) (k1:f6→Option R) (a:bE→Option R) (x:bE):Option R:=nz (Z0 x.c x.b (z6 x.1 x.c (zge ((yT x.1 x.c).1) x.I (k0 (false,x.D)) (a (x.1,x.b,zh x.c,Dx x.D)))) (k1 x.D))
def iU k0 k1:=iter (@WC R k0 k1) FUEL
def KU (x:f6):Option Bool:=nz (ye (QQ (x.1,x.b)) fun r=>wM (!r) (ye (QR x.c) fun s=>yh (!s)) fun t=>wM t (ye (VT x.d) fun u=>yh (!u)) fun v=>wM v (ye (yI (x.F,1,61)) fun w=>yh (!w)) fun p=>zw p (yh false) (iU (fun q=>yh q.1) (fun m=>ye (QV m) fun n=>WM n (ye (VV m) fun o=>yh o) fun e=>yh e) (x.c,x.c.z,0,Dx x)))
def yim:List QF:=[Hz,ym2,ym4,ym6,yma,yme]
def Pp (t:Elts Xb):St:=nd (stP Xb [.d 1,.b 1,.d 26,.v 3,.d 15] [(1,[.v 6])] t)
def yaL:Gk bE:=fun κ=>nd (WC (zM κ none y3j [.d 1,.b 1,.v 1,.d 43] [(1,[.v 6])]) (zM κ (some 0) Z1 [.d 1,.b 1,.d 44] [(1,[.v 6])]))
def yin:Lp:=YT 4 (zR Xb Pp) @yaL ZM
theorem yio:LK yim yin 37 Tryz.f37 0:=Zm 4 Pp @yaL
def q37:=qN 37 KU yh8 1 yim yin Tryz.func37 ⟨yio,trivial⟩
abbrev bF:Type:=yfL
def Y1 (k0:List yn→Option R) (a:bF→Option R) (x:bF):Option R:=nz (Z0 x.c x.b (z6 x.1 x.c (YS x.D (YK x.1 x.c) 1 (a (x.1,x.b,zh x.c,x.D++YK x.1 x.c)))) (k0 x.D))
def bG k0:=iter (@Y1 R k0) FUEL
def zE (x:List y8):Option (List yn):=nz (bG (fun r=>yh r) (x,x.z,0,([]:List yn)))
def yip:List QF:=[]
def Pq (t:Elts Xc):St:=nd (stP Xc [.d 3,.o 10000000,.d 3,.v 3,.d 8] [(10000000,[])] t)
def yaM:Gk bF:=fun κ=>nd (Y1 (zM κ (some 0) [yQ] [.d 3,.o 10000000,.d 14] [(10000000,[])]))
def yiq:Lp:=YT 3 (zR Xc Pq) @yaM ZM
theorem yir:LK yip yiq 44 Tryz.f44 0:=Zm 3 Pq @yaM
def q44:=qN 44 zE yh9 1 yip yiq Tryz.func44 ⟨yir,trivial⟩
def Jv (x:TW):Option (List yn):=nz (ye (zE ([x.1,([Go.IntKind.wrap .u8 (Go.bits .and .i64 (Int.fdiv x.2 (2^min (Int.toNat 8) (Go.IntKind.bits .i64))) 255),Go.IntKind.wrap .u8 (Go.bits .and .i64 x.2 255)]:List yn)]:List y8)) fun r=>yh r)
def q38:=q0 38 Jv yha [q44] Tryz.func38
def VW (x:y5L):Option (List yn):=nz (nC ((ByteArray.size x.2:Nat):Int) 60 (ye (zE ([x.1]:List y8)) fun r=>yh r) (ye (Jv (x.1,((ByteArray.size x.2:Nat):Int))) fun s=>if ByteArray.size x.2<140737488351232 then ye (zE ([s,Z_ x.2]:List y8)) fun t=>yh t else none))
def q39:=q0 39 VW yhb [q38,q44] Tryz.func39
def eD (x:Bool):Option Int:=nz (zw x (yh 1) (yh 0))
def q40:=q0 40 eD yhc [] Tryz.func40
def QX (x:y5M):Option (List yn):=nz (ye (zE ([x.1]:List y8)) fun r=>ye (K9 x.2) fun s=>zw (!s) (yh r) (YS r ([Go.IntKind.wrap .u8 x.b,Go.IntKind.wrap .u8 x.c,Go.IntKind.wrap .u8 x.d,Go.IntKind.wrap .u8 x.e]:List yn) 1 (ye (Jv (r++([Go.IntKind.wrap .u8 x.b,Go.IntKind.wrap .u8 x.c,Go.IntKind.wrap .u8 x.d,Go.IntKind.wrap .u8 x.e]:List yn),x.F)) fun t=>yh t)))
def q41:=q0 41 QX yhd [q38,q44,yds] Tryz.func41
abbrev Q9:Type:=yfM
def wy (k0:Dp→Option R) (a:Q9→Option R) (x:Q9):Option R:=nz (Z0 x.c x.b (z6 x.1 x.c (YS x.J ([Go.IntKind.wrap .u8 ((yT x.1 x.c).1),Go.IntKind.wrap .u8 ((yT x.1 x.c).2)]:List yn) 1 (a (x.1,x.b,zh x.c,Vn x.D (x.J++([Go.IntKind.wrap .u8 ((yT x.1 x.c).1),Go.IntKind.wrap .u8 ((yT x.1 x.c).2)]:List yn)))))) (k0 x.D))
def Qa k0:=iter (@wy R k0) FUEL
abbrev VX:Type:=yfN
def Jw (k0:Dp→Option R) (a:VX→Option R) (x:VX):Option R:=nz (Z0 x.c x.b (z6 x.1 x.c (ye (VW (x.J,(yC x.1 x.c).1)) fun r=>ye (eD ((yC x.1 x.c).D)) fun s=>YS r ([Go.IntKind.wrap .u8 ((yC x.1 x.c).b),Go.IntKind.wrap .u8 ((yC x.1 x.c).c),s]:List yn) 1 (a (x.1,x.b,zh x.c,Vn x.D (r++([Go.IntKind.wrap .u8 ((yC x.1 x.c).b),Go.IntKind.wrap .u8 ((yC x.1 x.c).c),s]:List yn)))))) (k0 x.D))
def VY k0:=iter (@Jw R k0) FUEL
abbrev VZ:Type:=yfO
def Jx (k0:Dp→Option R) (a:VZ→Option R) (x:VZ):Option R:=nz (Z0 x.c x.b (z6 x.1 x.c (ye (Jv (x.J,(yD x.1 x.c).1)) fun r=>ye (eD ((yD x.1 x.c).b)) fun s=>YS r ([s]:List yn) 1 (ye (Jv (r++([s]:List yn),(yD x.1 x.c).C)) fun t=>a (x.1,x.b,zh x.c,Vn x.D t)))) (k0 x.D))
def V_ k0:=iter (@Jx R k0) FUEL
abbrev qa:Type:=yfP
def Jy (k0:y5N→Option R) (a:qa→Option R) (x:qa):Option R:=nz (Z0 x.i x.h (z6 x.g x.i (ye (QX (x.P,gD (yy x.g x.i))) fun r=>a (zT8 x (zh x.i,Vn x.J r)))) (k0 (Vn x x.J)))
def qb k0:=iter (@Jy R k0) FUEL
abbrev qc:Type:=y5N
def Jz (k0:y5O→Option R) (a:qc→Option R) (x:qc):Option R:=nz (Z0 x.f x.e (z6 x.d x.f (YS x.M ([Go.IntKind.wrap .u8 ((yK x.d x.f).z)]:List yn) 1 (qb (fun r=>a (Pb r (zh r.f,Pf r.G))) (Vn x (yK x.d x.f,(yK x.d x.f).z,0,Vn x.G (x.M++([Go.IntKind.wrap .u8 ((yK x.d x.f).z)]:List yn))))))) (k0 (wX x x.G)))
def qd k0:=iter (@Jz R k0) FUEL
abbrev qe:Type:=y5O
def JA (k0:List yn→Option R) (a:qe→Option R) (x:qe):Option R:=nz (Z0 x.c x.b (z6 x.1 x.c (z6 x.d x.c (ye (Jv (x.J,Y4 x.d x.c)) fun r=>YS r ([Go.IntKind.wrap .u8 ((yt x.1 x.c).z)]:List yn) 1 (qd (fun s=>a (s.1,s.b,zh s.c,Pf s.D)) (wX x (yt x.1 x.c,(yt x.1 x.c).z,0,Vn x.D (r++([Go.IntKind.wrap .u8 ((yt x.1 x.c).z)]:List yn)))))))) (k0 x.J))
def qf k0:=iter (@JA R k0) FUEL
def wz (x:f6):Option (List yn):=nz (ye (KU x) fun r=>zw (!r) (yh ([]:List yn)) (ye (Jv (([]:List yn),x.F)) fun s=>YS s ([Go.IntKind.wrap .u8 x.c.z]:List yn) 1 (Qa (fun t=>YS t.G ([Go.IntKind.wrap .u8 t.e.z]:List yn) 1 (VY (fun u=>V_ (fun v=>YS v.G ([Go.IntKind.wrap .u8 v.b.z]:List yn) 1 (qf (fun w=>yh w) (v.b,v.b.z,0,Vn v (v.G++([Go.IntKind.wrap .u8 v.b.z]:List yn))))) (u.d,u.d.z,0,Pf u)) (t.e,t.e.z,0,Vn t (t.G++([Go.IntKind.wrap .u8 t.e.z]:List yn))))) (x.c,x.c.z,0,aN x (s++([Go.IntKind.wrap .u8 x.c.z]:List yn))))))
def f8Q:List QF:=[q37,q38,q39,q40,q41]
def y1p (t:Elts Xd):St:=nd (stP Xd [.d 1,.b 1,.d 1,.o 10000000,.d 25,.v 3,.d 120] [(1,[.v 6]),(10000000,[])] t)
def yis:Gk Q9:=fun κ=>nd (wy (zM κ (some 0) Dq [.d 1,.b 1,.d 1,.o 10000000,.d 148] [(1,[.v 6]),(10000000,[])]))
def Pr (t:Elts Xe):St:=nd (stP Xe [.d 1,.b 1,.d 1,.o 10000000,.d 49,.v 3,.d 96] [(1,[.v 6]),(10000000,[])] t)
def yaN:Gk VX:=fun κ=>nd (Jw (zM κ (some 2) Dq [.d 1,.b 1,.d 1,.o 10000000,.d 148] [(1,[.v 6]),(10000000,[])]))
def Ps (t:Elts Xf):St:=nd (stP Xf [.d 1,.b 1,.d 1,.o 10000000,.d 72,.v 3,.d 73] [(1,[.v 6]),(10000000,[])] t)
def yaO:Gk VZ:=fun κ=>nd (Jx (zM κ (some 4) Dq [.d 1,.b 1,.d 1,.o 10000000,.d 148] [(1,[.v 6]),(10000000,[])]))
def Pt (t:Elts Xg):St:=nd (stP Xg [.d 1,.b 1,.d 1,.o 10000000,.d 101,.v 3,.d 19,.v 3,.d 9,.v 3,.d 10] [(1,[.v 6]),(10000000,[])] t)
def yaP:Gk qa:=fun κ=>nd (Jy (zM κ (some 10) Ol [.d 1,.b 1,.d 1,.o 10000000,.d 101,.v 3,.d 19,.v 3,.d 22] [(1,[.v 6]),(10000000,[])]))
def Pu (t:Elts Ol):St:=nd (stP Ol [.d 1,.b 1,.d 1,.o 10000000,.d 101,.v 3,.d 19,.v 3,.d 22] [(1,[.v 6]),(10000000,[])] t)
def yaQ:Gk qc:=fun κ=>nd (Jz (zM κ (some 8) Om [.d 1,.b 1,.d 1,.o 10000000,.d 101,.v 3,.d 44] [(1,[.v 6]),(10000000,[])]))
def Pv (t:Elts Om):St:=nd (stP Om [.d 1,.b 1,.d 1,.o 10000000,.d 101,.v 3,.d 44] [(1,[.v 6]),(10000000,[])] t)
def yaR:Gk qe:=fun κ=>nd (JA (zM κ (some 6) [yQ] [.d 3,.o 10000000,.d 148] [(10000000,[])]))
def f8P:Lp:=YT 22 (zR Om Pv) @yaR (YT 26 (zR Ol Pu) @yaQ (YT 30 (zR Xg Pt) @yaP (YT 16 (zR Xf Ps) @yaO (YT 11 (zR Xe Pr) @yaN (YT 5 (zR Xd y1p) @yis ZM)))))
theorem ymf:LK f8Q f8P 8 Tryz.f8 0:=Zm 5 y1p @yis
theorem yit:LK f8Q f8P 8 Tryz.f8 1:=Zm 11 Pr @yaN
theorem yiu:LK f8Q f8P 8 Tryz.f8 2:=Zm 16 Ps @yaO
theorem yiv:LK f8Q f8P 8 Tryz.f8 5:=Zm 30 Pt @yaP
theorem yiw:LK f8Q f8P 8 Tryz.f8 4:=Zm 26 Pu @yaQ
theorem yix:LK f8Q f8P 8 Tryz.f8 3:=Zm 22 Pv @yaR
def q8:=qN 8 wz sg8 6 f8Q f8P Tryz.func8 ⟨ymf,yit,yiu,yix,yiw,yiv,trivial⟩
def mJ (x:TW):Option Int:=nz (Z0 x.2 x.1.z (z6 x.1 x.2 (yh (fY (wP x.1 x.2)))) (yh (Int.tmod (JP (dP x.2 31) (dP x.1.z 7)) 256)))
def q9:=q0 9 mJ sg9 [] Tryz.func9
def jw (x:Hl):Option Int:=nz (ye (yI (x.1,0,1)) fun r=>wM (!r) (ye (yI (x.2,0,23)) fun s=>yh (!s)) fun t=>zw t (yh (-1)) (yh (JP (JP 8 (dP x.1 24)) x.2)))
def q14:=q0 14 jw yhe [Hz] Tryz.func14
abbrev dk:Type:=yfQ
def kD (k0:On→Option R) (k1:uV→Option R) (a:dk→Option R) (x:dk):Option R:=nz (Z0 x.c x.b (z6 x.1 x.c (nC ((YK x.1 x.c).z) 80 (k0 (false,x.D)) (a (x.1,x.b,zh x.c,oa x.D)))) (k1 x.D))
def dl k0 k1:=iter (@kD R k0 k1) FUEL
abbrev bH:Type:=yfR
def WD (k0:Bool→Option R) (k1:Unit→Option R) (a:bH→Option R) (x:bH):Option R:=nz (Z0 x.c x.b (z6 x.1 x.c (ye (yI ((zr x.1 x.c).1,0,jE x.d.z)) fun r=>dO (!r) (decide (((List.length ((zr x.1 x.c).2):Nat):Int)>80)) fun s=>zw s (k0 false) (a (x.1,x.b,zh x.c,oa x.D)))) (k1 ()))
def bI k0 k1:=iter (@WD R k0 k1) FUEL
def JB (x:uV):Option Bool:=nz (ye (yI (x.1.z,1,60)) fun r=>dO (!r) (decide (x.b.z>60)) fun s=>wM s (ye (yI (x.c,-1,1000)) fun t=>yh (!t)) fun u=>zw u (yh false) (dl (fun v=>yh v.1) (fun w=>bI (fun p=>yh p) (fun q=>yh true) (w.b,w.b.z,0,oa w)) (x.1,x.1.z,0,oa x)))
def ydL:List QF:=[Hz]
def Pw (t:Elts Xh):St:=nd (stP Xh [.d 1,.b 1,.d 23,.v 3,.d 29] [(1,[.v 4])] t)
def yaS:Gk dk:=fun κ=>nd (kD (zM κ none Xi [.d 1,.b 1,.v 1,.d 54] [(1,[.v 4])]) (zM κ (some 0) ik [.d 1,.b 1,.d 55] [(1,[.v 4])]))
def IR (t:Elts Xj):St:=nd (stP Xj [.d 1,.b 1,.d 34,.v 3,.d 18] [(1,[.v 4])] t)
def y1q:Gk bH:=fun κ=>nd (WD (zM κ none [tB] [.d 2,.v 1,.d 54] []) (zM κ (some 2) [] [.d 57] []))
def ydM:Lp:=YT 10 (zR Xj IR) @y1q (YT 4 (zR Xh Pw) @yaS ZM)
theorem yiy:LK ydL ydM 21 Tryz.f21 0:=Zm 4 Pw @yaS
theorem ydN:LK ydL ydM 21 Tryz.f21 1:=Zm 10 IR @y1q
def q21:=qN 21 JB yhf 2 ydL ydM Tryz.func21 ⟨yiy,ydN,trivial⟩
abbrev Qb:Type:=Oo ⊕ Ot
def Zt (k0:y5P→Option R) (k1:y5R→Option R) (a:Qb→Option R):Qb→Option R
 | .inl x=>nz (Z0 x.c x.b (z6 x.1 x.c (ye (zE ([YK x.1 x.c]:List y8)) fun r=>if List.length ([r]:List y8)*24<140737488355328 then a (Sum.inr (x.1,x.b,zh x.c,zG8 x.D ([r]:List y8))) else none)) (k0 x.D))
 | .inr x=>nz (Z0 x.c x.b (z6 x.1 x.c (ye (zE ([YK x.1 x.c]:List y8)) fun r=>YS x.L ([r]:List y8) 24 (a (Sum.inr (x.1,x.b,zh x.c,zT8 x.D (x.L++([r]:List y8))))))) (k1 x.D))
def Qc k0 k1:=iter (@Zt R k0 k1) FUEL
abbrev Qd:Type:=Ov ⊕ Dr ⊕ tR ⊕ tT
def zW (k0:Xk→Option R) (k1:y5T→Option R) (k2:Xm→Option R) (k3:OA→Option R) (a:Qd→Option R):Qd→Option R
 | .inl x=>nz (Z0 x.c x.b (z6 x.1 x.c (ye (zE ([(zr x.1 x.c).2]:List y8)) fun r=>if List.length ([((zr x.1 x.c).1,r)]:List yw)*32<140737488355328 then a (Sum.inr (Sum.inl (x.1,x.b,zh x.c,mH x.D ([((zr x.1 x.c).1,r)]:List yw)))) else none)) (k0 x.D))
 | .inr (.inl x)=>nz (Z0 x.c x.b (z6 x.1 x.c (ye (zE ([(zr x.1 x.c).2]:List y8)) fun r=>YS x.H ([((zr x.1 x.c).1,r)]:List yw) 32 (a (Sum.inr (Sum.inl (x.1,x.b,zh x.c,fX x.D (x.H++([((zr x.1 x.c).1,r)]:List yw)))))))) (k1 x.D))
 | .inr (.inr (.inl x))=>nz (Z0 x.c x.b (z6 x.1 x.c (ye (zE ([(zr x.1 x.c).2]:List y8)) fun r=>if List.length ([((zr x.1 x.c).1,r)]:List yw)*32<140737488355328 then a (Sum.inr (Sum.inr (Sum.inr (x.1,x.b,zh x.c,uk x.D ([((zr x.1 x.c).1,r)]:List yw))))) else none)) (k2 x.D))
 | .inr (.inr (.inr x))=>nz (Z0 x.c x.b (z6 x.1 x.c (ye (zE ([(zr x.1 x.c).2]:List y8)) fun r=>YS x.I ([((zr x.1 x.c).1,r)]:List yw) 32 (a (Sum.inr (Sum.inr (Sum.inr (x.1,x.b,zh x.c,Pb x.D (x.I++([((zr x.1 x.c).1,r)]:List yw))))))))) (k3 x.D))
def jz k0 k1 k2 k3:=iter (@zW R k0 k1 k2 k3) FUEL
def kE (x:uV):Option uV:=nz (Qc (fun r=>jz (fun s=>yh (([]:List y8),([]:List yw),s.c,s.D)) (fun t=>yh (([]:List y8),t.E,t.c,t.d)) (fun u=>yh (u.E,([]:List yw),u.c,u.d)) (fun v=>yh (v.e,v.F,v.c,v.d)) (Sum.inl (r.b,r.b.z,0,oa r.E))) (fun w=>jz (fun p=>yh (([]:List y8),([]:List yw),p.c,p.D)) (fun q=>yh (([]:List y8),q.E,q.c,q.d)) (fun m=>yh (m.E,([]:List yw),m.c,m.d)) (fun n=>yh (n.e,n.F,n.c,n.d)) (Sum.inr (Sum.inr (Sum.inl (w.b,w.b.z,0,gD w.E))))) (Sum.inl (x.1,x.1.z,0,mH x (0,false,x.c,x.D))))
def B6:List QF:=[q44]
def uZ (t:Elts Oq):St:=nd (stP Oq [.d 1,.b 1,.b 2,.b 3,.d 10,.v 3,.d 33] [(1,[.v 4]),(2,[.s,.s,.v 2]),(3,[.s,.s,.v 2])] t)
theorem y3T: ∀ s t,zR Oq uZ s=some t→uZ t=s:=Y3 fun t=>by kernel_rfl
def u_ (t:Elts Ou):St:=nd (stP Ou [.d 1,.b 1,.b 2,.b 3,.d 10,.v 3,.d 33] [(1,[.v 4]),(2,[.s,.s,.v 2]),(3,[.o 10000000,.s,.v 2]),(10000000,[])] t)
theorem y3U: ∀ s t,zR Ou u_ s=some t→u_ t=s:=Y3 fun t=>by kernel_rfl
def x8:(Oo ⊕ Ot)→St:=Sum.elim uZ u_
def F7 (s:St):Option (Oo ⊕ Ot):=((zR Oq uZ s).map Sum.inl).or (((zR Ou u_) s).map Sum.inr)
theorem y3V: ∀ s t,F7 s=some t→x8 t=s:=Kz y3T y3U
def Px:Gk Qb:=fun κ=>nd (Zt (zM κ (some 0) y5Q [.d 1,.b 1,.b 2,.b 3,.d 46] [(1,[.v 4]),(2,[.s,.s,.v 2]),(3,[.s,.s,.v 2])]) (zM κ (some 0) y5S [.d 1,.b 1,.b 2,.b 3,.d 46] [(1,[.v 4]),(2,[.s,.s,.v 2]),(3,[.o 10000000,.s,.v 2]),(10000000,[])]))
def xa (t:Elts Ow):St:=nd (stP Ow [.d 2,.b 2,.b 3,.d 26,.v 3,.d 17] [(2,[.s,.s,.v 2]),(3,[.s,.s,.v 2])] t)
theorem y3W: ∀ s t,zR Ow xa s=some t→xa t=s:=Y3 fun t=>by kernel_rfl
def xc (t:Elts Ox):St:=nd (stP Ox [.d 2,.b 2,.b 3,.d 26,.v 3,.d 17] [(2,[.s,.s,.v 2]),(3,[.s,.o 10000000,.v 2]),(10000000,[])] t)
theorem y3X: ∀ s t,zR Ox xc s=some t→xc t=s:=Y3 fun t=>by kernel_rfl
def xd (t:Elts Oy):St:=nd (stP Oy [.d 2,.b 2,.b 3,.d 26,.v 3,.d 17] [(2,[.s,.s,.v 2]),(3,[.o 10000000,.s,.v 2]),(10000000,[])] t)
theorem y3Y: ∀ s t,zR Oy xd s=some t→xd t=s:=Y3 fun t=>by kernel_rfl
def xe (t:Elts Oz):St:=nd (stP Oz [.d 2,.b 2,.b 3,.d 26,.v 3,.d 17] [(2,[.s,.s,.v 2]),(3,[.o 10000000,.o 10000001,.v 2]),(10000000,[]),(10000001,[])] t)
theorem y3Z: ∀ s t,zR Oz xe s=some t→xe t=s:=Y3 fun t=>by kernel_rfl
def Py:(tR ⊕ tT)→St:=Sum.elim xd xe
def Pz (s:St):Option (tR ⊕ tT):=((zR Oy xd s).map Sum.inl).or (((zR Oz xe) s).map Sum.inr)
theorem y3_: ∀ s t,Pz s=some t→Py t=s:=Kz y3Y y3Z
def PA:(Dr ⊕ tR ⊕ tT)→St:=Sum.elim xc Py
def PB (s:St):Option (Dr ⊕ tR ⊕ tT):=((zR Ox xc s).map Sum.inl).or ((Pz s).map Sum.inr)
theorem y40: ∀ s t,PB s=some t→PA t=s:=Kz y3X y3_
def mK:(Ov ⊕ Dr ⊕ tR ⊕ tT)→St:=Sum.elim xa PA
def F8 (s:St):Option (Ov ⊕ Dr ⊕ tR ⊕ tT):=((zR Ow xa s).map Sum.inl).or ((PB s).map Sum.inr)
theorem y41: ∀ s t,F8 s=some t→mK t=s:=Kz y3W y40
def DD:Gk Qd:=fun κ=>nd (zW (zM κ (some 2) Xl [.d 2,.b 2,.b 3,.d 46] [(2,[.s,.s,.v 2]),(3,[.s,.s,.v 2])]) (zM κ (some 2) y5U [.d 2,.b 2,.b 3,.d 46] [(2,[.s,.s,.v 2]),(3,[.s,.o 10000000,.v 2]),(10000000,[])]) (zM κ (some 2) Xn [.d 2,.b 2,.b 3,.d 46] [(2,[.s,.s,.v 2]),(3,[.o 10000000,.s,.v 2]),(10000000,[])]) (zM κ (some 2) OB [.d 2,.b 2,.b 3,.d 46] [(2,[.s,.s,.v 2]),(3,[.o 10000000,.o 10000001,.v 2]),(10000000,[]),(10000001,[])]))
def B7:Lp:=YT 8 F8 @DD (YT 3 F7 @Px ZM)
theorem y42:LF B6 B7 42 3 Tryz.f42 0 x8 @Px fun v:Oo=> .inl v:=fun R κ again v=>by kernel_rfl
theorem y43:LF B6 B7 42 3 Tryz.f42 0 x8 @Px fun v:Ot=> .inr v:=fun R κ again v=>by kernel_rfl
theorem yiz:LF B6 B7 42 3 Tryz.f42 0 x8 @Px fun t=>t:=(LC.sum y42 y43)
theorem yiA:LK B6 B7 42 Tryz.f42 0:=Gc (u:=F7) y3V yiz
theorem y44:LF B6 B7 42 8 Tryz.f42 1 mK @DD fun v:Ov=> .inl v:=fun R κ again v=>by kernel_rfl
theorem y45:LF B6 B7 42 8 Tryz.f42 1 mK @DD fun v:Dr=> .inr (.inl v):=fun R κ again v=>by kernel_rfl
theorem y46:LF B6 B7 42 8 Tryz.f42 1 mK @DD fun v:tR=> .inr (.inr (.inl v)):=fun R κ again v=>by kernel_rfl
theorem y47:LF B6 B7 42 8 Tryz.f42 1 mK @DD fun v:tT=> .inr (.inr (.inr v)):=fun R κ again v=>by kernel_rfl
theorem yiB:LF B6 B7 42 8 Tryz.f42 1 mK @DD fun t=>t:=(LC.sum y44 (LC.sum y45 (LC.sum y46 y47)))
theorem yiC:LK B6 B7 42 Tryz.f42 1:=Gc (u:=F8) y41 yiB
def q42:=qN 42 kE yhg 2 B6 B7 Tryz.func42 ⟨yiA,yiC,trivial⟩
def lZ (x:uV):Option yfS:=nz (ZE x.c 0 (yh (x.1,x.b,-1,true,false)) (nC x.c 0 (yh (x.1,x.b,jE x.c,x.D,true)) (yh (mH x true))))
def ymg:=q0 118 lZ y8f [] Tryz.func118
def vG (x:Ds):Option uV:=nz (ye (kE (x.1,x.b,x.c,x.d)) fun r=>ye (JB (x.1,x.b,x.c,x.d)) fun s=>dO (!s) x.d fun t=>wM t (ye (yI (x.e,0,jE x.1.z)) fun u=>yh (!u)) fun v=>dO v (decide (x.F.z>80)) fun w=>dO w (x.b.z==60) fun p=>zw p (yh r) (ye (lZ r) fun q=>zw q.E (ye (zE ([x.F]:List y8)) fun m=>YS q.b ([(x.e,m)]:List yw) 32 (yh (q.1,q.b++([(x.e,m)]:List yw),q.c,q.d))) (yh (q.1,q.b,q.c,q.d))))
def q43:=q0 43 vG yhh [q21,Hz,q42,q44,ymg] Tryz.func43
abbrev KC:Type:=yfT
def JY (k0:OA→Option R) (a:KC→Option R) (x:KC):Option R:=nz (Z0 (dP x.c 70) x.b.z (ye (jw (x.1,x.c)) fun r=>oc (dP x.c 70) (if x.b.z<dP (zh x.c) 70 then x.b.z else dP (zh x.c) 70) x.b.z (ye (vG (x.h,x.I,x.f,x.g,r,aD x.b (dP x.c 70) (if x.b.z<dP (zh x.c) 70 then x.b.z else dP (zh x.c) 70))) fun s=>a (x.1,x.b,zh x.c,x.d,x.e,s.c,s.D,s.1,s.b))) (k0 x.D))
def KD k0:=iter (@JY R k0) FUEL
def ZQ (x:Ds):Option uV:=nz (ye (kE (x.1,x.b,x.c,x.d)) fun r=>ye (JB (x.1,x.b,x.c,x.d)) fun s=>dO (!s) (decide (x.F.z>1680)) fun t=>wM t (ye (yI (x.e,0,1)) fun u=>yh (!u)) fun v=>zw v (yh r) (KD (fun w=>yh (w.e,w.F,w.c,w.d)) (x.e,x.F,0,0,false,r.c,r.D,r.1,r.b)))
def yiD:List QF:=[q14,q21,Hz,q42,q43]
def PC (t:Elts Xo):St:=nd (stP Xo [.d 1,.v 2,.d 3,.b 6,.b 7,.v 1,.d 39] [(6,[.s,.s,.v 2]),(7,[.o 10000000,.o 10000001,.v 2]),(10000000,[]),(10000001,[])] t)
def yaT:Gk KC:=fun κ=>nd (JY (zM κ (some 0) OB [.d 6,.b 6,.b 7,.d 40] [(6,[.s,.s,.v 2]),(7,[.o 10000000,.o 10000001,.v 2]),(10000000,[]),(10000001,[])]))
def yiE:Lp:=YT 5 (zR Xo PC) @yaT ZM
theorem yiF:LK yiD yiE 10 Tryz.f10 0:=Zm 5 PC @yaT
def q10:=qN 10 ZQ yhi 1 yiD yiE Tryz.func10 ⟨yiF,trivial⟩
end
end Go.Proofs.YtekbnpmmjciloaaGreat.XB
