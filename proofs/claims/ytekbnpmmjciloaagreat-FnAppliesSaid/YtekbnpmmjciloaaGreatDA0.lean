/- What functions compute, and that they do; part 0 of A; by a program (dec.py). No condition. -/
import Derived.Test.YtekbnpmmjciloaaGreatXA
import Derived.Test.YtekbnpmmjciloaaGreatHA0
import Derived.Test.YtekbnpmmjciloaaGreatHA1
import Derived.Test.YtekbnpmmjciloaaGreatHA2
import Derived.Test.YtekbnpmmjciloaaGreatHA3
import Derived.Test.YtekbnpmmjciloaaGreatRC
set_option linter.all false
namespace Go.Proofs.YtekbnpmmjciloaaGreat.XA
open Go.Proofs.YtekbnpmmjciloaaGreat.R
set_option maxRecDepth 100000
noncomputable section
variable {R:Type}
def y3j (x:List qN):Option Bool:=nz (zso (decide (x.z>1048576)))
theorem ev5:EV [] lpN 5 Tryz.f5 sg5 [(.sl 5 Zo)] [.bool] y3j:=fun x=>by kernel_rfl
def q5:QF:=⟨5,y3j,okN (n:=0) Tryz.func5 trivial ev5⟩
def y2g (x:Qz0):Option Int:=nz (zlt x.2 x.1.z (zix x.1 x.2 (zso (zwr (ylK x.1 x.2)))) (zso (Int.tmod (zad (zml x.2 31) (zml x.1.z 7)) 256)))
theorem ev9:EV [] lpN 9 Tryz.f9 sg9 qz0 [(.int .i64)] y2g:=fun x=>by kernel_rfl
def q9:QF:=⟨9,y2g,okN (n:=0) Tryz.func9 trivial ev9⟩
abbrev y0l:Type:=Qz1
def Vz (k0:Qz0→Option R) (a:y0l→Option R) (x:y0l):Option R:=nz (zan (decide (x.C<x.1.z)) (decide (x.C<4000)) fun r=>zif r (zix x.1 x.C (a (x.1,Go.bits .and .i64 (zad (zad (zml x.b 137) (zwr (ylK x.1 x.C))) 11) 1073741823,zin x.C))) (k0 (x.1,x.b)))
def y8A k0:=zI (@Vz R k0) zY
def K0 (x:List qN):Option Qz1:=nz (y8A (fun r=>zso (r.1,0,r.2)) (x,zad 941941 x.z,0))
def yFB:List QF:=[]
def yfu (t:Qz1):St:=⟨y64 t.1::dd 2 (vI t.2.1::vI t.2.2::dd 27 []),[]⟩
def yzQ:Gk y0l:=fun κ=>Vz (fun t=>κ (some 0) ⟨y64 t.1::dd 2 (vI t.2::dd 28 []),[]⟩)
def yFC:Lp:=lpC 3 (unG qz1 yfu) @yzQ lpN
theorem yFD:LF yFB yFC 45 3 Tryz.f45 0 yfu @yzQ fun t=>t:=fun R κ again t=>by kernel_rfl
theorem yFE:LK yFB yFC 45 Tryz.f45 0:=lkN (u:=(unG qz1 yfu)) (yn fun t=>by kernel_rfl) yFD
theorem yN1:EV yFB yFC 45 Tryz.f45 yL6 [(.sl 5 Zo)] qz1 K0:=fun x=>by kernel_rfl
def q45:QF:=⟨45,K0,okN (n:=1) Tryz.func45 ⟨yFE,trivial⟩ yN1⟩
def Wy (x:Qz0):Option Int:=nz (zgt (zad 3 (zwr (Int.tdiv x.1.z 12))) x.2 (zso x.2) (zso (zad 3 (zwr (Int.tdiv x.1.z 12)))))
theorem yN2:EV [] lpN 56 Tryz.f56 yL7 qz0 [(.int .i64)] Wy:=fun x=>by kernel_rfl
def q56:QF:=⟨56,Wy,okN (n:=0) Tryz.func56 trivial yN2⟩
def jo (x:Qz1):Option Qz2:=nz (zlt x.b x.1.z (zix x.1 x.b (zso (Go.bits .and .i64 (zad (Go.bits .and .i64 (Go.bits .xor .i64 (Int.fdiv (zad (zml x.C 6364136223846793005) 1442695040888963407) (2^min (Int.toNat 33) (Go.IntKind.bits .i64))) (Int.fdiv (zad (zml x.C 6364136223846793005) 1442695040888963407) (2^min (Int.toNat 47) (Go.IntKind.bits .i64)))) 255) (zwr (ylK x.1 x.b))) 255,x.1,zin x.b,zad (zml x.C 6364136223846793005) 1442695040888963407))) (zso (Go.bits .and .i64 (Go.bits .xor .i64 (Int.fdiv (zad (zml x.C 6364136223846793005) 1442695040888963407) (2^min (Int.toNat 33) (Go.IntKind.bits .i64))) (Int.fdiv (zad (zml x.C 6364136223846793005) 1442695040888963407) (2^min (Int.toNat 47) (Go.IntKind.bits .i64)))) 255,x.1,x.b,zad (zml x.C 6364136223846793005) 1442695040888963407)))
theorem yFF:EV [] lpN 120 Tryz.f120 ywG qz1 qz2 jo:=fun x=>by kernel_rfl
def yN3:QF:=⟨120,jo,okN (n:=0) Tryz.func120 trivial yFF⟩
def yb (x:Qz3):Option Qz2:=nz (zle x.D 0 (zso (0,x.1,x.b,x.c)) (zle x.D 256 (zbd (jo (x.1,x.b,x.c)) fun r=>if x.D=0 then none else zso (Int.tmod r.1 x.D,zF3 r.2)) (zbd (jo (x.1,x.b,x.c)) fun s=>zbd (jo s.2) fun t=>zbd (jo t.2) fun u=>if x.D=0 then none else zso (Int.tmod (zad (zad (zml s.1 65536) (zml t.1 256)) u.1) x.D,zF3 u.2))))
theorem yN4:EV [yN3] lpN 51 Tryz.f51 yL8 qz3 qz2 yb:=fun x=>by kernel_rfl
def q51:QF:=⟨51,yb,okN (n:=0) Tryz.func51 trivial yN4⟩
def yz (x:Qz4):Option Qz2:=nz (zbd (yb (zT3 x x.D.z)) fun r=>zix x.D r.1 (zso (zB x.D r.1,zF3 r.2)))
theorem yN5:EV [q51] lpN 49 Tryz.f49 yL9 qz4 qz2 yz:=fun x=>by kernel_rfl
def q49:QF:=⟨49,yz,okN (n:=0) Tryz.func49 trivial yN5⟩
def yE (x:Qz5):Option Bool:=nz (zan (decide (x.1≥x.b)) (decide (x.1≤x.C)) fun r=>zso r)
theorem yN6:EV [] lpN 67 Tryz.f67 yLa qz5 [.bool] yE:=fun x=>by kernel_rfl
def q67:QF:=⟨67,yE,okN (n:=0) Tryz.func67 trivial yN6⟩
abbrev Q7:Type:=Qz6
def Q8 (k0:Qz7→Option R) (k1:ByteArray→Option R) (a:Q7→Option R) (x:Q7):Option R:=nz (zlt x.2 ((ByteArray.size x.1:Nat):Int) (if 0≤x.2 then if r:x.2.toNat<ByteArray.size x.1 then zbd (yE (zwr ((UInt8.toNat (ByteArray.get x.1 x.2.toNat r):Nat):Int),97,122)) fun s=>zam (!s) (if 0≤x.2 then if t:x.2.toNat<ByteArray.size x.1 then zbd (yE (zwr ((UInt8.toNat (ByteArray.get x.1 x.2.toNat t):Nat):Int),48,57)) fun u=>zso (!u) else none else none) fun v=>zif v (k0 (x.1,false)) (a (x.1,zin x.2)) else none else none) (k1 x.1))
def y2h k0 k1:=zI (@Q8 R k0 k1) zY
def zS (x:ByteArray):Option Bool:=nz (y2h (fun r=>zso r.2) (fun s=>zbd (yE (((ByteArray.size s:Nat):Int),1,6)) fun t=>zso t) (x,0))
def yqa:List QF:=[q67]
def yac (t:Qz6):St:=⟨vS t.1::dd 2 (vI t.2::dd 23 []),[]⟩
def ynG:Gk Q7:=fun κ=>Q8 (fun t=>κ none ⟨vS t.1:: .dead::vB t.2::dd 24 [],[]⟩) (fun t=>κ (some 0) ⟨vS t::dd 26 [],[]⟩)
def yqb:Lp:=lpC 2 (unG qz6 yac) @ynG lpN
theorem yzR:LF yqa yqb 169 2 Tryz.f169 0 yac @ynG fun t=>t:=fun R κ again t=>by kernel_rfl
theorem yzS:LK yqa yqb 169 Tryz.f169 0:=lkN (u:=(unG qz6 yac)) (yn fun t=>by kernel_rfl) yzR
theorem yFG:EV yqa yqb 169 Tryz.f169 ywH [.str] [.bool] zS:=fun x=>by kernel_rfl
def yqc:QF:=⟨169,zS,okN (n:=1) Tryz.func169 ⟨yzS,trivial⟩ yFG⟩
def zC (x:Int):Option Bool:=nz (zbd (yE (x,0,65535)) fun r=>zso r)
theorem yFH:EV [q67] lpN 170 Tryz.f170 ywI [(.int .i64)] [.bool] zC:=fun x=>by kernel_rfl
def yzT:QF:=⟨170,zC,okN (n:=0) Tryz.func170 trivial yFH⟩
def ZI (x:Qz8):Option Bool:=nz (zeq x.1 2 (zam (x.d==0) (zbd (yE (x.E,0,1)) fun r=>zso r) fun s=>zso s) (zeq x.1 3 (zeq x.1 3 (zan (x.d==0) (x.E==0) fun t=>zso t) (zOr (x.1==4) (x.E==0))) (zeq x.1 7 (zan (x.d==0) (x.E==0) fun u=>zso u) (zOr (x.1==4) (x.E==0)))))
theorem yFI:EV [q67] lpN 171 Tryz.f171 ywJ qz8 [.bool] ZI:=fun x=>by kernel_rfl
def yN7:QF:=⟨171,ZI,okN (n:=0) Tryz.func171 trivial yFI⟩
def V0 (x:Qz8):Option Bool:=nz (zbd (zS x.b) fun r=>zge x.1 7 (zeq x.1 2 (zbd (zS x.c) fun s=>zbd (yE (x.1,1,9)) fun t=>zan t (x.b.toList==ByteArray.toList ({data:= #[]})) fun u=>zan u s fun v=>zam v (zbd (zC x.d) fun w=>zso w) fun p=>zam p (zbd (zC x.E) fun q=>zso q) fun m=>zam m (zbd (ZI x) fun n=>zso n) fun o=>zso o) (zbd (yE (x.1,1,9)) fun e=>zan e (x.b.toList==ByteArray.toList ({data:= #[]})) fun f=>zan f (x.c.toList==ByteArray.toList ({data:= #[]})) fun g=>zam g (zbd (zC x.d) fun h=>zso h) fun i=>zam i (zbd (zC x.E) fun j=>zso j) fun l=>zam l (zbd (ZI x) fun y=>zso y) fun z=>zso z)) (zeq x.1 2 (zbd (zS x.c) fun b=>zbd (yE (x.1,1,9)) fun c=>zan c r fun d=>zan d b fun R=>zam R (zbd (zC x.d) fun A=>zso A) fun B=>zam B (zbd (zC x.E) fun C=>zso C) fun D=>zam D (zbd (ZI x) fun E=>zso E) fun G=>zso G) (zbd (yE (x.1,1,9)) fun H=>zan H r fun I=>zan I (x.c.toList==ByteArray.toList ({data:= #[]})) fun J=>zam J (zbd (zC x.d) fun K=>zso K) fun L=>zam L (zbd (zC x.E) fun M=>zso M) fun N=>zam N (zbd (ZI x) fun O=>zso O) fun P=>zso P)))
theorem yN8:EV [q67,yqc,yzT,yN7] lpN 84 Tryz.f84 yLb qz8 [.bool] V0:=fun x=>by kernel_rfl
def q84:QF:=⟨84,V0,okN (n:=0) Tryz.func84 trivial yN8⟩
def K1 (x:Qz9):Option Bool:=nz (zbd (yE (x.1,0,15)) fun r=>zom (!r) (zbd (yE (x.b,1,60)) fun s=>zso (!s)) fun t=>zom t (zbd (yE (x.c,0,2)) fun u=>zso (!u)) fun v=>zif v (zso false) (zeq x.c 1 (zbd (yE (x.d,0,23)) fun w=>zam w (zbd (yE (x.E,0,999)) fun p=>zso p) fun q=>zso q) (zan (x.d==0) (x.E==0) fun m=>zso m)))
theorem yFJ:EV [q67] lpN 303 Tryz.f303 ywK qz9 [.bool] K1:=fun x=>by kernel_rfl
def yLX:QF:=⟨303,K1,okN (n:=0) Tryz.func303 trivial yFJ⟩
def wu (x:yDA):Option Bool:=nz (zif (x.1 !=x.f) (zso (decide (x.1<x.f))) (zso (decide (x.b<x.g))))
theorem yFK:EV [] lpN 336 Tryz.f336 ywL yDB [.bool] wu:=fun x=>by kernel_rfl
def yLY:QF:=⟨336,wu,okN (n:=0) Tryz.func336 trivial yFK⟩
abbrev qh:Type:=yuq
def JT (k0:Bool→Option R) (k1:Unit→Option R) (a:qh→Option R) (x:qh):Option R:=nz (zlt x.2 x.1.z (zix x.1 (zde x.2) (zix x.1 x.2 (zbd (wu (zG5 (yi x.1 (zde x.2)) (zF5 (yi x.1 x.2)))) fun r=>zif (!r) (k0 false) (a (x.1,zin x.2))))) (k1 ()))
def y1I k0 k1:=zI (@JT R k0 k1) zY
def k9 (x:List y8):Option Bool:=nz (y1I (fun r=>zso r) (fun s=>zso true) (x,1))
def yqd:List QF:=[yLY]
def yad (t:yuq):St:=⟨y0M t.1::dd 2 (vI t.2::dd 17 []),[]⟩
def ynH:Gk qh:=fun κ=>JT (fun t=>κ none ⟨dd 2 (vB t::dd 18 []),[]⟩) (fun t=>κ (some 0) ⟨dd 21 [],[]⟩)
def yqe:Lp:=lpC 2 (unG yur yad) @ynH lpN
theorem yzU:LF yqd yqe 348 2 Tryz.f348 0 yad @ynH fun t=>t:=fun R κ again t=>by kernel_rfl
theorem yzV:LK yqd yqe 348 Tryz.f348 0:=lkN (u:=(unG yur yad)) (yn fun t=>by kernel_rfl) yzU
theorem yFL:EV yqd yqe 348 Tryz.f348 ywM [(.sl 91 yl)] [.bool] k9:=fun x=>by kernel_rfl
def yN9:QF:=⟨348,k9,okN (n:=1) Tryz.func348 ⟨yzV,trivial⟩ yFL⟩
abbrev y0m:Type:=yuq
def ka (k0:yJU→Option R) (k1:List y8→Option R) (a:y0m→Option R) (x:y0m):Option R:=nz (zlt x.2 x.1.z (zix x.1 x.2 (zbd (K1 (zF5 (yi x.1 x.2))) fun r=>zif (!r) (k0 (x.1,false)) (a (x.1,zin x.2)))) (k1 x.1))
def y3H k0 k1:=zI (@ka R k0 k1) zY
def VQ (x:List y8):Option Bool:=nz (y3H (fun r=>zso r.2) (fun s=>zbd (k9 s) fun t=>zan t (decide (s.z≤60)) fun u=>zso u) (x,0))
def yqf:List QF:=[yLX,yN9]
def yae (t:yuq):St:=⟨y0M t.1::dd 2 (vI t.2::dd 19 []),[]⟩
def ynI:Gk y0m:=fun κ=>ka (fun t=>κ none ⟨y0M t.1:: .dead::vB t.2::dd 20 [],[]⟩) (fun t=>κ (some 0) ⟨y0M t::dd 22 [],[]⟩)
def yqg:Lp:=lpC 2 (unG yur yae) @ynI lpN
theorem yzW:LF yqf yqg 331 2 Tryz.f331 0 yae @ynI fun t=>t:=fun R κ again t=>by kernel_rfl
theorem yzX:LK yqf yqg 331 Tryz.f331 0:=lkN (u:=(unG yur yae)) (yn fun t=>by kernel_rfl) yzW
theorem yFM:EV yqf yqg 331 Tryz.f331 ywN [(.sl 91 yl)] [.bool] VQ:=fun x=>by kernel_rfl
def yNa:QF:=⟨331,VQ,okN (n:=1) Tryz.func331 ⟨yzX,trivial⟩ yFM⟩
abbrev qi:Type:=yJV
def JU (k0:Int→Option R) (a:qi→Option R) (x:qi):Option R:=nz (zlt x.b x.C.z (zix x.C x.b (a (zad x.1 ((yu x.C x.b).z),zin x.b,x.C))) (k0 x.1))
def y1J k0:=zI (@JU R k0) zY
def kb (x:List ya):Option Int:=nz (y1J (fun r=>zso r) (0,0,x))
def yqh:List QF:=[]
def yaf (t:yJV):St:=⟨.dead:: .box 1 0:: .dead::vI t.1::vI t.2.1::dd 16 [],[(1,.box [Zh t.2.2])]⟩
def ynJ:Gk qi:=fun κ=>JU (fun t=>κ (some 0) ⟨dd 3 (vI t::dd 17 []),[]⟩)
def yqi:Lp:=lpC 3 (unG yJW yaf) @ynJ lpN
theorem yzY:LF yqh yqi 332 3 Tryz.f332 0 yaf @ynJ fun t=>t:=fun R κ again t=>by kernel_rfl
theorem yzZ:LK yqh yqi 332 Tryz.f332 0:=lkN (u:=(unG yJW yaf)) (yn fun t=>by kernel_rfl) yzY
theorem yFN:EV yqh yqi 332 Tryz.f332 ywO [(.sl 89 yq)] [(.int .i64)] kb:=fun x=>by kernel_rfl
def yNb:QF:=⟨332,kb,okN (n:=1) Tryz.func332 ⟨yzZ,trivial⟩ yFN⟩
abbrev Q9:Type:=ynD
def wP (k0:yMJ→Option R) (k1:List ya→Option R) (a:Q9→Option R) (x:Q9):Option R:=nz (zlt x.1 x.2.z (zix x.2 x.1 (zbd (VQ (yu x.2 x.1)) fun r=>zom (!r) (zix x.2 x.1 (zso ((yu x.2 x.1).z==0))) fun s=>zif s (k0 (false,x.2)) (a (zin x.1,x.2)))) (k1 x.2))
def y2i k0 k1:=zI (@wP R k0 k1) zY
def zL (x:List ya):Option Bool:=nz (y2i (fun r=>zso r.1) (fun s=>zam (decide (s.z≤3)) (zbd (kb s) fun t=>zso (decide (t≤8))) fun u=>zso u) (0,x))
def yqj:List QF:=[yNa,yNb]
def yag (t:ynD):St:=⟨.dead:: .box 1 0:: .dead::vI t.1::dd 32 [],[(1,.box [Zh t.2])]⟩
def ynK:Gk Q9:=fun κ=>wP (fun t=>κ none ⟨.dead:: .box 1 0::vB t.1::dd 33 [],[(1,.box [Zh t.2])]⟩) (fun t=>κ (some 0) ⟨.dead:: .box 1 0::dd 34 [],[(1,.box [Zh t])]⟩)
def yqk:Lp:=lpC 2 (unG yDC yag) @ynK lpN
theorem yA0:LF yqj yqk 298 2 Tryz.f298 0 yag @ynK fun t=>t:=fun R κ again t=>by kernel_rfl
theorem yA1:LK yqj yqk 298 Tryz.f298 0:=lkN (u:=(unG yDC yag)) (yn fun t=>by kernel_rfl) yA0
theorem yFO:EV yqj yqk 298 Tryz.f298 ywP [(.sl 89 yq)] [.bool] zL:=fun x=>by kernel_rfl
def yLZ:QF:=⟨298,zL,okN (n:=1) Tryz.func298 ⟨yA1,trivial⟩ yFO⟩
abbrev y1u:Type:=yDD
def Kj (k0:List y8→Option R) (a:y1u→Option R) (x:y1u):Option R:=nz (zlt x.b x.1.z (zix x.1 x.b (zne ((yi x.1 x.b).c) 0 (zix x.1 x.b (zgd x.C ([zF5 (yi x.1 x.b)]:List y8) 40 (a (x.1,zin x.b,x.C++([zF5 (yi x.1 x.b)]:List y8))))) (a (x.1,zin x.b,x.C)))) (k0 x.C))
def y4Q k0:=zI (@Kj R k0) zY
def YG (x:List y8):Option (List y8):=nz (y4Q (fun r=>zso r) (x,0,([]:List y8)))
def yql:List QF:=[]
def yah (t:yDD):St:=⟨y0M t.1::dd 2 (.own 10000000::vI t.2.1::dd 21 []),[(10000000,.root true 91 yl t.2.2)]⟩
def ynL:Gk y1u:=fun κ=>Kj (fun t=>κ (some 0) ⟨dd 3 (.own 10000000::dd 22 []),[(10000000,.root true 91 yl t)]⟩)
def yqm:Lp:=lpC 3 (unG yDE yah) @ynL lpN
theorem yA2:LF yql yqm 306 3 Tryz.f306 0 yah @ynL fun t=>t:=fun R κ again t=>by kernel_rfl
theorem yA3:LK yql yqm 306 Tryz.f306 0:=lkN (u:=(unG yDE yah)) (yn fun t=>by kernel_rfl) yA2
theorem yFP:EV yql yqm 306 Tryz.f306 ywQ [(.sl 91 yl)] [(.sl 91 yl)] YG:=fun x=>by kernel_rfl
def yFQ:QF:=⟨306,YG,okN (n:=1) Tryz.func306 ⟨yA3,trivial⟩ yFP⟩
def jZ (x:yDA):Option Bool:=nz (zan (x.1==x.f) (x.b==x.g) fun r=>zso r)
theorem yFR:EV [] lpN 337 Tryz.f337 ywR yDB [.bool] jZ:=fun x=>by kernel_rfl
def yNc:QF:=⟨337,jZ,okN (n:=0) Tryz.func337 trivial yFR⟩
abbrev Kl:Type:=yJX
def ZP (k0:yJZ→Option R) (a:Kl→Option R) (x:Kl):Option R:=nz (zlt x.c x.1.z (zam (!x.b) (zix x.1 x.c (zbd (wu (zG5 (yi x.1 x.c) (x.d,x.e,x.f,x.g,x.h))) fun r=>zso (!r))) fun s=>zif s (zgd x.I ([(x.d,x.e,x.f,x.g,x.h)]:List y8) 40 (zix x.1 x.c (zbd (jZ (zG5 (yi x.1 x.c) (x.d,x.e,x.f,x.g,x.h))) fun t=>zif (!t) (zix x.1 x.c (zgd (x.I++([(x.d,x.e,x.f,x.g,x.h)]:List y8)) ([zF5 (yi x.1 x.c)]:List y8) 40 (a (x.1,true,zin x.c,zT5 x.D (x.I++([(x.d,x.e,x.f,x.g,x.h)]:List y8)++([zF5 (yi x.1 x.c)]:List y8)))))) (a (x.1,true,zin x.c,zT5 x.D (x.I++([(x.d,x.e,x.f,x.g,x.h)]:List y8))))))) (zix x.1 x.c (zbd (jZ (zG5 (yi x.1 x.c) (x.d,x.e,x.f,x.g,x.h))) fun u=>zif (!u) (zix x.1 x.c (zgd x.I ([zF5 (yi x.1 x.c)]:List y8) 40 (a (x.1,x.b,zin x.c,zT5 x.D (x.I++([zF5 (yi x.1 x.c)]:List y8)))))) (a (x.1,x.b,zin x.c,zF6 x.D))))) (k0 (x.b,x.D)))
def Qa k0:=zI (@ZP R k0) zY
def zT (x:yK0):Option (List y8):=nz (Qa (fun r=>zif (!r.1) (zgd r.G ([(r.b,r.c,r.d,r.e,r.f)]:List y8) 40 (zso (r.G++([(r.b,r.c,r.d,r.e,r.f)]:List y8)))) (zso r.G)) (x.1,false,0,zG5 x.2 ([]:List y8)))
def yqn:List QF:=[yLY,yNc]
def yai (t:yJX):St:=⟨y0M t.1::dd 2 (.box 3 0:: .dead:: .own 10000000::vB t.2.1::vI t.2.2.1::dd 43 []),[(3,.box [vI t.2.2.2.1,vI t.2.2.2.2.1,vI t.2.2.2.2.2.1,vI t.2.2.2.2.2.2.1,vI t.2.2.2.2.2.2.2.1]),(10000000,.root true 91 yl t.2.2.2.2.2.2.2.2)]⟩
def ynM:Gk Kl:=fun κ=>ZP (fun t=>κ (some 0) ⟨dd 3 (.box 3 0:: .dead:: .own 10000000::vB t.1::dd 44 []),[(3,.box [vI t.2.1,vI t.2.2.1,vI t.2.2.2.1,vI t.2.2.2.2.1,vI t.2.2.2.2.2.1]),(10000000,.root true 91 yl t.2.2.2.2.2.2)]⟩)
def yqo:Lp:=lpC 4 (unG yJY yai) @ynM lpN
theorem yA4:LF yqn yqo 307 4 Tryz.f307 0 yai @ynM fun t=>t:=fun R κ again t=>by kernel_rfl
theorem yA5:LK yqn yqo 307 Tryz.f307 0:=lkN (u:=(unG yJY yai)) (yn fun t=>by kernel_rfl) yA4
theorem yFS:EV yqn yqo 307 Tryz.f307 ywS yK1 [(.sl 91 yl)] zT:=fun x=>by kernel_rfl
def yDU:QF:=⟨307,zT,okN (n:=1) Tryz.func307 ⟨yA5,trivial⟩ yFS⟩
abbrev Km:Type:=yDD
def jp (k0:List y8→Option R) (a:Km→Option R) (x:Km):Option R:=nz (zlt x.b x.1.z (zix x.1 x.b (zbd (zT (x.C,zF5 (yi x.1 x.b))) fun r=>a (x.1,zin x.b,r))) (k0 x.C))
def y04 k0:=zI (@jp R k0) zY
def jc (x:yEf):Option (List y8):=nz (zgd ([]:List y8) x.1 40 (y04 (fun r=>zso r) (x.2,0,([]:List y8)++x.1)))
def yqp:List QF:=[yDU]
def yaj (t:yDD):St:=⟨.dead::y0M t.1::dd 3 (.own 10000000::vI t.2.1::dd 16 []),[(10000000,.root true 91 yl t.2.2)]⟩
def ynN:Gk Km:=fun κ=>jp (fun t=>κ (some 0) ⟨dd 5 (.own 10000000::dd 17 []),[(10000000,.root true 91 yl t)]⟩)
def yqq:Lp:=lpC 3 (unG yDE yaj) @ynN lpN
theorem yA6:LF yqp yqq 333 3 Tryz.f333 0 yaj @ynN fun t=>t:=fun R κ again t=>by kernel_rfl
theorem yA7:LK yqp yqq 333 Tryz.f333 0:=lkN (u:=(unG yDE yaj)) (yn fun t=>by kernel_rfl) yA6
theorem yFT:EV yqp yqq 333 Tryz.f333 ywT yEg [(.sl 91 yl)] jc:=fun x=>by kernel_rfl
def yNd:QF:=⟨333,jc,okN (n:=1) Tryz.func333 ⟨yA7,trivial⟩ yFT⟩
abbrev V1:Type:=yK2
def J0 (k0:List y8→Option R) (a:V1→Option R) (x:V1):Option R:=nz (zlt x.1 x.b.z (zix x.b x.1 (zbd (jc (x.C,yu x.b x.1)) fun r=>a (zin x.1,x.b,r))) (k0 x.C))
def y0O k0:=zI (@J0 R k0) zY
def yI (x:List ya):Option (List y8):=nz (y0O (fun r=>zbd (YG r) fun s=>zso s) (0,x,([]:List y8)))
def yqr:List QF:=[yFQ,yNd]
def yak (t:yK2):St:=⟨.dead:: .box 1 0:: .dead:: .own 10000000::vI t.1::dd 17 [],[(1,.box [Zh t.2.1]),(10000000,.root true 91 yl t.2.2)]⟩
def ynO:Gk V1:=fun κ=>J0 (fun t=>κ (some 0) ⟨dd 3 (.own 10000000::dd 18 []),[(10000000,.root true 91 yl t)]⟩)
def yqs:Lp:=lpC 3 (unG yK3 yak) @ynO lpN
theorem yA8:LF yqr yqs 299 3 Tryz.f299 0 yak @ynO fun t=>t:=fun R κ again t=>by kernel_rfl
theorem yA9:LK yqr yqs 299 Tryz.f299 0:=lkN (u:=(unG yK3 yak)) (yn fun t=>by kernel_rfl) yA8
theorem yFU:EV yqr yqs 299 Tryz.f299 ywU [(.sl 89 yq)] [(.sl 91 yl)] yI:=fun x=>by kernel_rfl
def yqt:QF:=⟨299,yI,okN (n:=1) Tryz.func299 ⟨yA9,trivial⟩ yFU⟩
def Wz (x:yiq):Option Int:=nz (zso (zad (zml 64 x.1) x.2))
theorem yFV:EV [] lpN 334 Tryz.f334 ywV ylM [(.int .i64)] Wz:=fun x=>by kernel_rfl
def yM0:QF:=⟨334,Wz,okN (n:=0) Tryz.func334 trivial yFV⟩
def WA (x:Qz9):Option Int:=nz (zbd (Wz (x.1,x.b)) fun r=>zso r)
theorem yFW:EV [yM0] lpN 300 Tryz.f300 ywW qz9 [(.int .i64)] WA:=fun x=>by kernel_rfl
def yM1:QF:=⟨300,WA,okN (n:=0) Tryz.func300 trivial yFW⟩
abbrev Qb:Type:=yK4
def wQ (k0:yMK→Option R) (k1:yEh→Option R) (a:Qb→Option R) (x:Qb):Option R:=nz (zix x.F x.b (zlt x.c ((yu x.F x.b).z) (zix x.F x.b (zix (yu x.F x.b) x.c (zbd (WA (zF5 (yi (yu x.F x.b) x.c))) fun r=>zix x.d x.1 (zom (decide (r<zB x.d x.1)) (zam (decide (zin x.1<x.d.z)) (zix x.d (zin x.1) (zso (decide (r≥zB x.d (zin x.1))))) fun s=>zso s) fun t=>zif t (k0 (x.1,false,x.b,x.D)) (a (x.1,x.b,zin x.c,zF3 x.D)))))) (k1 (x.1,x.b,x.D))))
def Qc k0 k1:=zI (@wQ R k0 k1) zY
abbrev Qd:Type:=yEh
def wR (k0:Bool→Option R) (k1:Unit→Option R) (a:Qd→Option R) (x:Qd):Option R:=nz (zlt x.b x.E.z (Qc (fun r=>k0 r.b) (fun s=>a (s.1,zin s.b,zF3 s.C)) (x.1,x.b,0,zF3 x.C)) (k1 ()))
def Qe k0 k1:=zI (@wR R k0 k1) zY
def Kn (x:ytO):Option Bool:=nz (zix x.b x.C (zbd (zL (yk x.b x.C)) fun r=>zom (!r) (zam (decide (x.C>0)) (zbd (yI (yk x.b x.C)) fun s=>zso (s.z==0)) fun t=>zso t) fun u=>zif u (zso false) (Qe (fun v=>zso v) (fun w=>zso true) (x.C,0,x.1,x.b,yk x.b x.C))))
def yjM:List QF:=[yLZ,yqt,yM1]
def yal (t:yK4):St:=⟨.dead::vI t.1:: .box 2 0::dd 2 (.box 5 0::vI t.2.1::vI t.2.2.1::dd 70 []),[(2,.box [z6 t.2.2.2.1,yA t.2.2.2.2.1]),(5,.box [Zh t.2.2.2.2.2])]⟩
def ynP:Gk Qb:=fun κ=>wQ (fun t=>κ none ⟨.dead::vI t.1:: .box 2 0:: .dead::vB t.2.1:: .box 5 0::vI t.2.2.1::dd 71 [],[(2,.box [z6 t.2.2.2.1,yA t.2.2.2.2.1]),(5,.box [Zh t.2.2.2.2.2])]⟩) (fun t=>κ (some 2) ⟨.dead::vI t.1:: .box 2 0::dd 2 (.box 5 0::vI t.2.1::dd 71 []),[(2,.box [z6 t.2.2.1,yA t.2.2.2.1]),(5,.box [Zh t.2.2.2.2])]⟩)
def yam (t:yEh):St:=⟨.dead::vI t.1:: .box 2 0::dd 2 (.box 5 0::vI t.2.1::dd 71 []),[(2,.box [z6 t.2.2.1,yA t.2.2.2.1]),(5,.box [Zh t.2.2.2.2])]⟩
def ynQ:Gk Qd:=fun κ=>wR (fun t=>κ none ⟨dd 4 (vB t::dd 73 []),[]⟩) (fun t=>κ (some 0) ⟨dd 78 [],[]⟩)
def yjN:Lp:=lpC 5 (unG yK6 yam) @ynQ (lpC 8 (unG yK5 yal) @ynP lpN)
theorem yAa:LF yjM yjN 245 8 Tryz.f245 1 yal @ynP fun t=>t:=fun R κ again t=>by kernel_rfl
theorem yAb:LK yjM yjN 245 Tryz.f245 1:=lkN (u:=(unG yK5 yal)) (yn fun t=>by kernel_rfl) yAa
theorem yAc:LF yjM yjN 245 5 Tryz.f245 0 yam @ynQ fun t=>t:=fun R κ again t=>by kernel_rfl
theorem yAd:LK yjM yjN 245 Tryz.f245 0:=lkN (u:=(unG yK6 yam)) (yn fun t=>by kernel_rfl) yAc
theorem yFX:EV yjM yjN 245 Tryz.f245 ywX ytP [.bool] Kn:=fun x=>by kernel_rfl
def yNe:QF:=⟨245,Kn,okN (n:=2) Tryz.func245 ⟨yAd,yAb,trivial⟩ yFX⟩
abbrev V2:Type:=yK7
def J1 (k0:List y8→Option R) (a:V2→Option R) (x:V2):Option R:=nz (zlt x.1 x.c.z (zix x.c x.1 (zbd (yI (yk x.c x.1)) fun r=>zgd x.D r 40 (a (zin x.1,x.b,x.c,x.D++r)))) (k0 x.D))
def y0P k0:=zI (@J1 R k0) zY
def yY (x:y6M):Option (List y8):=nz (y0P (fun r=>zso r) (0,x.1,x.2,([]:List y8)))
def yqu:List QF:=[yqt]
def yan (t:yK7):St:=⟨.dead:: .box 1 0:: .dead:: .own 10000000::vI t.1::dd 17 [],[(1,.box [z6 t.2.1,yA t.2.2.1]),(10000000,.root true 91 yl t.2.2.2)]⟩
def ynR:Gk V2:=fun κ=>J1 (fun t=>κ (some 0) ⟨dd 3 (.own 10000000::dd 18 []),[(10000000,.root true 91 yl t)]⟩)
def yqv:Lp:=lpC 3 (unG yK8 yan) @ynR lpN
theorem yAe:LF yqu yqv 246 3 Tryz.f246 0 yan @ynR fun t=>t:=fun R κ again t=>by kernel_rfl
theorem yAf:LK yqu yqv 246 Tryz.f246 0:=lkN (u:=(unG yK8 yan)) (yn fun t=>by kernel_rfl) yAe
theorem yFY:EV yqu yqv 246 Tryz.f246 ywY kI [(.sl 91 yl)] yY:=fun x=>by kernel_rfl
def yqw:QF:=⟨246,yY,okN (n:=1) Tryz.func246 ⟨yAf,trivial⟩ yFY⟩
abbrev Qg:Type:=yeU
def wS (k0:yML→Option R) (k1:y6M→Option R) (a:Qg→Option R) (x:Qg):Option R:=nz (zlt x.1 x.C.z (zam (decide (x.1>0)) (zix x.b (zde x.1) (zix x.b x.1 (zso (decide (zB x.b (zde x.1)≥zB x.b x.1))))) fun r=>zom r (zbd (Kn (x.b,x.C,x.1)) fun s=>zso (!s)) fun t=>zif t (k0 (false,x.2)) (a (zin x.1,x.b,x.C))) (k1 x.2))
def y2j k0 k1:=zI (@wS R k0 k1) zY
def Zc (x:y6M):Option Bool:=nz (zbd (yE (x.2.z,1,20)) fun r=>zor (!r) (x.1.z !=x.2.z) fun s=>zom s (zix x.1 0 (zso (zB x.1 0 !=0))) fun t=>zif t (zso false) (y2j (fun u=>zso u.1) (fun v=>zbd (yY v) fun w=>zso (decide (w.z≤60))) (0,x.1,x.2)))
def yqx:List QF:=[q67,yNe,yqw]
def yao (t:yeU):St:=⟨.dead:: .box 1 0:: .dead::vI t.1::dd 54 [],[(1,.box [z6 t.2.1,yA t.2.2])]⟩
def ynS:Gk Qg:=fun κ=>wS (fun t=>κ none ⟨.dead:: .box 1 0::vB t.1::dd 55 [],[(1,.box [z6 t.2.1,yA t.2.2])]⟩) (fun t=>κ (some 0) ⟨.dead:: .box 1 0::dd 56 [],[(1,.box [z6 t.1,yA t.2])]⟩)
def yqy:Lp:=lpC 4 (unG yl0 yao) @ynS lpN
theorem yAg:LF yqx yqy 172 4 Tryz.f172 0 yao @ynS fun t=>t:=fun R κ again t=>by kernel_rfl
theorem yAh:LK yqx yqy 172 Tryz.f172 0:=lkN (u:=(unG yl0 yao)) (yn fun t=>by kernel_rfl) yAg
theorem yFZ:EV yqx yqy 172 Tryz.f172 ywZ kI [.bool] Zc:=fun x=>by kernel_rfl
def yM2:QF:=⟨172,Zc,okN (n:=1) Tryz.func172 ⟨yAh,trivial⟩ yFZ⟩
abbrev y0n:Type:=yDF
def kc (k0:Int→Option R) (k1:Unit→Option R) (a:y0n→Option R) (x:y0n):Option R:=nz (zlt x.C x.1.z (zix x.1 x.C (zif ((yD x.1 x.C).1==x.b) (k0 x.C) (a (x.1,x.b,zin x.C)))) (k1 ()))
def y3I k0 k1:=zI (@kc R k0 k1) zY
def zZ (x:yjh):Option Int:=nz (y3I (fun r=>zso r) (fun s=>zso (-1)) (x.1,x.2,0))
def yqz:List QF:=[]
def yap (t:yDF):St:=⟨zl t.1::vI t.2.1::dd 3 (vI t.2.2::dd 14 []),[]⟩
def ynT:Gk y0n:=fun κ=>kc (fun t=>κ none ⟨dd 4 (vI t::dd 15 []),[]⟩) (fun t=>κ (some 0) ⟨dd 20 [],[]⟩)
def yqA:Lp:=lpC 2 (unG yDG yap) @ynT lpN
theorem yAi:LF yqz yqA 247 2 Tryz.f247 0 yap @ynT fun t=>t:=fun R κ again t=>by kernel_rfl
theorem yAj:LK yqz yqA 247 Tryz.f247 0:=lkN (u:=(unG yDG yap)) (yn fun t=>by kernel_rfl) yAi
theorem yG0:EV yqz yqA 247 Tryz.f247 yx0 yji [(.int .i64)] zZ:=fun x=>by kernel_rfl
def yu2:QF:=⟨247,zZ,okN (n:=1) Tryz.func247 ⟨yAj,trivial⟩ yG0⟩
abbrev Qh:Type:=yjh
def wT (k0:ytQ→Option R) (k1:List y7→Option R) (a:Qh→Option R) (x:Qh):Option R:=nz (zlt x.2 x.1.z (zix x.1 x.2 (zbd (yE ((yD x.1 x.2).1,1,60)) fun r=>zom (!r) (zam (decide (x.2>0)) (zix x.1 (zde x.2) (zix x.1 x.2 (zso (decide ((yD x.1 (zde x.2)).1≥(yD x.1 x.2).1))))) fun s=>zso s) fun t=>zif t (k0 (x.1,false)) (zix x.1 x.2 (zam ((yD x.1 x.2).2 !=0) (zsl 0 x.2 x.1.z (zix x.1 x.2 (zbd (zZ (zcu x.1 0 x.2,(yD x.1 x.2).2)) fun u=>zso (decide (u<0))))) fun v=>zif v (k0 (x.1,false)) (a (x.1,zin x.2)))))) (k1 x.1))
def y2k k0 k1:=zI (@wT R k0 k1) zY
def ZD (x:List y7):Option Bool:=nz (y2k (fun r=>zso r.2) (fun s=>zso (decide (s.z≤16))) (x,0))
def yqB:List QF:=[q67,yu2]
def yaq (t:yjh):St:=⟨zl t.1::dd 2 (vI t.2::dd 52 []),[]⟩
def ynU:Gk Qh:=fun κ=>wT (fun t=>κ none ⟨zl t.1:: .dead::vB t.2::dd 53 [],[]⟩) (fun t=>κ (some 0) ⟨zl t::dd 55 [],[]⟩)
def yqC:Lp:=lpC 2 (unG yji yaq) @ynU lpN
theorem yAk:LF yqB yqC 173 2 Tryz.f173 0 yaq @ynU fun t=>t:=fun R κ again t=>by kernel_rfl
theorem yAl:LK yqB yqC 173 Tryz.f173 0:=lkN (u:=(unG yji yaq)) (yn fun t=>by kernel_rfl) yAk
theorem yG1:EV yqB yqC 173 Tryz.f173 yx1 [(.sl 79 yh)] [.bool] ZD:=fun x=>by kernel_rfl
def yG2:QF:=⟨173,ZD,okN (n:=1) Tryz.func173 ⟨yAl,trivial⟩ yG1⟩
abbrev qj:Type:=ytR
def JV (k0:yK9→Option R) (k1:List y6→Option R) (a:qj→Option R) (x:qj):Option R:=nz (zlt x.2 x.1.z (zix x.1 x.2 (zbd (yE ((ym x.1 x.2).1,0,999)) fun r=>zom (!r) (zix x.1 x.2 (zbd (zC ((ym x.1 x.2).C)) fun s=>zso (!s))) fun t=>zom t (zix x.1 x.2 (zam (!((ym x.1 x.2).b)) (zix x.1 x.2 (zso ((ym x.1 x.2).C !=0))) fun u=>zso u)) fun v=>zif v (k0 (x.1,false)) (a (x.1,zin x.2)))) (k1 x.1))
def y1K k0 k1:=zI (@JV R k0 k1) zY
def jR (x:List y6):Option Bool:=nz (y1K (fun r=>zso r.2) (fun s=>zso (s.z==24)) (x,0))
def yqD:List QF:=[q67,yzT]
def yar (t:ytR):St:=⟨yU t.1::dd 2 (vI t.2::dd 41 []),[]⟩
def ynV:Gk qj:=fun κ=>JV (fun t=>κ none ⟨yU t.1:: .dead::vB t.2::dd 42 [],[]⟩) (fun t=>κ (some 0) ⟨yU t::dd 44 [],[]⟩)
def yqE:Lp:=lpC 2 (unG ytS yar) @ynV lpN
theorem yAm:LF yqD yqE 174 2 Tryz.f174 0 yar @ynV fun t=>t:=fun R κ again t=>by kernel_rfl
theorem yAn:LK yqD yqE 174 Tryz.f174 0:=lkN (u:=(unG ytS yar)) (yn fun t=>by kernel_rfl) yAm
theorem yG3:EV yqD yqE 174 Tryz.f174 yx2 [(.sl 85 yc)] [.bool] jR:=fun x=>by kernel_rfl
def yG4:QF:=⟨174,jR,okN (n:=1) Tryz.func174 ⟨yAn,trivial⟩ yG3⟩
abbrev Qi:Type:=yKa
def wU (k0:List y9→Option R) (a:Qi→Option R) (x:Qi):Option R:=nz (zlt x.c x.1.z (zix x.1 x.c (zan ((yD x.1 x.c).2==x.b) (x.b !=0) fun r=>zif r (zix x.1 x.c (zgd x.D ([(yD x.1 x.c).1]:List y9) 8 (a (x.1,x.b,zin x.c,x.D++([(yD x.1 x.c).1]:List y9))))) (a (x.1,x.b,zin x.c,x.D)))) (k0 x.D))
def y2l k0:=zI (@wU R k0) zY
def JF (x:yjh):Option (List y9):=nz (y2l (fun r=>zso r) (x.1,x.2,0,([]:List y9)))
def yqF:List QF:=[]
def yas (t:yKa):St:=⟨zl t.1::vI t.2.1::dd 3 (.own 10000000::vI t.2.2.1::dd 27 []),[(10000000,.root true 3 yg t.2.2.2)]⟩
def ynW:Gk Qi:=fun κ=>wU (fun t=>κ (some 0) ⟨dd 5 (.own 10000000::dd 28 []),[(10000000,.root true 3 yg t)]⟩)
def yqG:Lp:=lpC 3 (unG yKb yas) @ynW lpN
theorem yAo:LF yqF yqG 248 3 Tryz.f248 0 yas @ynW fun t=>t:=fun R κ again t=>by kernel_rfl
theorem yAp:LK yqF yqG 248 Tryz.f248 0:=lkN (u:=(unG yKb yas)) (yn fun t=>by kernel_rfl) yAo
theorem yG5:EV yqF yqG 248 Tryz.f248 yx3 yji [(.sl 3 yg)] JF:=fun x=>by kernel_rfl
def yG6:QF:=⟨248,JF,okN (n:=1) Tryz.func248 ⟨yAp,trivial⟩ yG5⟩
abbrev qk:Type:=yKc
def JW (k0:yEi→Option R) (k1:yjj→Option R) (a:qk→Option R) (x:qk):Option R:=nz (zlt x.b x.1 (zix x.g x.b (zif ((yd x.g x.b).b==x.j) (k0 (false,x.1,x.c,x.d,x.e,x.f,x.g,x.h)) (a (x.1,zin x.b,yLV x.C)))) (k1 (x.1,x.c,x.d,x.e,x.f,x.g,x.h)))
def qm k0 k1:=zI (@JW R k0 k1) zY
abbrev qn:Type:=yjj
def JX (k0:yl1→Option R) (k1:y7P→Option R) (a:qn→Option R) (x:qn):Option R:=nz (zlt x.1 x.f.z (zix x.f x.1 (zbd (zS ((yd x.f x.1).1)) fun r=>zom (!r) (zbd (yE ((yd x.f x.1).c,1,12)) fun s=>zso (!s)) fun t=>zom t (zbd (zZ (x.d,(yd x.f x.1).b)) fun u=>zso (decide (u<0))) fun v=>zom v (zbd (JF (x.d,(yd x.f x.1).b)) fun w=>zso (decide (w.z>0))) fun p=>zom p (zam (decide (x.1>0)) (zix x.f (zde x.1) (zso (!(Go.Op.bytesLess (((yd x.f (zde x.1)).1).toList) (((yd x.f x.1).1).toList))))) fun q=>zso q) fun m=>zif m (k0 (false,x.2)) (qm (fun n=>k0 (n.1,n.C)) (fun o=>a (zin o.1,zF6 o.2)) (x.1,0,zG6 x.2 (zF4 (yd x.f x.1)))))) (k1 x.2))
def y1L k0 k1:=zI (@JX R k0 k1) zY
def ke (x:y7P):Option Bool:=nz (y1L (fun r=>zso r.1) (fun s=>zso (decide (s.e.z≤6))) (0,zF6 x))
def yjO:List QF:=[q67,yqc,yu2,yG6]
def yat (t:yKc):St:=⟨.dead:: .box 1 0:: .dead::vI t.1:: .box 4 0::vI t.2.1::dd 73 [],[(1,.box [z6 t.2.2.1,yA t.2.2.2.1,zl t.2.2.2.2.1,yU t.2.2.2.2.2.1,Y6 t.2.2.2.2.2.2.1,vI t.2.2.2.2.2.2.2.1]),(4,.box [vS t.2.2.2.2.2.2.2.2.1,vI t.2.2.2.2.2.2.2.2.2.1,vI t.2.2.2.2.2.2.2.2.2.2.1,vB t.2.2.2.2.2.2.2.2.2.2.2])]⟩
def ynX:Gk qk:=fun κ=>JW (fun t=>κ none ⟨.dead:: .box 1 0::vB t.1::vI t.2.1::dd 75 [],[(1,.box [z6 t.2.2.1,yA t.2.2.2.1,zl t.2.2.2.2.1,yU t.2.2.2.2.2.1,Y6 t.2.2.2.2.2.2.1,vI t.2.2.2.2.2.2.2])]⟩) (fun t=>κ (some 2) ⟨.dead:: .box 1 0:: .dead::vI t.1::dd 75 [],[(1,.box [z6 t.2.1,yA t.2.2.1,zl t.2.2.2.1,yU t.2.2.2.2.1,Y6 t.2.2.2.2.2.1,vI t.2.2.2.2.2.2])]⟩)
def yau (t:yjj):St:=⟨.dead:: .box 1 0:: .dead::vI t.1::dd 75 [],[(1,.box [z6 t.2.1,yA t.2.2.1,zl t.2.2.2.1,yU t.2.2.2.2.1,Y6 t.2.2.2.2.2.1,vI t.2.2.2.2.2.2])]⟩
def ynY:Gk qn:=fun κ=>JX (fun t=>κ none ⟨.dead:: .box 1 0::vB t.1::dd 76 [],[(1,.box [z6 t.2.1,yA t.2.2.1,zl t.2.2.2.1,yU t.2.2.2.2.1,Y6 t.2.2.2.2.2.1,vI t.2.2.2.2.2.2])]⟩) (fun t=>κ (some 0) ⟨.dead:: .box 1 0::dd 77 [],[(1,.box [z6 t.1,yA t.2.1,zl t.2.2.1,yU t.2.2.2.1,Y6 t.2.2.2.2.1,vI t.2.2.2.2.2])]⟩)
def yjP:Lp:=lpC 2 (unG ytT yau) @ynY (lpC 8 (unG yKd yat) @ynX lpN)
theorem yAq:LF yjO yjP 175 8 Tryz.f175 1 yat @ynX fun t=>t:=fun R κ again t=>by kernel_rfl
theorem yAr:LK yjO yjP 175 Tryz.f175 1:=lkN (u:=(unG yKd yat)) (yn fun t=>by kernel_rfl) yAq
theorem yAs:LF yjO yjP 175 2 Tryz.f175 0 yau @ynY fun t=>t:=fun R κ again t=>by kernel_rfl
theorem yAt:LK yjO yjP 175 Tryz.f175 0:=lkN (u:=(unG ytT yau)) (yn fun t=>by kernel_rfl) yAs
theorem yG7:EV yjO yjP 175 Tryz.f175 yx4 Z0 [.bool] ke:=fun x=>by kernel_rfl
def yNf:QF:=⟨175,ke,okN (n:=2) Tryz.func175 ⟨yAt,yAr,trivial⟩ yG7⟩
def WB (x:ytV):Option yKe:=nz (zbd (yE (x.b,0,zde x.1.z)) fun r=>zom (!r) (zix x.1 x.b (zso (!((ym x.1 x.b).b)))) fun s=>zom s (zix x.1 x.b (zso ((ym x.1 x.b).1 !=x.C))) fun t=>zif t (zso (0,false)) (zix x.1 x.b (zso ((ym x.1 x.b).C,true))))
theorem yG8:EV [q67] lpN 249 Tryz.f249 yx5 ytW yKf WB:=fun x=>by kernel_rfl
def yNg:QF:=⟨249,WB,okN (n:=0) Tryz.func249 trivial yG8⟩
abbrev Ko:Type:=ytV
def jq (k0:Int→Option R) (a:Ko→Option R) (x:Ko):Option R:=nz (zlt x.C x.1.z (zix x.1 x.C (zif ((ym x.1 x.C).b) (a (x.1,zin x.b,zin x.C)) (a (x.1,x.b,zin x.C)))) (k0 x.b))
def y05 k0:=zI (@jq R k0) zY
def JY (x:List y6):Option Int:=nz (y05 (fun r=>zso r) (x,0,0))
def yqH:List QF:=[]
def yav (t:ytV):St:=⟨yU t.1::dd 2 (vI t.2.1::vI t.2.2::dd 14 []),[]⟩
def ynZ:Gk Ko:=fun κ=>jq (fun t=>κ (some 0) ⟨dd 3 (vI t::dd 15 []),[]⟩)
def yqI:Lp:=lpC 3 (unG ytW yav) @ynZ lpN
theorem yAu:LF yqH yqI 250 3 Tryz.f250 0 yav @ynZ fun t=>t:=fun R κ again t=>by kernel_rfl
theorem yAv:LK yqH yqI 250 Tryz.f250 0:=lkN (u:=(unG ytW yav)) (yn fun t=>by kernel_rfl) yAu
theorem yG9:EV yqH yqI 250 Tryz.f250 yx6 [(.sl 85 yc)] [(.int .i64)] JY:=fun x=>by kernel_rfl
def yNh:QF:=⟨250,JY,okN (n:=1) Tryz.func250 ⟨yAv,trivial⟩ yG9⟩
abbrev V3:Type:=yEj
def J2 (k0:yMM→Option R) (k1:ynE→Option R) (a:V3→Option R) (x:V3):Option R:=nz (zlt x.c x.b (zix x.J x.c (zam ((yi x.J x.c).c==1) (zix x.J x.c (zix x.J x.b (zso ((yi x.J x.c).d==(yi x.J x.b).d)))) fun r=>zif r (k0 (false,x.1,x.b,x.D)) (a (x.1,x.b,zin x.c,zF7 x.D)))) (k1 (x.1,x.b,x.D)))
def V4 k0 k1:=zI (@J2 R k0 k1) zY
abbrev qp:Type:=ynE
def JZ (k0:yEi→Option R) (k1:yjj→Option R) (a:qp→Option R) (x:qp):Option R:=nz (zlt x.b x.I.z (zix x.I x.b (zbd (zZ (x.e,(yi x.I x.b).b)) fun r=>zlt r 0 (k0 (false,x.1,x.c,x.d,x.e,x.f,x.g,x.h)) (zix x.I x.b (zne ((yi x.I x.b).c) 1 (a (x.1,zin x.b,zF7 x.C)) (zix x.I x.b (zix x.I x.b (zbd (WB (x.f,(yi x.I x.b).d,(yi x.I x.b).E)) fun s=>zif (!s.2) (k0 (false,zin x.1,x.c,x.d,x.e,x.f,x.g,x.h)) (V4 (fun t=>k0 (t.1,t.b,t.d,t.e,t.f,t.g,t.h,t.i)) (fun u=>a (u.1,zin u.b,zF7 u.C)) (zin x.1,x.b,0,zF7 x.C))))))))) (k1 (x.1,x.c,x.d,x.e,x.f,x.g,x.h)))
def y1M k0 k1:=zI (@JZ R k0 k1) zY
def kf (x:y7P):Option Bool:=nz (zbd (yY (x.1,x.b)) fun r=>y1M (fun s=>zso s.1) (fun t=>zbd (JY t.e) fun u=>zso (t.1==u)) (0,0,zG6 x r))
def yjQ:List QF:=[yqw,yu2,yNg,yNh]
def y7R (t:yEj):St:=⟨.dead:: .box 1 0:: .dead:: .own 10000000::vI t.1::vI t.2.1::dd 2 (vI t.2.2.1::dd 73 []),[(1,.box [z6 t.2.2.2.1,yA t.2.2.2.2.1,zl t.2.2.2.2.2.1,yU t.2.2.2.2.2.2.1,Y6 t.2.2.2.2.2.2.2.1,vI t.2.2.2.2.2.2.2.2.1]),(10000000,.root true 91 yl t.2.2.2.2.2.2.2.2.2)]⟩
def yjR:Gk V3:=fun κ=>J2 (fun t=>κ none ⟨.dead:: .box 1 0::vB t.1:: .own 10000000::vI t.2.1::vI t.2.2.1::dd 76 [],[(1,.box [z6 t.2.2.2.1,yA t.2.2.2.2.1,zl t.2.2.2.2.2.1,yU t.2.2.2.2.2.2.1,Y6 t.2.2.2.2.2.2.2.1,vI t.2.2.2.2.2.2.2.2.1]),(10000000,.root true 91 yl t.2.2.2.2.2.2.2.2.2)]⟩) (fun t=>κ (some 2) ⟨.dead:: .box 1 0:: .dead:: .own 10000000::vI t.1::vI t.2.1::dd 76 [],[(1,.box [z6 t.2.2.1,yA t.2.2.2.1,zl t.2.2.2.2.1,yU t.2.2.2.2.2.1,Y6 t.2.2.2.2.2.2.1,vI t.2.2.2.2.2.2.2.1]),(10000000,.root true 91 yl t.2.2.2.2.2.2.2.2)]⟩)
def yaw (t:ynE):St:=⟨.dead:: .box 1 0:: .dead:: .own 10000000::vI t.1::vI t.2.1::dd 76 [],[(1,.box [z6 t.2.2.1,yA t.2.2.2.1,zl t.2.2.2.2.1,yU t.2.2.2.2.2.1,Y6 t.2.2.2.2.2.2.1,vI t.2.2.2.2.2.2.2.1]),(10000000,.root true 91 yl t.2.2.2.2.2.2.2.2)]⟩
def yo0:Gk qp:=fun κ=>JZ (fun t=>κ none ⟨.dead:: .box 1 0::vB t.1:: .dead::vI t.2.1::dd 77 [],[(1,.box [z6 t.2.2.1,yA t.2.2.2.1,zl t.2.2.2.2.1,yU t.2.2.2.2.2.1,Y6 t.2.2.2.2.2.2.1,vI t.2.2.2.2.2.2.2])]⟩) (fun t=>κ (some 0) ⟨.dead:: .box 1 0::dd 2 (vI t.1::dd 77 []),[(1,.box [z6 t.2.1,yA t.2.2.1,zl t.2.2.2.1,yU t.2.2.2.2.1,Y6 t.2.2.2.2.2.1,vI t.2.2.2.2.2.2])]⟩)
def yjS:Lp:=lpC 4 (unG ytX yaw) @yo0 (lpC 14 (unG yKg y7R) @yjR lpN)
theorem yqJ:LF yjQ yjS 176 14 Tryz.f176 1 y7R @yjR fun t=>t:=fun R κ again t=>by kernel_rfl
theorem yqK:LK yjQ yjS 176 Tryz.f176 1:=lkN (u:=(unG yKg y7R)) (yn fun t=>by kernel_rfl) yqJ
theorem yAw:LF yjQ yjS 176 4 Tryz.f176 0 yaw @yo0 fun t=>t:=fun R κ again t=>by kernel_rfl
theorem yAx:LK yjQ yjS 176 Tryz.f176 0:=lkN (u:=(unG ytX yaw)) (yn fun t=>by kernel_rfl) yAw
theorem yGa:EV yjQ yjS 176 Tryz.f176 yx7 Z0 [.bool] kf:=fun x=>by kernel_rfl
def yNi:QF:=⟨176,kf,okN (n:=2) Tryz.func176 ⟨yAx,yqK,trivial⟩ yGa⟩
abbrev Qj:Type:=yjj
def wV (k0:yl1→Option R) (k1:y7P→Option R) (a:Qj→Option R) (x:Qj):Option R:=nz (zlt x.1 x.d.z (zix x.d x.1 (zge ((yD x.d x.1).1) x.G (k0 (false,x.2)) (a (zin x.1,zF6 x.2)))) (k1 x.2))
def y2m k0 k1:=zI (@wV R k0 k1) zY
def yV (x:y7P):Option Bool:=nz (y2m (fun r=>zso r.1) (fun s=>zbd (Zc (s.1,s.b)) fun t=>zam t (zbd (ZD s.c) fun u=>zso u) fun v=>zam v (zbd (jR s.d) fun w=>zso w) fun p=>zam p (zbd (yE (s.F,1,61)) fun q=>zso q) fun m=>zam m (zbd (ke s) fun n=>zso n) fun o=>zam o (zbd (kf s) fun e=>zso e) fun f=>zso f) (0,zF6 x))
def yGb:List QF:=[q67,yM2,yG2,yG4,yNf,yNi]
def yfv (t:yjj):St:=⟨.dead:: .box 1 0:: .dead::vI t.1::dd 42 [],[(1,.box [z6 t.2.1,yA t.2.2.1,zl t.2.2.2.1,yU t.2.2.2.2.1,Y6 t.2.2.2.2.2.1,vI t.2.2.2.2.2.2])]⟩
def yAy:Gk Qj:=fun κ=>wV (fun t=>κ none ⟨.dead:: .box 1 0::vB t.1::dd 43 [],[(1,.box [z6 t.2.1,yA t.2.2.1,zl t.2.2.2.1,yU t.2.2.2.2.1,Y6 t.2.2.2.2.2.1,vI t.2.2.2.2.2.2])]⟩) (fun t=>κ (some 0) ⟨.dead:: .box 1 0::dd 44 [],[(1,.box [z6 t.1,yA t.2.1,zl t.2.2.1,yU t.2.2.2.1,Y6 t.2.2.2.2.1,vI t.2.2.2.2.2])]⟩)
def yGc:Lp:=lpC 2 (unG ytT yfv) @yAy lpN
theorem yGd:LF yGb yGc 85 2 Tryz.f85 0 yfv @yAy fun t=>t:=fun R κ again t=>by kernel_rfl
theorem yGe:LK yGb yGc 85 Tryz.f85 0:=lkN (u:=(unG ytT yfv)) (yn fun t=>by kernel_rfl) yGd
theorem yNj:EV yGb yGc 85 Tryz.f85 yLc Z0 [.bool] yV:=fun x=>by kernel_rfl
def q85:QF:=⟨85,yV,okN (n:=1) Tryz.func85 ⟨yGe,trivial⟩ yNj⟩
abbrev Qk:Type:=ynD ⊕ ypH
def ZQ (k0:Unit→Option R) (k1:List ya→Option R) (a:Qk→Option R):Qk→Option R
 | .inl x=>nz (zlt x.1 x.2.z (zix x.2 x.1 (zgd ([]:List y8) (yu x.2 x.1) 40 (if List.length ([([]:List y8)++yu x.2 x.1]:List ya)*24<140737488355328 then a (Sum.inr (zin x.1,x.2,([([]:List y8)++yu x.2 x.1]:List ya))) else none))) (k0 ()))
 | .inr x=>nz (zlt x.1 x.b.z (zix x.b x.1 (zgd ([]:List y8) (yu x.b x.1) 40 (zgd x.C ([([]:List y8)++yu x.b x.1]:List ya) 24 (a (Sum.inr (zin x.1,x.b,x.C++([([]:List y8)++yu x.b x.1]:List ya))))))) (k1 x.C))
def y2n k0 k1:=zI (@ZQ R k0 k1) zY
def zD (x:List ya):Option (List ya):=nz (y2n (fun r=>zso ([]:List ya)) (fun s=>zso s) (Sum.inl (0,x)))
def yjT:List QF:=[]
def y6O (t:ynD):St:=⟨.dead:: .box 1 0:: .box 2 0:: .box 3 0::vI t.1::dd 21 [],[(1,.box [Zh t.2]),(2,.box [.nils]),(3,.box [.nils])]⟩
theorem ym9: ∀ s t,unG yDC y6O s=some t→y6O t=s:=yn fun t=>by kernel_rfl
def y6P (t:ypH):St:=⟨.dead:: .box 1 0:: .box 2 0:: .box 3 0::vI t.1::dd 21 [],[(1,.box [Zh t.2.1]),(2,.box [.nils]),(3,.box [.own 10000000]),(10000000,.root true 89 yq t.2.2)]⟩
theorem yma: ∀ s t,unG yDI y6P s=some t→y6P t=s:=yn fun t=>by kernel_rfl
def y6Q:(ynD ⊕ ypH)→St:=Sum.elim y6O y6P
def yax (s:St):Option (ynD ⊕ ypH):=((unG yDC y6O s).map Sum.inl).or (((unG yDI y6P) s).map Sum.inr)
theorem ymb: ∀ s t,yax s=some t→y6Q t=s:=y5x ym9 yma
def ygX:Gk Qk:=fun κ=>ZQ (fun t=>κ (some 0) ⟨dd 2 (.box 2 0:: .box 3 0::dd 22 []),[(2,.box [.nils]),(3,.box [.nils])]⟩) (fun t=>κ (some 0) ⟨dd 2 (.box 2 0:: .box 3 0::dd 22 []),[(2,.box [.nils]),(3,.box [.own 10000000]),(10000000,.root true 89 yq t)]⟩)
def yjU:Lp:=lpC 3 yax @ygX lpN
theorem ymc:LF yjT yjU 251 3 Tryz.f251 0 y6Q @ygX fun v:ynD=> .inl v:=fun R κ again v=>by kernel_rfl
theorem ymd:LF yjT yjU 251 3 Tryz.f251 0 y6Q @ygX fun v:ypH=> .inr v:=fun R κ again v=>by kernel_rfl
theorem yAz:LF yjT yjU 251 3 Tryz.f251 0 y6Q @ygX fun t=>t:=(LC.sum ymc ymd)
theorem yAA:LK yjT yjU 251 Tryz.f251 0:=lkN (u:=yax) ymb yAz
theorem yGf:EV yjT yjU 251 Tryz.f251 yx8 [(.sl 89 yq)] [(.sl 89 yq)] zD:=fun x=>by kernel_rfl
def yM3:QF:=⟨251,zD,okN (n:=1) Tryz.func251 ⟨yAA,trivial⟩ yGf⟩
abbrev Ql:Type:=yus ⊕ ypI
def ZR (k0:List y9→Option R) (k1:y6M→Option R) (a:Ql→Option R):Ql→Option R
 | .inl x=>nz (zlt x.1 x.c.z (zix x.c x.1 (zbd (zD (yk x.c x.1)) fun r=>if List.length ([r]:List y0)*24<140737488355328 then a (Sum.inr (zin x.1,zG3 x.2 ([r]:List y0))) else none)) (k0 x.D))
 | .inr x=>nz (zlt x.1 x.c.z (zix x.c x.1 (zbd (zD (yk x.c x.1)) fun r=>zgd x.E ([r]:List y0) 24 (a (Sum.inr (zin x.1,zT3 x.2 (x.E++([r]:List y0))))))) (k1 x.D))
def y2o k0 k1:=zI (@ZR R k0 k1) zY
def jr (x:y6M):Option y6M:=nz (zgd ([]:List y9) x.1 8 (y2o (fun r=>zso (r,([]:List y0))) (fun s=>zso s) (Sum.inl (0,x.1,x.2,([]:List y9)++x.1))))
def yjV:List QF:=[yM3]
def y6R (t:yus):St:=⟨.dead:: .box 1 0:: .box 2 0:: .box 3 0::vI t.1::dd 24 [],[(1,.box [z6 t.2.1,yA t.2.2.1]),(2,.box [.nils,.nils]),(3,.box [.own 10000000,.nils]),(10000000,.root true 3 yg t.2.2.2)]⟩
theorem yme: ∀ s t,unG yKh y6R s=some t→y6R t=s:=yn fun t=>by kernel_rfl
def y6S (t:ypI):St:=⟨.dead:: .box 1 0:: .box 2 0:: .box 3 0::vI t.1::dd 24 [],[(1,.box [z6 t.2.1,yA t.2.2.1]),(2,.box [.nils,.nils]),(3,.box [.own 10000000,.own 10000001]),(10000000,.root true 3 yg t.2.2.2.1),(10000001,.root true 88 yj t.2.2.2.2)]⟩
theorem ymf: ∀ s t,unG yDJ y6S s=some t→y6S t=s:=yn fun t=>by kernel_rfl
def y6T:(yus ⊕ ypI)→St:=Sum.elim y6R y6S
def yay (s:St):Option (yus ⊕ ypI):=((unG yKh y6R s).map Sum.inl).or (((unG yDJ y6S) s).map Sum.inr)
theorem ymg: ∀ s t,yay s=some t→y6T t=s:=y5x yme ymf
def ygY:Gk Ql:=fun κ=>ZR (fun t=>κ (some 0) ⟨dd 2 (.box 2 0:: .box 3 0::dd 25 []),[(2,.box [.nils,.nils]),(3,.box [.own 10000000,.nils]),(10000000,.root true 3 yg t)]⟩) (fun t=>κ (some 0) ⟨dd 2 (.box 2 0:: .box 3 0::dd 25 []),[(2,.box [.nils,.nils]),(3,.box [.own 10000000,.own 10000001]),(10000000,.root true 3 yg t.1),(10000001,.root true 88 yj t.2)]⟩)
def yjW:Lp:=lpC 3 yay @ygY lpN
theorem ymh:LF yjV yjW 177 3 Tryz.f177 0 y6T @ygY fun v:yus=> .inl v:=fun R κ again v=>by kernel_rfl
theorem ymi:LF yjV yjW 177 3 Tryz.f177 0 y6T @ygY fun v:ypI=> .inr v:=fun R κ again v=>by kernel_rfl
theorem yAB:LF yjV yjW 177 3 Tryz.f177 0 y6T @ygY fun t=>t:=(LC.sum ymh ymi)
theorem yAC:LK yjV yjW 177 Tryz.f177 0:=lkN (u:=yay) ymg yAB
theorem yGg:EV yjV yjW 177 Tryz.f177 yx9 kI kI jr:=fun x=>by kernel_rfl
def yGh:QF:=⟨177,jr,okN (n:=1) Tryz.func177 ⟨yAC,trivial⟩ yGg⟩
def YH (x:List y6):Option (List y6):=nz (zgd ([]:List y6) x 24 (zso (([]:List y6)++x)))
theorem yGi:EV [] lpN 178 Tryz.f178 yxa [(.sl 85 yc)] [(.sl 85 yc)] YH:=fun x=>by kernel_rfl
def yGj:QF:=⟨178,YH,okN (n:=0) Tryz.func178 trivial yGi⟩
def yo (x:y7P):Option y7P:=nz (zbd (jr (x.1,x.b)) fun r=>zgd ([]:List y7) x.c 16 (zbd (YH x.d) fun s=>zgd ([]:List yf) x.e 40 (zso (r.1,r.2,([]:List y7)++x.c,s,([]:List yf)++x.e,x.F))))
theorem yNk:EV [yGh,yGj] lpN 86 Tryz.f86 yLd Z0 Z0 yo:=fun x=>by kernel_rfl
def q86:QF:=⟨86,yo,okN (n:=0) Tryz.func86 trivial yNk⟩
def jS (x:ytY):Option Int:=nz (zbd (yV (x.1,x.b,x.c,x.d,x.e,x.f)) fun r=>zom (!r) (zbd (zS x.G) fun s=>zso (!s)) fun t=>zif t (zso 1) (zso 0))
theorem yGk:EV [q85,yqc] lpN 179 Tryz.f179 yxb ytZ [(.int .i64)] jS:=fun x=>by kernel_rfl
def yGl:QF:=⟨179,jS,okN (n:=0) Tryz.func179 trivial yGk⟩
abbrev y0o:Type:=yKi
def kg (k0:Int→Option R) (k1:Unit→Option R) (a:y0o→Option R) (x:y0o):Option R:=nz (zlt x.b x.g.z (zix x.g x.b (zif (((yd x.g x.b).1).toList==x.1.toList) (k0 x.b) (a (x.1,zin x.b,zF6 x.C)))) (k1 ()))
def y3J k0 k1:=zI (@kg R k0 k1) zY
def zJ (x:ytY):Option Int:=nz (y3J (fun r=>zso r) (fun s=>zso (-1)) (x.G,0,x.1,x.b,x.c,x.d,x.e,x.f))
def yqL:List QF:=[]
def yaz (t:yKi):St:=⟨.dead::vS t.1:: .box 2 0::dd 2 (vI t.2.1::dd 16 []),[(2,.box [z6 t.2.2.1,yA t.2.2.2.1,zl t.2.2.2.2.1,yU t.2.2.2.2.2.1,Y6 t.2.2.2.2.2.2.1,vI t.2.2.2.2.2.2.2])]⟩
def yo1:Gk y0o:=fun κ=>kg (fun t=>κ none ⟨dd 4 (vI t::dd 17 []),[]⟩) (fun t=>κ (some 0) ⟨dd 22 [],[]⟩)
def yqM:Lp:=lpC 2 (unG yKj yaz) @yo1 lpN
theorem yAD:LF yqL yqM 180 2 Tryz.f180 0 yaz @yo1 fun t=>t:=fun R κ again t=>by kernel_rfl
theorem yAE:LK yqL yqM 180 Tryz.f180 0:=lkN (u:=(unG yKj yaz)) (yn fun t=>by kernel_rfl) yAD
theorem yGm:EV yqL yqM 180 Tryz.f180 yxc ytZ [(.int .i64)] zJ:=fun x=>by kernel_rfl
def yo2:QF:=⟨180,zJ,okN (n:=1) Tryz.func180 ⟨yAE,trivial⟩ yGm⟩
abbrev wW:Type:=yKk
def J3 (k0:yMN→Option R) (a:wW→Option R) (x:wW):Option R:=nz (zlt x.e x.1.z (zam (!x.d) (zix x.1 x.e (zso (decide ((yD x.1 x.e).1>x.b)))) fun r=>zif r (zgd x.F ([(x.b,x.c)]:List y7) 16 (zix x.1 x.e (zgd (x.F++([(x.b,x.c)]:List y7)) ([((yD x.1 x.e).1,(yD x.1 x.e).2)]:List y7) 16 (a (zT3 x (true,zin x.e,x.F++([(x.b,x.c)]:List y7)++([((yD x.1 x.e).1,(yD x.1 x.e).2)]:List y7))))))) (zix x.1 x.e (zgd x.F ([((yD x.1 x.e).1,(yD x.1 x.e).2)]:List y7) 16 (a (zT4 x (zin x.e,x.F++([((yD x.1 x.e).1,(yD x.1 x.e).2)]:List y7))))))) (k0 (zT4 x x.F)))
def Qm k0:=zI (@J3 R k0) zY
def Y7 (x:yDF):Option ytQ:=nz (zbd (zZ (x.1,x.b)) fun r=>Qm (fun s=>zif (!s.d) (zgd s.E ([(s.b,s.c)]:List y7) 16 (zbd (zZ (s.1,s.b)) fun t=>zom (decide (t≥0)) (zbd (ZD (s.E++([(s.b,s.c)]:List y7))) fun u=>zso (!u)) fun v=>zif v (zgd ([]:List y7) s.1 16 (zso (([]:List y7)++s.1,false))) (zso (s.E++([(s.b,s.c)]:List y7),true)))) (zbd (zZ (s.1,s.b)) fun w=>zom (decide (w≥0)) (zbd (ZD s.E) fun p=>zso (!p)) fun q=>zif q (zgd ([]:List y7) s.1 16 (zso (([]:List y7)++s.1,false))) (zso (s.E,true)))) (zG3 x (decide (r≥0),0,([]:List y7))))
def yqN:List QF:=[yG2,yu2]
def yaA (t:yKk):St:=⟨zl t.1::vI t.2.1::vI t.2.2.1::dd 5 (.own 10000000::vB t.2.2.2.1::vI t.2.2.2.2.1::dd 56 []),[(10000000,.root true 79 yh t.2.2.2.2.2)]⟩
def yo3:Gk wW:=fun κ=>J3 (fun t=>κ (some 0) ⟨zl t.1::vI t.2.1::vI t.2.2.1::dd 5 (.own 10000000::vB t.2.2.2.1::dd 57 []),[(10000000,.root true 79 yh t.2.2.2.2)]⟩)
def yqO:Lp:=lpC 4 (unG yKl yaA) @yo3 lpN
theorem yAF:LF yqN yqO 181 4 Tryz.f181 0 yaA @yo3 fun t=>t:=fun R κ again t=>by kernel_rfl
theorem yAG:LK yqN yqO 181 Tryz.f181 0:=lkN (u:=(unG yKl yaA)) (yn fun t=>by kernel_rfl) yAF
theorem yGn:EV yqN yqO 181 Tryz.f181 yxd yDG yDH Y7:=fun x=>by kernel_rfl
def yGo:QF:=⟨181,Y7,okN (n:=1) Tryz.func181 ⟨yAG,trivial⟩ yGn⟩
abbrev jt:Type:=yEk
def Zp (k0:yEk→Option R) (a:jt→Option R) (x:jt):Option R:=nz (zam (decide (x.1>0)) (zix x.F (zde x.1) (zso (!(Go.Op.bytesLess (((yd x.F (zde x.1)).1).toList) x.b.toList||((yd x.F (zde x.1)).1).toList==x.b.toList)))) fun r=>zif r (zix x.F (zde x.1) (zix x.F x.1 (a (zde x.1,zT4 x.2 (zup x.F x.1 (zF4 (yd x.F (zde x.1)))))))) (k0 x))
def Kp k0:=zI (@Zp R k0) zY
def YT (x:yDK):Option (List yf):=nz (zgd ([]:List yf) x.1 40 (zgd (([]:List yf)++x.1) ([x.2]:List yf) 40 (Kp (fun r=>zix r.F r.1 (zso (zup r.F r.1 (r.b,r.c,r.d,r.e)))) (zde ((List.length (([]:List yf)++x.1++([x.2]:List yf)):Nat):Int),zG4 x.2 (([]:List yf)++x.1++([x.2]:List yf))))))
def yqP:List QF:=[]
def yaB (t:yEk):St:=⟨dd 3 (.box 3 0:: .dead:: .own 10000000::vI t.1::dd 37 []),[(3,.box [vS t.2.1,vI t.2.2.1,vI t.2.2.2.1,vB t.2.2.2.2.1]),(10000000,.root true 81 yt t.2.2.2.2.2)]⟩
def yo4:Gk jt:=fun κ=>Zp (fun t=>κ (some 0) ⟨dd 3 (.box 3 0:: .dead:: .own 10000000::vI t.1::dd 37 []),[(3,.box [vS t.2.1,vI t.2.2.1,vI t.2.2.2.1,vB t.2.2.2.2.1]),(10000000,.root true 81 yt t.2.2.2.2.2)]⟩)
def yqQ:Lp:=lpC 3 (unG yKm yaB) @yo4 lpN
theorem yAH:LF yqP yqQ 182 3 Tryz.f182 0 yaB @yo4 fun t=>t:=fun R κ again t=>by kernel_rfl
theorem yAI:LK yqP yqQ 182 Tryz.f182 0:=lkN (u:=(unG yKm yaB)) (yn fun t=>by kernel_rfl) yAH
theorem yGp:EV yqP yqQ 182 Tryz.f182 yxe yDL [(.sl 81 yt)] YT:=fun x=>by kernel_rfl
def yM4:QF:=⟨182,YT,okN (n:=1) Tryz.func182 ⟨yAI,trivial⟩ yGp⟩
def yS (x:yKn):Option y6o:=nz (zom (!x.M) (zbd (yV (x.g,x.h,x.i,x.j,x.k,x.l)) fun r=>zso (!r)) fun s=>zif s (zbd (yo (x.1,x.b,x.c,x.d,x.e,x.f)) fun t=>zso (zG6 t 6)) (zso (zT6 x.G 0)))
theorem yGq:EV [q85,q86] lpN 183 Tryz.f183 yxf yKo y6p yS:=fun x=>by kernel_rfl
def yu3:QF:=⟨183,yS,okN (n:=0) Tryz.func183 trivial yGq⟩
def ju (x:ypJ):Option y6o:=nz (zbd (jS (x.1,x.b,x.c,x.d,x.e,x.f,x.g)) fun r=>zne r 0 (zbd (yo (x.1,x.b,x.c,x.d,x.e,x.f)) fun s=>zso (zG6 s r)) (zbd (zJ (x.1,x.b,x.c,x.d,x.e,x.f,x.g)) fun t=>zge t 0 (zbd (yo (x.1,x.b,x.c,x.d,x.e,x.f)) fun u=>zso (zG6 u 3)) (zbd (yE (x.H,1,12)) fun v=>zif (!v) (zbd (yo (x.1,x.b,x.c,x.d,x.e,x.f)) fun w=>zso (zG6 w 4)) (zbd (yo (x.1,x.b,x.c,x.d,x.e,x.f)) fun p=>zbd (Y7 (x.c,x.f,0)) fun q=>zbd (YT (x.e,x.g,x.f,x.H,false)) fun m=>zbd (yS (zT6 x (p.1,p.b,q.1,p.d,m,zin x.f,q.2))) fun n=>zso n))))
theorem yNl:EV [q67,q86,yGl,yo2,yGo,yM4,yu3] lpN 87 Tryz.f87 yLe ypK y6p ju:=fun x=>by kernel_rfl
def q87:QF:=⟨87,ju,okN (n:=0) Tryz.func87 trivial yNl⟩
def wX (x:yKp):Option y6o:=nz (zbd (jS (x.1,x.b,x.c,x.d,x.e,x.f,x.g)) fun r=>zom (r !=0) (zbd (zS x.h) fun s=>zso (!s)) fun t=>zif t (zbd (yo (x.1,x.b,x.c,x.d,x.e,x.f)) fun u=>zso (zG6 u 1)) (zbd (zJ (x.1,x.b,x.c,x.d,x.e,x.f,x.g)) fun v=>zlt v 0 (zbd (yo (x.1,x.b,x.c,x.d,x.e,x.f)) fun w=>zso (zG6 w 2)) (zbd (zJ (zT6 x x.h)) fun p=>zge p 0 (zbd (yo (x.1,x.b,x.c,x.d,x.e,x.f)) fun q=>zso (zG6 q 3)) (zbd (yo (x.1,x.b,x.c,x.d,x.e,x.f)) fun m=>zbd (zJ (x.1,x.b,x.c,x.d,x.e,x.f,x.g)) fun n=>zix x.e n (zbd (Y7 (x.c,x.f,(yd x.e n).b)) fun o=>zix x.e n (zbd (Y7 (o.1,zin x.f,(yd x.e n).b)) fun e=>zix m.e n (zix x.e n (zbd (YT (zup m.e n ((yd m.e n).1,x.f,(yd m.e n).C),x.h,zin x.f,(yd x.e n).c,x.I)) fun f=>zan o.2 e.2 fun g=>zbd (yS (zT6 x (m.1,m.b,e.1,m.d,f,zad x.f 2,g))) fun h=>zso h))))))))
theorem yNm:EV [q86,yqc,yGl,yo2,yGo,yM4,yu3] lpN 88 Tryz.f88 yLf yKq y6p wX:=fun x=>by kernel_rfl
def q88:QF:=⟨88,wX,okN (n:=0) Tryz.func88 trivial yNm⟩
def WC (x:ytY):Option Int:=nz (zbd (jS x) fun r=>zam (r==0) (zbd (zJ x) fun s=>zso (decide (s<0))) fun t=>zif t (zso 2) (zso r))
theorem yGr:EV [yGl,yo2] lpN 184 Tryz.f184 yxg ytZ [(.int .i64)] WC:=fun x=>by kernel_rfl
def yM5:QF:=⟨184,WC,okN (n:=0) Tryz.func184 trivial yGr⟩
def wY (x:ytY):Option y6o:=nz (zbd (yo (x.1,x.b,x.c,x.d,x.e,x.f)) fun r=>zbd (WC x) fun s=>zne s 0 (zso (zG6 r s)) (zbd (zJ x) fun t=>zsl 0 t x.e.z (zgd ([]:List yf) (zcu x.e 0 t) 40 (zsl (zin t) x.e.z x.e.z (zgd (([]:List yf)++zcu x.e 0 t) (zcu x.e (zin t) x.e.z) 40 (zbd (yS (zT6 x (zT4 r (([]:List yf)++zcu x.e 0 t++zcu x.e (zin t) x.e.z,r.F,true)))) fun u=>zso u))))))
theorem yNn:EV [q86,yo2,yu3,yM5] lpN 89 Tryz.f89 yLg ytZ y6p wY:=fun x=>by kernel_rfl
def q89:QF:=⟨89,wY,okN (n:=0) Tryz.func89 trivial yNn⟩
def ZS (x:ypJ):Option Int:=nz (zbd (WC (x.1,x.b,x.c,x.d,x.e,x.f,x.g)) fun r=>zne r 0 (zso r) (zbd (zJ (x.1,x.b,x.c,x.d,x.e,x.f,x.g)) fun s=>zix x.e s (zif ((yd x.e s).D) (zso 5) (zbd (zJ (x.1,x.b,x.c,x.d,x.e,x.f,x.g)) fun t=>zix x.e t (zbd (yE (x.H,0,zde ((yd x.e t).c))) fun u=>zif (!u) (zso 4) (zso 0))))))
theorem yGs:EV [q67,yo2,yM5] lpN 185 Tryz.f185 yxh ypK [(.int .i64)] ZS:=fun x=>by kernel_rfl
def yGt:QF:=⟨185,ZS,okN (n:=0) Tryz.func185 trivial yGs⟩
abbrev WD:Type:=yKr
def Y8 (k0:yMO→Option R) (k1:List y6→Option R) (a:WD→Option R) (x:WD):Option R:=nz (zam (decide (x.c<x.1.z)) (zbd (jR x.1) fun r=>zso r) fun s=>zam s (zbd (zC x.b) fun t=>zso t) fun u=>zif u (zix x.1 x.c (zif (!((ym x.1 x.c).b)) (zix x.D x.c (if 0≤x.c then if x.c<((List.length (zup x.D x.c ((ym x.D x.c).1,true,(ym x.D x.c).C)):Nat):Int) then k0 (x.c,true,zup (zup x.D x.c ((ym x.D x.c).1,true,(ym x.D x.c).C)) x.c ((ym (zup x.D x.c ((ym x.D x.c).1,true,(ym x.D x.c).C)) x.c).1,(ym (zup x.D x.c ((ym x.D x.c).1,true,(ym x.D x.c).C)) x.c).b,x.b)) else none else none)) (a (x.1,x.b,zin x.c,x.D)))) (k1 x.D))
def V5 k0 k1:=zI (@Y8 R k0 k1) zY
def Yl (x:ytR):Option yKt:=nz (zbd (YH x.1) fun r=>V5 (fun s=>zso (s.C,s.1,s.b)) (fun t=>zso (t,0,false)) (x.1,x.2,0,r))
def yqR:List QF:=[yzT,yG4,yGj]
def yaC (t:yKr):St:=⟨yU t.1::vI t.2.1::dd 5 (.own 10000000::vI t.2.2.1::dd 34 []),[(10000000,.root true 85 yc t.2.2.2)]⟩
def yo5:Gk WD:=fun κ=>Y8 (fun t=>κ none ⟨dd 4 (.own 10000000::vI t.1::vB t.2.1:: .own 10000000::dd 35 []),[(10000000,.root true 85 yc t.2.2)]⟩) (fun t=>κ (some 0) ⟨dd 7 (.own 10000000::dd 35 []),[(10000000,.root true 85 yc t)]⟩)
def yqS:Lp:=lpC 3 (unG yKs yaC) @yo5 lpN
theorem yAJ:LF yqR yqS 186 3 Tryz.f186 0 yaC @yo5 fun t=>t:=fun R κ again t=>by kernel_rfl
theorem yAK:LK yqR yqS 186 Tryz.f186 0:=lkN (u:=(unG yKs yaC)) (yn fun t=>by kernel_rfl) yAJ
theorem yGu:EV yqR yqS 186 Tryz.f186 yxi ytS yKu Yl:=fun x=>by kernel_rfl
def yGv:QF:=⟨186,Yl,okN (n:=1) Tryz.func186 ⟨yAK,trivial⟩ yGu⟩
abbrev kJ:Type:=yKv
def kK (k0:Int→Option R) (a:kJ→Option R) (x:kJ):Option R:=nz (zlt x.d x.e.z (zix x.e x.d (zbd (Wz (x.1,x.b)) fun r=>zle (zB x.e x.d) r (a (x.1,x.b,x.d,zin x.d,x.e,x.F)) (a (zT3 x (zin x.d,x.e,x.F))))) (k0 x.c))
def y1N k0:=zI (@kK R k0) zY
def wv (x:yDM):Option Int:=nz (y1N (fun r=>zso r) (x.c,x.D,-1,0,x.1,x.b))
def yqT:List QF:=[yM0]
def yaD (t:yKv):St:=⟨.dead::vI t.1::vI t.2.1:: .box 3 0::dd 3 (vI t.2.2.1::vI t.2.2.2.1::dd 18 []),[(3,.box [z6 t.2.2.2.2.1,yA t.2.2.2.2.2])]⟩
def yo6:Gk kJ:=fun κ=>kK (fun t=>κ (some 0) ⟨dd 7 (vI t::dd 19 []),[]⟩)
def yqU:Lp:=lpC 3 (unG yKw yaD) @yo6 lpN
theorem yAL:LF yqT yqU 301 3 Tryz.f301 0 yaD @yo6 fun t=>t:=fun R κ again t=>by kernel_rfl
theorem yAM:LK yqT yqU 301 Tryz.f301 0:=lkN (u:=(unG yKw yaD)) (yn fun t=>by kernel_rfl) yAL
theorem yGw:EV yqT yqU 301 Tryz.f301 yxj yDN [(.int .i64)] wv:=fun x=>by kernel_rfl
def yM6:QF:=⟨301,wv,okN (n:=1) Tryz.func301 ⟨yAM,trivial⟩ yGw⟩
abbrev y0p:Type:=yKx
def kh (k0:yDO→Option R) (k1:Qz9→Option R) (a:y0p→Option R) (x:y0p):Option R:=nz (zlt x.d x.1.z (zix x.1 x.d (zam ((yi x.1 x.d).1==x.b) (zix x.1 x.d (zso ((yi x.1 x.d).b==x.c))) fun r=>zif r (zix x.1 x.d (k0 (true,zF5 (yi x.1 x.d)))) (a (zT3 x (zin x.d,zF5 x.E))))) (k1 x.E))
def y3K k0 k1:=zI (@kh R k0 k1) zY
def K2 (x:yKz):Option yir:=nz (y3K (fun r=>zso (zG5 r.2 r.1)) (fun s=>zso (0,0,0,0,0,false)) (zG3 x (0,0,0,0,0,0)))
def yqV:List QF:=[]
def yaE (t:yKx):St:=⟨y0M t.1::vI t.2.1::vI t.2.2.1::dd 3 (.box 6 0:: .dead::vI t.2.2.2.1::dd 27 []),[(6,.box [vI t.2.2.2.2.1,vI t.2.2.2.2.2.1,vI t.2.2.2.2.2.2.1,vI t.2.2.2.2.2.2.2.1,vI t.2.2.2.2.2.2.2.2])]⟩
def yo7:Gk y0p:=fun κ=>kh (fun t=>κ none ⟨dd 6 (.box 6 0::vB t.1::dd 28 []),[(6,.box [vI t.2.1,vI t.2.2.1,vI t.2.2.2.1,vI t.2.2.2.2.1,vI t.2.2.2.2.2])]⟩) (fun t=>κ (some 0) ⟨dd 6 (.box 6 0::dd 29 []),[(6,.box [vI t.1,vI t.2.1,vI t.2.2.1,vI t.2.2.2.1,vI t.2.2.2.2])]⟩)
def yqW:Lp:=lpC 2 (unG yKy yaE) @yo7 lpN
theorem yAN:LF yqV yqW 335 2 Tryz.f335 0 yaE @yo7 fun t=>t:=fun R κ again t=>by kernel_rfl
theorem yAO:LK yqV yqW 335 Tryz.f335 0:=lkN (u:=(unG yKy yaE)) (yn fun t=>by kernel_rfl) yAN
theorem yGx:EV yqV yqW 335 Tryz.f335 yxk yKA yis K2:=fun x=>by kernel_rfl
def yM7:QF:=⟨335,K2,okN (n:=1) Tryz.func335 ⟨yAO,trivial⟩ yGx⟩
abbrev Kq:Type:=yDP
def Kr (k0:yDO→Option R) (k1:Qz9→Option R) (a:Kq→Option R) (x:Kq):Option R:=nz (zge x.c 0 (zix x.d x.c (zbd (K2 (yu x.d x.c,x.1,x.b)) fun r=>zan r.F (r.c==0) fun s=>zif s (k0 (false,0,0,0,0,0)) (zif r.F (k0 (true,r.1,r.b,r.c,r.d,r.e)) (a (x.1,x.b,zde x.c,zF6 x.D))))) (k1 x.E))
def y2p k0 k1:=zI (@Kr R k0 k1) zY
def Kt (x:ypL):Option yir:=nz (y2p (fun r=>zso (zG5 r.2 r.1)) (fun s=>zso (0,0,0,0,0,false)) (x.b,x.C,zde x.1.z,x.1,0,0,0,0,0))
def yqX:List QF:=[yM7]
def yaF (t:yDP):St:=⟨.dead::vI t.1::vI t.2.1:: .box 3 0::dd 2 (.box 6 0:: .dead::vI t.2.2.1::dd 31 []),[(3,.box [Zh t.2.2.2.1]),(6,.box [vI t.2.2.2.2.1,vI t.2.2.2.2.2.1,vI t.2.2.2.2.2.2.1,vI t.2.2.2.2.2.2.2.1,vI t.2.2.2.2.2.2.2.2])]⟩
def yo8:Gk Kq:=fun κ=>Kr (fun t=>κ none ⟨dd 6 (.box 6 0::vB t.1::dd 32 []),[(6,.box [vI t.2.1,vI t.2.2.1,vI t.2.2.2.1,vI t.2.2.2.2.1,vI t.2.2.2.2.2])]⟩) (fun t=>κ (some 0) ⟨dd 6 (.box 6 0::dd 33 []),[(6,.box [vI t.1,vI t.2.1,vI t.2.2.1,vI t.2.2.2.1,vI t.2.2.2.2])]⟩)
def yqY:Lp:=lpC 2 (unG yDQ yaF) @yo8 lpN
theorem yAP:LF yqX yqY 302 2 Tryz.f302 0 yaF @yo8 fun t=>t:=fun R κ again t=>by kernel_rfl
theorem yAQ:LK yqX yqY 302 Tryz.f302 0:=lkN (u:=(unG yDQ yaF)) (yn fun t=>by kernel_rfl) yAP
theorem yGy:EV yqX yqY 302 Tryz.f302 yxl yDR yis Kt:=fun x=>by kernel_rfl
def yNo:QF:=⟨302,Kt,okN (n:=1) Tryz.func302 ⟨yAQ,trivial⟩ yGy⟩
def JG (x:yDM):Option yir:=nz (zbd (wv x) fun r=>zbd (yE (r,0,zde x.b.z)) fun s=>zif (!s) (zso (0,0,0,0,0,false)) (zix x.b r (zbd (Kt (yk x.b r,x.c,x.D)) fun t=>zso t)))
theorem yGz:EV [q67,yM6,yNo] lpN 252 Tryz.f252 yxm yDN yis JG:=fun x=>by kernel_rfl
def yGA:QF:=⟨252,JG,okN (n:=0) Tryz.func252 trivial yGz⟩
def za (x:List y8):Option (List ya):=nz (zeq x.z 0 (zso ([]:List ya)) (zgd ([]:List y8) x 40 (zso ([([]:List y8)++x]:List ya))))
theorem yGB:EV [] lpN 308 Tryz.f308 yxn [(.sl 91 yl)] [(.sl 89 yq)] za:=fun x=>by kernel_rfl
def yDV:QF:=⟨308,za,okN (n:=0) Tryz.func308 trivial yGB⟩
def ZJ (x:yEl):Option yKB:=nz (zbd (zD x.1) fun r=>zge (zde r.z) 0 (zix r (zde r.z) (zbd (K2 (yu r (zde r.z),x.b,x.c)) fun s=>zam (decide (zde r.z≥0)) (zix r (zde r.z) (zor (decide (((List.length (yu r (zde r.z)):Nat):Int)<4)) s.F fun t=>zso t)) fun u=>zif u (zix r (zde r.z) (zbd (zT (yu r (zde r.z),zF5 x.2)) fun v=>zix r (zde r.z) (zbd (zL (zup r (zde r.z) v)) fun w=>zif w (zso (zup r (zde r.z) v,true)) (zbd (yI x.1) fun p=>zbd (zT (p,x.2)) fun q=>zbd (YG q) fun m=>zgt m.z 8 (zbd (zD x.1) fun n=>zso (n,false)) (zbd (za m) fun o=>zbd (zL o) fun e=>zif (!e) (zbd (zD x.1) fun f=>zso (f,false)) (zbd (za m) fun g=>zso (g,true))))))) (zgd r ([([x.2]:List y8)]:List ya) 24 (zbd (zL (r++([([x.2]:List y8)]:List ya))) fun h=>zif h (zso (r++([([x.2]:List y8)]:List ya),true)) (zbd (yI x.1) fun i=>zbd (zT (i,x.2)) fun j=>zbd (YG j) fun l=>zgt l.z 8 (zbd (zD x.1) fun y=>zso (y,false)) (zbd (za l) fun z=>zbd (zL z) fun b=>zif (!b) (zbd (zD x.1) fun c=>zso (c,false)) (zbd (za l) fun d=>zso (d,true)))))))) (zam (decide (zde r.z≥0)) (zix r (zde r.z) (zan (decide (((List.length (yu r (zde r.z)):Nat):Int)<4)) true fun R=>zso R)) fun A=>zif A (zix r (zde r.z) (zbd (zT (yu r (zde r.z),zF5 x.2)) fun B=>zix r (zde r.z) (zbd (zL (zup r (zde r.z) B)) fun C=>zif C (zso (zup r (zde r.z) B,true)) (zbd (yI x.1) fun D=>zbd (zT (D,x.2)) fun E=>zbd (YG E) fun G=>zgt G.z 8 (zbd (zD x.1) fun H=>zso (H,false)) (zbd (za G) fun I=>zbd (zL I) fun J=>zif (!J) (zbd (zD x.1) fun K=>zso (K,false)) (zbd (za G) fun L=>zso (L,true))))))) (zgd r ([([x.2]:List y8)]:List ya) 24 (zbd (zL (r++([([x.2]:List y8)]:List ya))) fun M=>zif M (zso (r++([([x.2]:List y8)]:List ya),true)) (zbd (yI x.1) fun N=>zbd (zT (N,x.2)) fun O=>zbd (YG O) fun P=>zgt P.z 8 (zbd (zD x.1) fun Q=>zso (Q,false)) (zbd (za P) fun T=>zbd (zL T) fun U=>zif (!U) (zbd (zD x.1) fun V=>zso (V,false)) (zbd (za P) fun W=>zso (W,true))))))))
theorem yGC:EV [yM3,yLZ,yqt,yFQ,yDU,yDV,yM7] lpN 304 Tryz.f304 yxo yEm yKC ZJ:=fun x=>by kernel_rfl
def yM8:QF:=⟨304,ZJ,okN (n:=0) Tryz.func304 trivial yGC⟩
def wZ (x:yMP):Option y6M:=nz (zsl 0 x.c x.1.z (zgd ([]:List y9) (zcu x.1 0 x.c) 8 (zgd (([]:List y9)++zcu x.1 0 x.c) x.d 8 (zsl (zin x.c) x.1.z x.1.z (zgd (([]:List y9)++zcu x.1 0 x.c++x.d) (zcu x.1 (zin x.c) x.1.z) 8 (zsl 0 x.c x.b.z (zgd ([]:List y0) (zcu x.b 0 x.c) 24 (zgd (([]:List y0)++zcu x.b 0 x.c) x.E 24 (zsl (zin x.c) x.b.z x.b.z (zgd (([]:List y0)++zcu x.b 0 x.c++x.E) (zcu x.b (zin x.c) x.b.z) 24 (zso (([]:List y9)++zcu x.1 0 x.c++x.d++zcu x.1 (zin x.c) x.1.z,([]:List y0)++zcu x.b 0 x.c++x.E++zcu x.b (zin x.c) x.b.z))))))))))))
theorem yGD:EV [] lpN 305 Tryz.f305 yxp yMQ kI wZ:=fun x=>by kernel_rfl
def yNp:QF:=⟨305,wZ,okN (n:=0) Tryz.func305 trivial yGD⟩
abbrev Qn:Type:=yeU
def Ku (k0:Int→Option R) (k1:Unit→Option R) (a:Qn→Option R) (x:Qn):Option R:=nz (zlt (zin x.1) x.C.z (zix x.C x.1 (zbd (yI (yk x.C x.1)) fun r=>zix x.C (zin x.1) (zbd (yI (yk x.C (zin x.1))) fun s=>zle (zad r.z s.z) 6 (k0 x.1) (a (zin x.1,x.b,x.C))))) (k1 ()))
def y2q k0 k1:=zI (@Ku R k0 k1) zY
def WE (x:y6M):Option Int:=nz (y2q (fun r=>zso r) (fun s=>zso (-1)) (0,x.1,x.2))
def yqZ:List QF:=[yqt]
def yaG (t:yeU):St:=⟨.dead:: .box 1 0:: .dead::vI t.1::dd 26 [],[(1,.box [z6 t.2.1,yA t.2.2])]⟩
def yo9:Gk Qn:=fun κ=>Ku (fun t=>κ none ⟨dd 2 (vI t::dd 27 []),[]⟩) (fun t=>κ (some 0) ⟨dd 30 [],[]⟩)
def yr0:Lp:=lpC 2 (unG yl0 yaG) @yo9 lpN
theorem yAR:LF yqZ yr0 338 2 Tryz.f338 0 yaG @yo9 fun t=>t:=fun R κ again t=>by kernel_rfl
theorem yAS:LK yqZ yr0 338 Tryz.f338 0:=lkN (u:=(unG yl0 yaG)) (yn fun t=>by kernel_rfl) yAR
theorem yGE:EV yqZ yr0 338 Tryz.f338 yxq kI [(.int .i64)] WE:=fun x=>by kernel_rfl
def yNq:QF:=⟨338,WE,okN (n:=1) Tryz.func338 ⟨yAS,trivial⟩ yGE⟩
abbrev Qo:Type:=yeU
def Kv (k0:y6M→Option R) (a:Qo→Option R) (x:Qo):Option R:=nz (zge x.1 0 (zix x.C x.1 (zbd (yI (yk x.C x.1)) fun r=>zix x.C (zin x.1) (zbd (yI (yk x.C (zin x.1))) fun s=>zgd r s 40 (zsl 0 (zin x.1) x.b.z (zgd ([]:List y9) (zcu x.b 0 (zin x.1)) 8 (zsl (zad x.1 2) x.b.z x.b.z (zgd (([]:List y9)++zcu x.b 0 (zin x.1)) (zcu x.b (zad x.1 2) x.b.z) 8 (zsl 0 x.1 x.C.z (zgd ([]:List y0) (zcu x.C 0 x.1) 24 (zbd (za (r++s)) fun t=>zgd (([]:List y0)++zcu x.C 0 x.1) ([t]:List y0) 24 (zsl (zad x.1 2) x.C.z x.C.z (zgd (([]:List y0)++zcu x.C 0 x.1++([t]:List y0)) (zcu x.C (zad x.1 2) x.C.z) 24 (zbd (WE (([]:List y9)++zcu x.b 0 (zin x.1)++zcu x.b (zad x.1 2) x.b.z,([]:List y0)++zcu x.C 0 x.1++([t]:List y0)++zcu x.C (zad x.1 2) x.C.z)) fun u=>a (u,([]:List y9)++zcu x.b 0 (zin x.1)++zcu x.b (zad x.1 2) x.b.z,([]:List y0)++zcu x.C 0 x.1++([t]:List y0)++zcu x.C (zad x.1 2) x.C.z)))))))))))))) (k0 x.2))
def y2r k0:=zI (@Kv R k0) zY
def jv (x:y6M):Option y6M:=nz (zbd (WE x) fun r=>y2r (fun s=>zso s) (r,x))
def yr1:List QF:=[yqt,yDV,yNq]
def yaH (t:yeU):St:=⟨.dead:: .box 1 0:: .box 2 0::vI t.1::dd 56 [],[(1,.box [.own 10000000,.own 10000001]),(2,.box [.nils,.nils]),(10000000,.root true 3 yg t.2.1),(10000001,.root true 88 yj t.2.2)]⟩
def yoa:Gk Qo:=fun κ=>Kv (fun t=>κ (some 0) ⟨.dead:: .box 1 0:: .box 2 0::dd 57 [],[(1,.box [.own 10000000,.own 10000001]),(2,.box [.nils,.nils]),(10000000,.root true 3 yg t.1),(10000001,.root true 88 yj t.2)]⟩)
def yr2:Lp:=lpC 2 (unG yl0 yaH) @yoa lpN
theorem yAT:LF yr1 yr2 309 2 Tryz.f309 0 yaH @yoa fun t=>t:=fun R κ again t=>by kernel_rfl
theorem yAU:LK yr1 yr2 309 Tryz.f309 0:=lkN (u:=(unG yl0 yaH)) (yn fun t=>by kernel_rfl) yAT
theorem yGF:EV yr1 yr2 309 Tryz.f309 yxr kI kI jv:=fun x=>by kernel_rfl
def yNr:QF:=⟨309,jv,okN (n:=1) Tryz.func309 ⟨yAU,trivial⟩ yGF⟩
def Ym (x:yKD):Option yKF:=nz (zbd (jr (x.1,x.b)) fun r=>zbd (Zc (x.1,x.b)) fun s=>zom (!s) (zbd (K1 x.C) fun t=>zso (!t)) fun u=>zif u (zso (r.1,r.2,false)) (zbd (wv (x.1,x.b,x.c,x.d)) fun v=>zix x.b v (zbd (ZJ (yk x.b v,zF5 x.C)) fun w=>zix x.1 v (zbd (wZ (r.1,r.2,v,([zB x.1 v]:List y9),([w.1]:List y0))) fun p=>zif (!w.2) (zix x.b v (zbd (yI (yk x.b v)) fun q=>zbd (zT (q,x.C)) fun m=>zbd (YG m) fun n=>zix x.1 v (zix n (zwr (Int.tdiv (zin n.z) 2)) (zbd (WA (zF5 (yi n (zwr (Int.tdiv (zin n.z) 2))))) fun o=>zsl 0 (zwr (Int.tdiv (zin n.z) 2)) n.z (zbd (za (zcu n 0 (zwr (Int.tdiv (zin n.z) 2)))) fun e=>zsl (zwr (Int.tdiv (zin n.z) 2)) n.z n.z (zbd (za (zcu n (zwr (Int.tdiv (zin n.z) 2)) n.z)) fun f=>zbd (wZ (r.1,r.2,v,([zB x.1 v,o]:List y9),([e,f]:List y0))) fun g=>zbd (jv g) fun h=>zbd (Zc h) fun i=>zif (!i) (zso (r.1,r.2,false)) (zso (h.1,h.2,true)))))))) (zam (decide (v>0)) (zbd (yI w.1) fun j=>zso (j.z==0)) fun l=>zif l (zbd (wZ (r.1,r.2,v,([]:List y9),([]:List y0))) fun y=>zbd (jv y) fun z=>zbd (Zc z) fun b=>zif (!b) (zso (r.1,r.2,false)) (zso (z.1,z.2,true))) (zbd (jv p) fun c=>zbd (Zc c) fun d=>zif (!d) (zso (r.1,r.2,false)) (zso (c.1,c.2,true))))))))
theorem yGG:EV [yM2,yGh,yqt,yM1,yM6,yLX,yM8,yNp,yFQ,yDU,yDV,yNr] lpN 253 Tryz.f253 yxs yKE yKG Ym:=fun x=>by kernel_rfl
def yDW:QF:=⟨253,Ym,okN (n:=0) Tryz.func253 trivial yGG⟩
def ZT (x:ytR):Option (List y6):=nz (zbd (YH x.1) fun r=>zbd (jR x.1) fun s=>zam s (zbd (yE (x.2,0,zde x.1.z)) fun t=>zso t) fun u=>zam u (zix x.1 x.2 (zso ((ym x.1 x.2).b))) fun v=>zif v (zix x.1 x.2 (zix r x.2 (zso (zup r x.2 (Int.tmod (zin ((ym x.1 x.2).1)) 1000,false,0))))) (zso r))
theorem yGH:EV [q67,yG4,yGj] lpN 262 Tryz.f262 yxt ytS [(.sl 85 yc)] ZT:=fun x=>by kernel_rfl
def yGI:QF:=⟨262,ZT,okN (n:=0) Tryz.func262 trivial yGH⟩
def ww (x:yMR):Option y7P:=nz (zan x.L (x.i==1) fun r=>zif r (zbd (ZT (x.d,x.j)) fun s=>zso (zT3 x (s,x.e,x.f))) (zso (x.1,x.b,x.c,x.d,x.e,x.f)))
theorem yGJ:EV [yGI] lpN 254 Tryz.f254 yxu yMS Z0 ww:=fun x=>by kernel_rfl
def yNs:QF:=⟨254,ww,okN (n:=0) Tryz.func254 trivial yGJ⟩
def zE (x:yu0):Option yl1:=nz (zbd (JG (x.1,x.b,x.g,x.h)) fun r=>zbd (Ym (x.1,x.b,x.G)) fun s=>zif (!s.C) (zso (false,x.1,x.b,x.c,x.d,x.e,x.f)) (zbd (ww (s.1,s.b,zT4 x.C r)) fun t=>zso (true,t)))
theorem yGK:EV [yGA,yDW,yNs] lpN 187 Tryz.f187 yxv yu1 ytU zE:=fun x=>by kernel_rfl
def yGL:QF:=⟨187,zE,okN (n:=0) Tryz.func187 trivial yGK⟩
def Jx (x:yKH):Option y6o:=nz (zbd (yo (x.1,x.b,x.c,x.d,x.e,x.f)) fun r=>zbd (ZS (x.1,x.b,x.c,x.d,x.e,x.f,x.g,x.h)) fun s=>zam (s==0) (zbd (zC x.I) fun t=>zso (!t)) fun u=>zif u (zne 4 0 (zso (zG6 r 4)) (zbd (Yl (x.d,x.I)) fun v=>zif v.C (zbd (zJ (x.1,x.b,x.c,x.d,x.e,x.f,x.g)) fun w=>zix x.e w (zix v.1 v.b (zbd (zE (zT3 r (v.1,r.e,r.F,x.h,(yd x.e w).b,1,v.b,(ym v.1 v.b).1))) fun p=>zbd (yS (zT6 x (zG6 p.2 p.1))) fun q=>zso q))) (zbd (yS (zT6 x (zT3 r (v.1,r.e,r.F,false)))) fun m=>zso m))) (zne s 0 (zso (zG6 r s)) (zbd (Yl (x.d,x.I)) fun n=>zif n.C (zbd (zJ (x.1,x.b,x.c,x.d,x.e,x.f,x.g)) fun o=>zix x.e o (zix n.1 n.b (zbd (zE (zT3 r (n.1,r.e,r.F,x.h,(yd x.e o).b,1,n.b,(ym n.1 n.b).1))) fun e=>zbd (yS (zT6 x (zG6 e.2 e.1))) fun f=>zso f))) (zbd (yS (zT6 x (zT3 r (n.1,r.e,r.F,false)))) fun g=>zso g))))
theorem yNt:EV [q86,yzT,yo2,yu3,yGt,yGv,yGL] lpN 90 Tryz.f90 yLh yKI y6p Jx:=fun x=>by kernel_rfl
def q90:QF:=⟨90,Jx,okN (n:=0) Tryz.func90 trivial yNt⟩
abbrev Kw:Type:=yKJ
def Kx (k0:List y9→Option R) (a:Kw→Option R) (x:Kw):Option R:=nz (zan (decide (x.b≥0)) (decide (x.C.z≤x.1.z)) fun r=>zif r (zix x.1 x.b (zgd x.C ([(yD x.1 x.b).1]:List y9) 8 (zix x.1 x.b (zbd (zZ (x.1,(yD x.1 x.b).2)) fun s=>a (x.1,s,x.C++([(yD x.1 x.b).1]:List y9)))))) (k0 x.C))
def y2s k0:=zI (@Kx R k0) zY
def WF (x:yjh):Option (List y9):=nz (zbd (zZ x) fun r=>y2s (fun s=>zso s) (x.1,r,([]:List y9)))
def yr3:List QF:=[yu2]
def yaI (t:yKJ):St:=⟨zl t.1::dd 4 (.own 10000000::vI t.2.1::dd 29 []),[(10000000,.root true 3 yg t.2.2)]⟩
def yob:Gk Kw:=fun κ=>Kx (fun t=>κ (some 0) ⟨dd 5 (.own 10000000::dd 30 []),[(10000000,.root true 3 yg t)]⟩)
def yr4:Lp:=lpC 3 (unG yKK yaI) @yob lpN
theorem yAV:LF yr3 yr4 310 3 Tryz.f310 0 yaI @yob fun t=>t:=fun R κ again t=>by kernel_rfl
theorem yAW:LK yr3 yr4 310 Tryz.f310 0:=lkN (u:=(unG yKK yaI)) (yn fun t=>by kernel_rfl) yAV
theorem yGM:EV yr3 yr4 310 Tryz.f310 yxw yji [(.sl 3 yg)] WF:=fun x=>by kernel_rfl
def yM9:QF:=⟨310,WF,okN (n:=1) Tryz.func310 ⟨yAW,trivial⟩ yGM⟩
abbrev Qp:Type:=yKL
def W0 (k0:List y8→Option R) (a:Qp→Option R) (x:Qp):Option R:=nz (zlt x.b x.D.z (zix x.D x.b (zif ((yi x.D x.b).1==x.1) (zix x.D x.b (zgd x.c ([zF5 (yi x.D x.b)]:List y8) 40 (a (x.1,zin x.b,x.c++([zF5 (yi x.D x.b)]:List y8),x.D)))) (a (x.1,zin x.b,x.c,x.D)))) (k0 x.c))
def y2t k0:=zI (@W0 R k0) zY
def Ky (x:ytO):Option (List y8):=nz (zbd (yY (x.1,x.b)) fun r=>y2t (fun s=>zso s) (x.C,0,([]:List y8),r))
def yr5:List QF:=[yqw]
def yaJ (t:yKL):St:=⟨.dead::vI t.1::dd 3 (.own 10000000:: .own 10000001::vI t.2.1::dd 24 []),[(10000000,.root true 91 yl t.2.2.1),(10000001,.root true 91 yl t.2.2.2)]⟩
def yoc:Gk Qp:=fun κ=>W0 (fun t=>κ (some 0) ⟨dd 5 (.own 10000000::dd 26 []),[(10000000,.root true 91 yl t)]⟩)
def yr6:Lp:=lpC 4 (unG yKM yaJ) @yoc lpN
theorem yAX:LF yr5 yr6 339 4 Tryz.f339 0 yaJ @yoc fun t=>t:=fun R κ again t=>by kernel_rfl
theorem yAY:LK yr5 yr6 339 Tryz.f339 0:=lkN (u:=(unG yKM yaJ)) (yn fun t=>by kernel_rfl) yAX
theorem yGN:EV yr5 yr6 339 Tryz.f339 yxx ytP [(.sl 91 yl)] Ky:=fun x=>by kernel_rfl
def yNu:QF:=⟨339,Ky,okN (n:=1) Tryz.func339 ⟨yAY,trivial⟩ yGN⟩
abbrev y0q:Type:=yKN
def ki (k0:Bool→Option R) (k1:Unit→Option R) (a:y0q→Option R) (x:y0q):Option R:=nz (zlt x.C x.1.z (zix x.1 x.C (zif (zB x.1 x.C==x.b) (k0 true) (a (x.1,x.b,zin x.C)))) (k1 ()))
def y3L k0 k1:=zI (@ki R k0 k1) zY
def VR (x:yEn):Option Bool:=nz (y3L (fun r=>zso r) (fun s=>zso false) (x.1,x.2,0))
def yr7:List QF:=[]
def yaK (t:yKN):St:=⟨z6 t.1::vI t.2.1::dd 3 (vI t.2.2::dd 12 []),[]⟩
def yod:Gk y0q:=fun κ=>ki (fun t=>κ none ⟨dd 4 (vB t::dd 13 []),[]⟩) (fun t=>κ (some 0) ⟨dd 18 [],[]⟩)
def yr8:Lp:=lpC 2 (unG yKO yaK) @yod lpN
theorem yAZ:LF yr7 yr8 340 2 Tryz.f340 0 yaK @yod fun t=>t:=fun R κ again t=>by kernel_rfl
theorem yB0:LK yr7 yr8 340 Tryz.f340 0:=lkN (u:=(unG yKO yaK)) (yn fun t=>by kernel_rfl) yAZ
theorem yGO:EV yr7 yr8 340 Tryz.f340 yxy yEo [.bool] VR:=fun x=>by kernel_rfl
def yNv:QF:=⟨340,VR,okN (n:=1) Tryz.func340 ⟨yB0,trivial⟩ yGO⟩
abbrev Qq:Type:=yKP
def W2 (k0:yKR→Option R) (a:Qq→Option R) (x:Qq):Option R:=nz (zlt x.c x.N.z (zix x.N x.c (zbd (VR (x.1,(yi x.N x.c).b)) fun r=>zam r (zom (!x.b) (zix x.N x.c (zso (decide ((yi x.N x.c).b>x.j)))) fun s=>zso s) fun t=>zif t (zix x.N x.c (a (x.1,true,zin x.c,zT5 x.D (zG5 (yi x.N x.c) x.N)))) (a (x.1,x.b,zin x.c,yq9 x.D)))) (k0 (x.b,x.d,x.e,x.f,x.g,x.h,x.i,x.j,x.k,x.l,x.m)))
def y2u k0:=zI (@W2 R k0) zY
def JH (x:yKS):Option yir:=nz (zbd (Ky (x.1,x.b,x.c)) fun r=>y2u (fun s=>zso (zG5 s.G s.1)) (x.D,false,0,0,0,0,0,0,0,0,0,0,0,r))
def yr9:List QF:=[yNu,yNv]
def yaL (t:yKP):St:=⟨dd 2 (z6 t.1::dd 3 (.box 6 0:: .dead:: .box 8 0::vB t.2.1:: .own 10000000::vI t.2.2.1::dd 37 [])),[(6,.box [vI t.2.2.2.1,vI t.2.2.2.2.1,vI t.2.2.2.2.2.1,vI t.2.2.2.2.2.2.1,vI t.2.2.2.2.2.2.2.1]),(8,.box [vI t.2.2.2.2.2.2.2.2.1,vI t.2.2.2.2.2.2.2.2.2.1,vI t.2.2.2.2.2.2.2.2.2.2.1,vI t.2.2.2.2.2.2.2.2.2.2.2.1,vI t.2.2.2.2.2.2.2.2.2.2.2.2.1]),(10000000,.root true 91 yl t.2.2.2.2.2.2.2.2.2.2.2.2.2)]⟩
def yoe:Gk Qq:=fun κ=>W2 (fun t=>κ (some 0) ⟨dd 6 (.box 6 0:: .dead:: .box 8 0::vB t.1::dd 39 []),[(6,.box [vI t.2.1,vI t.2.2.1,vI t.2.2.2.1,vI t.2.2.2.2.1,vI t.2.2.2.2.2.1]),(8,.box [vI t.2.2.2.2.2.2.1,vI t.2.2.2.2.2.2.2.1,vI t.2.2.2.2.2.2.2.2.1,vI t.2.2.2.2.2.2.2.2.2.1,vI t.2.2.2.2.2.2.2.2.2.2])]⟩)
def yra:Lp:=lpC 5 (unG yKQ yaL) @yoe lpN
theorem yB1:LF yr9 yra 311 5 Tryz.f311 0 yaL @yoe fun t=>t:=fun R κ again t=>by kernel_rfl
theorem yB2:LK yr9 yra 311 Tryz.f311 0:=lkN (u:=(unG yKQ yaL)) (yn fun t=>by kernel_rfl) yB1
theorem yGP:EV yr9 yra 311 Tryz.f311 yxz yKT yis JH:=fun x=>by kernel_rfl
def yMa:QF:=⟨311,JH,okN (n:=1) Tryz.func311 ⟨yB2,trivial⟩ yGP⟩
def jd (x:yDS):Option yir:=nz (zbd (WF (x.c,x.E)) fun r=>zeq r.z 0 (zso (0,0,0,0,0,false)) (zsl 1 r.z r.z (zbd (JH (x.1,x.b,x.d,zcu r 1 r.z)) fun s=>zso s)))
theorem yGQ:EV [yM9,yMa] lpN 255 Tryz.f255 yxA yDT yis jd:=fun x=>by kernel_rfl
def yMb:QF:=⟨255,jd,okN (n:=0) Tryz.func255 trivial yGQ⟩
def zP (x:yEp):Option yl1:=nz (zix x.e x.g (zbd (jd (zT3 x (x.H,(yd x.e x.g).b))) fun r=>zan r.F (r.c==1) fun s=>zif s (zbd (zE (zT6 x (x.H,(yd x.e x.g).b,2,0,0))) fun t=>zso t) (zbd (JG (x.1,x.b,x.H,(yd x.e x.g).b)) fun u=>zif (!u.F) (zso (true,x.1,x.b,x.c,x.d,x.e,x.f)) (zbd (zE (zT6 x (x.H,(yd x.e x.g).b,0,0,0))) fun v=>zso v))))
theorem yGR:EV [yGL,yGA,yMb] lpN 188 Tryz.f188 yxB yEq ytU zP:=fun x=>by kernel_rfl
def yMc:QF:=⟨188,zP,okN (n:=0) Tryz.func188 trivial yGR⟩
def ZK (x:ypJ):Option y6o:=nz (zbd (yo (x.1,x.b,x.c,x.d,x.e,x.f)) fun r=>zbd (ZS x) fun s=>zne s 0 (zso (zG6 r s)) (zbd (zJ (x.1,x.b,x.c,x.d,x.e,x.f,x.g)) fun t=>zbd (zP (zG6 r (t,x.H))) fun u=>zbd (yS (zT6 x (zG6 u.2 u.1))) fun v=>zso v))
theorem yNw:EV [q86,yo2,yu3,yGt,yMc] lpN 91 Tryz.f91 yLi ypK y6p ZK:=fun x=>by kernel_rfl
def q91:QF:=⟨91,ZK,okN (n:=0) Tryz.func91 trivial yNw⟩
abbrev w3:Type:=yut ⊕ yuu
def YU (k0:yMT→Option R) (k1:yMU→Option R) (a:w3→Option R):w3→Option R
 | .inl x=>nz (zan (decide (x.d≥x.1)) x.c fun r=>zif r (zbd (zP (zG5 x.M (x.l,x.b,x.d))) fun s=>a (Sum.inr (x.1,x.b,s.1,zde x.d,zT7 x.E (zT3 s.2 (s.G,s.e,s.f))))) (k0 (zT3 x x.E)))
 | .inr x=>nz (zan (decide (x.d≥x.1)) x.c fun r=>zif r (zbd (zP (zT3 x.L (x.p,x.Q,x.o,x.b,x.d))) fun s=>a (Sum.inr (x.1,x.b,s.1,zde x.d,zT7 x.E (zT3 s.2 (s.G,s.e,s.f))))) (k1 (zT3 x x.E)))
def je k0 k1:=zI (@YU R k0 k1) zY
def jw (x:ypJ):Option y6o:=nz (zbd (yo (x.1,x.b,x.c,x.d,x.e,x.f)) fun r=>zbd (ZS (zT7 x 0)) fun s=>zam (s==0) (zbd (yE (x.H,1,12)) fun t=>zso (!t)) fun u=>zif u (zne 4 0 (zso (zG6 r 4)) (zbd (zJ (x.1,x.b,x.c,x.d,x.e,x.f,x.g)) fun v=>zix x.e v (je (fun w=>zix w.P w.b (zbd (yS (zT6 w.D (zT4 w.L (zup w.P w.b ((yd w.P w.b).1,(yd w.P w.b).b,w.1,(yd w.P w.b).D),w.k,w.c)))) fun p=>zso p)) (fun q=>zix q.P q.b (zbd (yS (zT6 q.D (zT3 q.K (q.o,zup q.P q.b ((yd q.P q.b).1,(yd q.P q.b).b,q.1,(yd q.P q.b).D),q.n,q.c)))) fun m=>zso m)) (Sum.inl (x.H,v,true,zde ((yd x.e v).c),zT6 x (0,r.F,r.1,r.b,r.c,r.d,r.e)))))) (zne s 0 (zso (zG6 r s)) (zbd (zJ (x.1,x.b,x.c,x.d,x.e,x.f,x.g)) fun n=>zix x.e n (je (fun o=>zix o.P o.b (zbd (yS (zT6 o.D (zT4 o.L (zup o.P o.b ((yd o.P o.b).1,(yd o.P o.b).b,o.1,(yd o.P o.b).D),o.k,o.c)))) fun e=>zso e)) (fun f=>zix f.P f.b (zbd (yS (zT6 f.D (zT3 f.K (f.o,zup f.P f.b ((yd f.P f.b).1,(yd f.P f.b).b,f.1,(yd f.P f.b).D),f.n,f.c)))) fun g=>zso g)) (Sum.inl (x.H,n,true,zde ((yd x.e n).c),zT6 x (0,r.F,r.1,r.b,r.c,r.d,r.e)))))))
def yB3:List QF:=[q67,q86,yo2,yu3,yGt,yMc]
def y6U (t:yut):St:=⟨dd 2 (vI t.1:: .box 3 0::dd 2 (.box 6 0:: .dead:: .box 8 0:: .dead::vI t.2.1::vB t.2.2.1::vI t.2.2.2.1::dd 49 [])),[(3,.box [z6 t.2.2.2.2.1,yA t.2.2.2.2.2.1,zl t.2.2.2.2.2.2.1,yU t.2.2.2.2.2.2.2.1,Y6 t.2.2.2.2.2.2.2.2.1,vI t.2.2.2.2.2.2.2.2.2.1]),(6,.box [.nils,.nils,.nils,.nils,.nils,vI t.2.2.2.2.2.2.2.2.2.2.1]),(8,.box [.own 10000000,.own 10000001,.own 10000002,.own 10000003,.own 10000004,vI t.2.2.2.2.2.2.2.2.2.2.2.1]),(10000000,.root true 3 yg t.2.2.2.2.2.2.2.2.2.2.2.2.1),(10000001,.root true 88 yj t.2.2.2.2.2.2.2.2.2.2.2.2.2.1),(10000002,.root true 79 yh t.2.2.2.2.2.2.2.2.2.2.2.2.2.2.1),(10000003,.root true 85 yc t.2.2.2.2.2.2.2.2.2.2.2.2.2.2.2.1),(10000004,.root true 81 yt t.2.2.2.2.2.2.2.2.2.2.2.2.2.2.2.2)]⟩
theorem ymj: ∀ s t,unG yKU y6U s=some t→y6U t=s:=yn fun t=>by kernel_rfl
def y6V (t:yuu):St:=⟨dd 2 (vI t.1:: .box 3 0::dd 2 (.box 6 0:: .dead:: .box 8 0:: .dead::vI t.2.1::vB t.2.2.1::vI t.2.2.2.1::dd 49 [])),[(3,.box [z6 t.2.2.2.2.1,yA t.2.2.2.2.2.1,zl t.2.2.2.2.2.2.1,yU t.2.2.2.2.2.2.2.1,Y6 t.2.2.2.2.2.2.2.2.1,vI t.2.2.2.2.2.2.2.2.2.1]),(6,.box [.nils,.nils,.nils,.nils,.nils,vI t.2.2.2.2.2.2.2.2.2.2.1]),(8,.box [z6 t.2.2.2.2.2.2.2.2.2.2.2.1,yA t.2.2.2.2.2.2.2.2.2.2.2.2.1,zl t.2.2.2.2.2.2.2.2.2.2.2.2.2.1,.own 10000000,.own 10000001,vI t.2.2.2.2.2.2.2.2.2.2.2.2.2.2.1]),(10000000,.root true 85 yc t.2.2.2.2.2.2.2.2.2.2.2.2.2.2.2.1),(10000001,.root true 81 yt t.2.2.2.2.2.2.2.2.2.2.2.2.2.2.2.2)]⟩
theorem ymk: ∀ s t,unG yKV y6V s=some t→y6V t=s:=yn fun t=>by kernel_rfl
def y6W:(yut ⊕ yuu)→St:=Sum.elim y6U y6V
def yaM (s:St):Option (yut ⊕ yuu):=((unG yKU y6U s).map Sum.inl).or (((unG yKV y6V) s).map Sum.inr)
theorem yml: ∀ s t,yaM s=some t→y6W t=s:=y5x ymj ymk
def ygZ:Gk w3:=fun κ=>YU (fun t=>κ (some 0) ⟨dd 2 (vI t.1:: .box 3 0::dd 2 (.box 6 0:: .dead:: .box 8 0:: .dead::vI t.2.1::vB t.2.2.1::dd 50 [])),[(3,.box [z6 t.2.2.2.1,yA t.2.2.2.2.1,zl t.2.2.2.2.2.1,yU t.2.2.2.2.2.2.1,Y6 t.2.2.2.2.2.2.2.1,vI t.2.2.2.2.2.2.2.2.1]),(6,.box [.nils,.nils,.nils,.nils,.nils,vI t.2.2.2.2.2.2.2.2.2.1]),(8,.box [.own 10000000,.own 10000001,.own 10000002,.own 10000003,.own 10000004,vI t.2.2.2.2.2.2.2.2.2.2.1]),(10000000,.root true 3 yg t.2.2.2.2.2.2.2.2.2.2.2.1),(10000001,.root true 88 yj t.2.2.2.2.2.2.2.2.2.2.2.2.1),(10000002,.root true 79 yh t.2.2.2.2.2.2.2.2.2.2.2.2.2.1),(10000003,.root true 85 yc t.2.2.2.2.2.2.2.2.2.2.2.2.2.2.1),(10000004,.root true 81 yt t.2.2.2.2.2.2.2.2.2.2.2.2.2.2.2)]⟩) (fun t=>κ (some 0) ⟨dd 2 (vI t.1:: .box 3 0::dd 2 (.box 6 0:: .dead:: .box 8 0:: .dead::vI t.2.1::vB t.2.2.1::dd 50 [])),[(3,.box [z6 t.2.2.2.1,yA t.2.2.2.2.1,zl t.2.2.2.2.2.1,yU t.2.2.2.2.2.2.1,Y6 t.2.2.2.2.2.2.2.1,vI t.2.2.2.2.2.2.2.2.1]),(6,.box [.nils,.nils,.nils,.nils,.nils,vI t.2.2.2.2.2.2.2.2.2.1]),(8,.box [z6 t.2.2.2.2.2.2.2.2.2.2.1,yA t.2.2.2.2.2.2.2.2.2.2.2.1,zl t.2.2.2.2.2.2.2.2.2.2.2.2.1,.own 10000000,.own 10000001,vI t.2.2.2.2.2.2.2.2.2.2.2.2.2.1]),(10000000,.root true 85 yc t.2.2.2.2.2.2.2.2.2.2.2.2.2.2.1),(10000001,.root true 81 yt t.2.2.2.2.2.2.2.2.2.2.2.2.2.2.2)]⟩)
def yB4:Lp:=lpC 10 yaM @ygZ lpN
theorem ymm:LF yB3 yB4 92 10 Tryz.f92 0 y6W @ygZ fun v:yut=> .inl v:=fun R κ again v=>by kernel_rfl
theorem ymn:LF yB3 yB4 92 10 Tryz.f92 0 y6W @ygZ fun v:yuu=> .inr v:=fun R κ again v=>by kernel_rfl
theorem yB5:LF yB3 yB4 92 10 Tryz.f92 0 y6W @ygZ fun t=>t:=(LC.sum ymm ymn)
theorem yB6:LK yB3 yB4 92 Tryz.f92 0:=lkN (u:=yaM) yml yB5
theorem yNx:EV yB3 yB4 92 Tryz.f92 yLj ypK y6p jw:=fun x=>by kernel_rfl
def q92:QF:=⟨92,jw,okN (n:=1) Tryz.func92 ⟨yB6,trivial⟩ yNx⟩
def Qr (x:yDS):Option yir:=nz (zbd (WF (x.c,x.E)) fun r=>zbd (JH (x.1,x.b,x.d,r)) fun s=>zso s)
theorem yGS:EV [yM9,yMa] lpN 351 Tryz.f351 yxC yDT yis Qr:=fun x=>by kernel_rfl
def yNy:QF:=⟨351,Qr,okN (n:=0) Tryz.func351 trivial yGS⟩
def Qs (x:yKW):Option Bool:=nz (zbd (Qr (zT4 x x.I)) fun r=>zan r.F (r.b==x.e) fun s=>zso s)
theorem yGT:EV [yNy] lpN 349 Tryz.f349 yxD yKX [.bool] Qs:=fun x=>by kernel_rfl
def yNz:QF:=⟨349,Qs,okN (n:=0) Tryz.func349 trivial yGT⟩
abbrev Kz:Type:=yKY
def jx (k0:Bool→Option R) (k1:Unit→Option R) (a:Kz→Option R) (x:Kz):Option R:=nz (zlt x.1 x.f.z (zix x.f x.1 (zam (decide ((yd x.f x.1).c>x.h)) (zix x.f x.1 (zbd (Qs (zT3 x.2 (zG5 x.H ((yd x.f x.1).b)))) fun r=>zso r)) fun s=>zif s (k0 true) (a (zin x.1,yq9 x.2)))) (k1 ()))
def y06 k0 k1:=zI (@jx R k0 k1) zY
def w4 (x:yu0):Option Bool:=nz (y06 (fun r=>zso r) (fun s=>zso false) (0,yq9 x))
def yrb:List QF:=[yNz]
def yaN (t:yKY):St:=⟨dd 2 (.box 2 0:: .box 3 0:: .dead::vI t.1::dd 30 []),[(2,.box [z6 t.2.1,yA t.2.2.1,zl t.2.2.2.1,yU t.2.2.2.2.1,Y6 t.2.2.2.2.2.1,vI t.2.2.2.2.2.2.1]),(3,.box [vI t.2.2.2.2.2.2.2.1,vI t.2.2.2.2.2.2.2.2.1,vI t.2.2.2.2.2.2.2.2.2.1,vI t.2.2.2.2.2.2.2.2.2.2.1,vI t.2.2.2.2.2.2.2.2.2.2.2])]⟩
def yof:Gk Kz:=fun κ=>jx (fun t=>κ none ⟨dd 4 (vB t::dd 31 []),[]⟩) (fun t=>κ (some 0) ⟨dd 36 [],[]⟩)
def yrc:Lp:=lpC 2 (unG yKZ yaN) @yof lpN
theorem yB7:LF yrb yrc 341 2 Tryz.f341 0 yaN @yof fun t=>t:=fun R κ again t=>by kernel_rfl
theorem yB8:LK yrb yrc 341 Tryz.f341 0:=lkN (u:=(unG yKZ yaN)) (yn fun t=>by kernel_rfl) yB7
theorem yGU:EV yrb yrc 341 Tryz.f341 yxE yu1 [.bool] w4:=fun x=>by kernel_rfl
def yNA:QF:=⟨341,w4,okN (n:=1) Tryz.func341 ⟨yB8,trivial⟩ yGU⟩
abbrev y1v:Type:=yEr
def KA (k0:Bool→Option R) (k1:Unit→Option R) (a:y1v→Option R) (x:y1v):Option R:=nz (zlt x.b x.g.z (zix x.g x.b (zif ((yd x.g x.b).b==x.1) (k0 false) (a (x.1,zin x.b,zF6 x.C)))) (k1 ()))
def y4R k0 k1:=zI (@KA R k0 k1) zY
def V6 (x:y6o):Option Bool:=nz (y4R (fun r=>zso r) (fun s=>zso true) (x.G,0,x.1,x.b,x.c,x.d,x.e,x.f))
def yrd:List QF:=[]
def yaO (t:yEr):St:=⟨.dead::vI t.1:: .box 2 0::dd 2 (vI t.2.1::dd 15 []),[(2,.box [z6 t.2.2.1,yA t.2.2.2.1,zl t.2.2.2.2.1,yU t.2.2.2.2.2.1,Y6 t.2.2.2.2.2.2.1,vI t.2.2.2.2.2.2.2])]⟩
def yog:Gk y1v:=fun κ=>KA (fun t=>κ none ⟨dd 4 (vB t::dd 16 []),[]⟩) (fun t=>κ (some 0) ⟨dd 21 [],[]⟩)
def yre:Lp:=lpC 2 (unG yL0 yaO) @yog lpN
theorem yB9:LF yrd yre 314 2 Tryz.f314 0 yaO @yog fun t=>t:=fun R κ again t=>by kernel_rfl
theorem yBa:LK yrd yre 314 Tryz.f314 0:=lkN (u:=(unG yL0 yaO)) (yn fun t=>by kernel_rfl) yB9
theorem yGV:EV yrd yre 314 Tryz.f314 yxF y6p [.bool] V6:=fun x=>by kernel_rfl
def yMd:QF:=⟨314,V6,okN (n:=1) Tryz.func314 ⟨yBa,trivial⟩ yGV⟩
def jy (x:y6o):Option Int:=nz (zbd (JF (x.c,x.G)) fun r=>zbd (V6 x) fun s=>zor (!s) (r.z !=1) fun t=>zif t (zso 0) (zix r 0 (zso (zB r 0))))
theorem yGW:EV [yG6,yMd] lpN 258 Tryz.f258 yxG y6p [(.int .i64)] jy:=fun x=>by kernel_rfl
def yMe:QF:=⟨258,jy,okN (n:=0) Tryz.func258 trivial yGW⟩
def VA (x:yu0):Option Bool:=nz (zbd (jy (zT6 x x.h)) fun r=>zeq r 0 (zso false) (zbd (JG (x.1,x.b,x.g,r)) fun s=>zso (!s.F)))
theorem yGX:EV [yGA,yMe] lpN 342 Tryz.f342 yxH yu1 [.bool] VA:=fun x=>by kernel_rfl
def yNB:QF:=⟨342,VA,okN (n:=0) Tryz.func342 trivial yGX⟩
def KB (x:yL1):Option Bool:=nz (zeq x.g 1 (zbd (w4 (zT6 x x.H)) fun r=>zso (!r)) (zeq x.g 2 (zbd (jd (zT3 x (x.h,x.i))) fun s=>zan (x.j==2) (!s.F) fun t=>zso t) (zbd (VA (zT6 x x.H)) fun u=>zso u)))
theorem yGY:EV [yMb,yNA,yNB] lpN 312 Tryz.f312 yxI yL2 [.bool] KB:=fun x=>by kernel_rfl
def yNC:QF:=⟨312,KB,okN (n:=0) Tryz.func312 trivial yGY⟩
abbrev Qt:Type:=ynE
def W3 (k0:yMV→Option R) (k1:yjj→Option R) (a:Qt→Option R) (x:Qt):Option R:=nz (zlt x.b x.I.z (zix x.I x.b (zif ((yi x.I x.b).b==x.1) (k0 (x.1,false,x.c,x.d,x.e,x.f,x.g,x.h)) (a (x.1,zin x.b,zF7 x.C)))) (k1 (x.1,x.c,x.d,x.e,x.f,x.g,x.h)))
def y2v k0 k1:=zI (@W3 R k0 k1) zY
def KC (x:y6o):Option Bool:=nz (zbd (yY (x.1,x.b)) fun r=>y2v (fun s=>zso s.b) (fun t=>zbd (V6 (zG6 t.2 t.1)) fun u=>zam u (zbd (JF (t.d,t.1)) fun v=>zso (decide (v.z≤1))) fun w=>zso w) (x.G,0,zT6 x r))
def yrf:List QF:=[yqw,yG6,yMd]
def yaP (t:ynE):St:=⟨.dead::vI t.1:: .box 2 0::dd 2 (.own 10000000::vI t.2.1::dd 27 []),[(2,.box [z6 t.2.2.1,yA t.2.2.2.1,zl t.2.2.2.2.1,yU t.2.2.2.2.2.1,Y6 t.2.2.2.2.2.2.1,vI t.2.2.2.2.2.2.2.1]),(10000000,.root true 91 yl t.2.2.2.2.2.2.2.2)]⟩
def yoh:Gk Qt:=fun κ=>W3 (fun t=>κ none ⟨.dead::vI t.1:: .box 2 0:: .dead::vB t.2.1::dd 29 [],[(2,.box [z6 t.2.2.1,yA t.2.2.2.1,zl t.2.2.2.2.1,yU t.2.2.2.2.2.1,Y6 t.2.2.2.2.2.2.1,vI t.2.2.2.2.2.2.2])]⟩) (fun t=>κ (some 0) ⟨.dead::vI t.1:: .box 2 0::dd 31 [],[(2,.box [z6 t.2.1,yA t.2.2.1,zl t.2.2.2.1,yU t.2.2.2.2.1,Y6 t.2.2.2.2.2.1,vI t.2.2.2.2.2.2])]⟩)
def yrg:Lp:=lpC 3 (unG ytX yaP) @yoh lpN
theorem yBb:LF yrf yrg 313 3 Tryz.f313 0 yaP @yoh fun t=>t:=fun R κ again t=>by kernel_rfl
theorem yBc:LK yrf yrg 313 Tryz.f313 0:=lkN (u:=(unG ytX yaP)) (yn fun t=>by kernel_rfl) yBb
theorem yGZ:EV yrf yrg 313 Tryz.f313 yxJ y6p [.bool] KC:=fun x=>by kernel_rfl
def yND:QF:=⟨313,KC,okN (n:=1) Tryz.func313 ⟨yBc,trivial⟩ yGZ⟩
abbrev V7:Type:=ynE
def J4 (k0:yEj→Option R) (k1:yEs→Option R) (a:V7→Option R) (x:V7):Option R:=nz (zlt x.b x.I.z (zix x.I x.b (zbd (KB (zT6 x.C (x.1,zF5 (yi x.I x.b)))) fun r=>zif r (k0 (x.1,x.b,x.1,x.C)) (a (x.1,zin x.b,zF7 x.C)))) (k1 (x.1,x.C)))
def y0Q k0 k1:=zI (@J4 R k0 k1) zY
abbrev V8:Type:=yEs
def J5 (k0:yEr→Option R) (k1:y7P→Option R) (a:V8→Option R) (x:V8):Option R:=nz (zle x.1 3 (y0Q (fun r=>k0 (r.1,r.b,r.d,r.e,r.f,r.g,r.h,r.i)) (fun s=>a (zin s.1,zF7 s.2)) (x.1,0,zF7 x.2)) (k1 (x.b,x.c,x.d,x.e,x.f,x.g)))
def y0R k0 k1:=zI (@J5 R k0 k1) zY
abbrev KD:Type:=yjj
def jz (k0:yiq→Option R) (k1:Unit→Option R) (a:KD→Option R) (x:KD):Option R:=nz (zlt x.1 x.d.z (zix x.d x.1 (zbd (KC (zG6 x.2 ((yD x.d x.1).1))) fun r=>zif r (k0 (4,x.1)) (a (zin x.1,zF6 x.2)))) (k1 ()))
def y07 k0 k1:=zI (@jz R k0 k1) zY
def W4 (x:y7P):Option yiq:=nz (zbd (yV x) fun r=>zif (!r) (zso (0,0)) (zbd (yY (x.1,x.b)) fun s=>y0R (fun t=>zso (t.1,t.b)) (fun u=>y07 (fun v=>zso v) (fun w=>zso (0,0)) (0,zF6 u)) (1,zG6 x s)))
def yfw:List QF:=[q85,yqw,yNC,yND]
def yaQ (t:ynE):St:=⟨.dead:: .box 1 0::dd 2 (.own 10000000::vI t.1::vI t.2.1::dd 42 []),[(1,.box [z6 t.2.2.1,yA t.2.2.2.1,zl t.2.2.2.2.1,yU t.2.2.2.2.2.1,Y6 t.2.2.2.2.2.2.1,vI t.2.2.2.2.2.2.2.1]),(10000000,.root true 91 yl t.2.2.2.2.2.2.2.2)]⟩
def yoi:Gk V7:=fun κ=>J4 (fun t=>κ none ⟨.dead:: .box 1 0::vI t.1::vI t.2.1:: .own 10000000::vI t.2.2.1::dd 43 [],[(1,.box [z6 t.2.2.2.1,yA t.2.2.2.2.1,zl t.2.2.2.2.2.1,yU t.2.2.2.2.2.2.1,Y6 t.2.2.2.2.2.2.2.1,vI t.2.2.2.2.2.2.2.2.1]),(10000000,.root true 91 yl t.2.2.2.2.2.2.2.2.2)]⟩) (fun t=>κ (some 2) ⟨.dead:: .box 1 0::dd 2 (.own 10000000::vI t.1::dd 43 []),[(1,.box [z6 t.2.1,yA t.2.2.1,zl t.2.2.2.1,yU t.2.2.2.2.1,Y6 t.2.2.2.2.2.1,vI t.2.2.2.2.2.2.1]),(10000000,.root true 91 yl t.2.2.2.2.2.2.2)]⟩)
def yaR (t:yEs):St:=⟨.dead:: .box 1 0::dd 2 (.own 10000000::vI t.1::dd 43 []),[(1,.box [z6 t.2.1,yA t.2.2.1,zl t.2.2.2.1,yU t.2.2.2.2.1,Y6 t.2.2.2.2.2.1,vI t.2.2.2.2.2.2.1]),(10000000,.root true 91 yl t.2.2.2.2.2.2.2)]⟩
def yoj:Gk V8:=fun κ=>J5 (fun t=>κ none ⟨.dead:: .box 1 0::vI t.1::vI t.2.1::dd 45 [],[(1,.box [z6 t.2.2.1,yA t.2.2.2.1,zl t.2.2.2.2.1,yU t.2.2.2.2.2.1,Y6 t.2.2.2.2.2.2.1,vI t.2.2.2.2.2.2.2])]⟩) (fun t=>κ (some 0) ⟨.dead:: .box 1 0::dd 47 [],[(1,.box [z6 t.1,yA t.2.1,zl t.2.2.1,yU t.2.2.2.1,Y6 t.2.2.2.2.1,vI t.2.2.2.2.2])]⟩)
def y7S (t:yjj):St:=⟨.dead:: .box 1 0::dd 5 (vI t.1::dd 41 []),[(1,.box [z6 t.2.1,yA t.2.2.1,zl t.2.2.2.1,yU t.2.2.2.2.1,Y6 t.2.2.2.2.2.1,vI t.2.2.2.2.2.2])]⟩
def yjX:Gk KD:=fun κ=>jz (fun t=>κ none ⟨dd 2 (vI t.1::vI t.2::dd 45 []),[]⟩) (fun t=>κ (some 4) ⟨dd 49 [],[]⟩)
def yfx:Lp:=lpC 13 (unG ytT y7S) @yjX (lpC 5 (unG yL3 yaR) @yoj (lpC 8 (unG ytX yaQ) @yoi lpN))
theorem yBd:LF yfw yfx 256 8 Tryz.f256 1 yaQ @yoi fun t=>t:=fun R κ again t=>by kernel_rfl
theorem yBe:LK yfw yfx 256 Tryz.f256 1:=lkN (u:=(unG ytX yaQ)) (yn fun t=>by kernel_rfl) yBd
theorem yBf:LF yfw yfx 256 5 Tryz.f256 0 yaR @yoj fun t=>t:=fun R κ again t=>by kernel_rfl
theorem yBg:LK yfw yfx 256 Tryz.f256 0:=lkN (u:=(unG yL3 yaR)) (yn fun t=>by kernel_rfl) yBf
theorem yrh:LF yfw yfx 256 13 Tryz.f256 2 y7S @yjX fun t=>t:=fun R κ again t=>by kernel_rfl
theorem yri:LK yfw yfx 256 Tryz.f256 2:=lkN (u:=(unG ytT y7S)) (yn fun t=>by kernel_rfl) yrh
theorem yH0:EV yfw yfx 256 Tryz.f256 yxK Z0 ylM W4:=fun x=>by kernel_rfl
def yNE:QF:=⟨256,W4,okN (n:=3) Tryz.func256 ⟨yBg,yBe,yri,trivial⟩ yH0⟩
def jT (x:yu0):Option yl1:=nz (zbd (zE (zT8 x (0,0,0))) fun r=>zso r)
theorem yH1:EV [yGL] lpN 257 Tryz.f257 yxL yu1 ytU jT:=fun x=>by kernel_rfl
def yNF:QF:=⟨257,jT,okN (n:=0) Tryz.func257 trivial yH1⟩
abbrev Qu:Type:=yL4
def KE (k0:List y7→Option R) (a:Qu→Option R) (x:Qu):Option R:=nz (zlt x.d x.1.z (zix x.1 x.d (zif ((yD x.1 x.d).2==x.b) (zix x.1 x.c (zif (x.d !=x.c) (zgd x.E ([((yD x.1 x.d).1,(yD x.1 x.c).2)]:List y7) 16 (a (zT3 x (zin x.d,x.E++([((yD x.1 x.d).1,(yD x.1 x.c).2)]:List y7))))) (a (zT3 x (zin x.d,x.E))))) (zif (x.d !=x.c) (zgd x.E ([((yD x.1 x.d).1,(yD x.1 x.d).2)]:List y7) 16 (a (zT3 x (zin x.d,x.E++([((yD x.1 x.d).1,(yD x.1 x.d).2)]:List y7))))) (a (zT3 x (zin x.d,x.E)))))) (k0 x.E))
def y2w k0:=zI (@KE R k0) zY
def WG (x:yjh):Option ytQ:=nz (zbd (zZ x) fun r=>zom (decide (r<0)) (zbd (ZD x.1) fun s=>zso (!s)) fun t=>zif t (zgd ([]:List y7) x.1 16 (zso (([]:List y7)++x.1,false))) (y2w (fun u=>zso (u,true)) (x.1,x.2,r,0,([]:List y7))))
def yrj:List QF:=[yG2,yu2]
def yaS (t:yL4):St:=⟨zl t.1::vI t.2.1::dd 4 (vI t.2.2.1:: .own 10000000::vI t.2.2.2.1::dd 43 []),[(10000000,.root true 79 yh t.2.2.2.2)]⟩
def yok:Gk Qu:=fun κ=>KE (fun t=>κ (some 0) ⟨dd 7 (.own 10000000::dd 44 []),[(10000000,.root true 79 yh t)]⟩)
def yrk:Lp:=lpC 6 (unG yL5 yaS) @yok lpN
theorem yBh:LF yrj yrk 259 6 Tryz.f259 0 yaS @yok fun t=>t:=fun R κ again t=>by kernel_rfl
theorem yBi:LK yrj yrk 259 Tryz.f259 0:=lkN (u:=(unG yL5 yaS)) (yn fun t=>by kernel_rfl) yBh
theorem yH2:EV yrj yrk 259 Tryz.f259 yxM yji yDH WG:=fun x=>by kernel_rfl
def yNG:QF:=⟨259,WG,okN (n:=1) Tryz.func259 ⟨yBi,trivial⟩ yH2⟩
def YV (x:y7P):Option ypM:=nz (zbd (yo x) fun r=>zbd (W4 x) fun s=>zbd (yY (x.1,x.b)) fun t=>zeq s.1 1 (zeq s.1 1 (zix t s.2 (zbd (jT (zG6 r (zF5 (yi t s.2)))) fun u=>zom (!u.1) (zbd (yV u.2) fun v=>zso (!v)) fun w=>zif w (zbd (yo x) fun p=>zso (zG6 p false)) (zso (zG6 u.2 true)))) (zeq s.1 3 (zix t s.2 (zbd (Ym (r.1,r.b,(yi t s.2).1,(yi t s.2).b,0,0,0)) fun q=>zbd (jy (zG6 x ((yi t s.2).b))) fun m=>zbd (Ym (q.1,q.b,(yi t s.2).1,m,zF3 (yi t s.2).C)) fun n=>zan q.C n.C fun o=>zom (!o) (zbd (yV (n.1,n.b,r.C)) fun e=>zso (!e)) fun f=>zif f (zbd (yo x) fun g=>zso (zG6 g false)) (zso (n.1,n.b,zG4 r.C true)))) (zeq s.1 4 (zix x.c s.2 (zbd (WG (x.c,(yD x.c s.2).1)) fun h=>zom (!h.2) (zbd (yV (r.1,r.b,h.1,r.D)) fun i=>zso (!i)) fun j=>zif j (zbd (yo x) fun l=>zso (zG6 l false)) (zso (r.1,r.b,h.1,zG3 r.D true)))) (zom (!(s.1 !=0)) (zbd (yV r) fun y=>zso (!y)) fun z=>zif z (zbd (yo x) fun b=>zso (zG6 b false)) (zso (zG6 r true)))))) (zeq s.1 2 (zix t s.2 (zbd (jT (zG6 r (zF5 (yi t s.2)))) fun c=>zom (!c.1) (zbd (yV c.2) fun d=>zso (!d)) fun R=>zif R (zbd (yo x) fun A=>zso (zG6 A false)) (zso (zG6 c.2 true)))) (zeq s.1 3 (zix t s.2 (zbd (Ym (r.1,r.b,(yi t s.2).1,(yi t s.2).b,0,0,0)) fun B=>zbd (jy (zG6 x ((yi t s.2).b))) fun C=>zbd (Ym (B.1,B.b,(yi t s.2).1,C,zF3 (yi t s.2).C)) fun D=>zan B.C D.C fun E=>zom (!E) (zbd (yV (D.1,D.b,r.C)) fun G=>zso (!G)) fun H=>zif H (zbd (yo x) fun I=>zso (zG6 I false)) (zso (D.1,D.b,zG4 r.C true)))) (zeq s.1 4 (zix x.c s.2 (zbd (WG (x.c,(yD x.c s.2).1)) fun J=>zom (!J.2) (zbd (yV (r.1,r.b,J.1,r.D)) fun K=>zso (!K)) fun L=>zif L (zbd (yo x) fun M=>zso (zG6 M false)) (zso (r.1,r.b,J.1,zG3 r.D true)))) (zom (!(s.1 !=0)) (zbd (yV r) fun N=>zso (!N)) fun O=>zif O (zbd (yo x) fun P=>zso (zG6 P false)) (zso (zG6 r true)))))))
theorem yH3:EV [q85,q86,yqw,yDW,yNE,yNF,yMe,yNG] lpN 189 Tryz.f189 yxN Z0 ypN YV:=fun x=>by kernel_rfl
def yNH:QF:=⟨189,YV,okN (n:=0) Tryz.func189 trivial yH3⟩
def W5 (x:List ya):Option (List ya):=nz (zbd (yI x) fun r=>zbd (za r) fun s=>zso s)
theorem yH4:EV [yqt,yDV] lpN 315 Tryz.f315 yxO [(.sl 89 yq)] [(.sl 89 yq)] W5:=fun x=>by kernel_rfl
def yNI:QF:=⟨315,W5,okN (n:=0) Tryz.func315 trivial yH4⟩
def J6 (x:ytO):Option y6M:=nz (zbd (jr (x.1,x.b)) fun r=>zbd (yE (x.C,0,zde x.b.z)) fun s=>zif s (zix x.b x.C (zbd (W5 (yk x.b x.C)) fun t=>zix r.2 x.C (zso (r.1,zup r.2 x.C t)))) (zso r))
theorem yH5:EV [q67,yGh,yNI] lpN 260 Tryz.f260 yxP ytP kI J6:=fun x=>by kernel_rfl
def yNJ:QF:=⟨260,J6,okN (n:=0) Tryz.func260 trivial yH5⟩
def YI (x:y6o):Option ypM:=nz (zbd (yo (x.1,x.b,x.c,x.d,x.e,x.f)) fun r=>zbd (yV (x.1,x.b,x.c,x.d,x.e,x.f)) fun s=>zom (!s) (zbd (yE (x.G,0,zde x.b.z)) fun t=>zso (!t)) fun u=>zif u (zso (zG6 r false)) (zbd (J6 (x.1,x.b,x.G)) fun v=>zso (v.1,v.2,zG4 r.C true)))
theorem yH6:EV [q67,q85,q86,yNJ] lpN 190 Tryz.f190 yxQ y6p ypN YI:=fun x=>by kernel_rfl
def yNK:QF:=⟨190,YI,okN (n:=0) Tryz.func190 trivial yH6⟩
abbrev KF:Type:=yuv
def ZU (k0:Qz9→Option R) (k1:Qz9→Option R) (a:KF→Option R) (x:KF):Option R:=nz (zlt x.b x.H.z (zix x.H x.b (zam ((yi x.H x.b).c==1) (zix x.H x.b (zso ((yi x.H x.b).d==x.1))) fun r=>zif r (zix x.H x.b (k0 (zF5 (yi x.H x.b)))) (a (x.1,zin x.b,zF6 x.C)))) (k1 (x.c,x.d,x.e,x.f,x.g)))
def Qv k0 k1:=zI (@ZU R k0 k1) zY
def JI (x:y6o):Option Qz9:=nz (zbd (yY (x.1,x.b)) fun r=>Qv (fun s=>zso s) (fun t=>zso (0,0,0,0,0)) (x.G,0,0,0,0,0,0,r))
def yrl:List QF:=[yqw]
def yaT (t:yuv):St:=⟨.dead::vI t.1::dd 2 (.box 4 0:: .own 10000000::vI t.2.1::dd 29 []),[(4,.box [vI t.2.2.1,vI t.2.2.2.1,vI t.2.2.2.2.1,vI t.2.2.2.2.2.1,vI t.2.2.2.2.2.2.1]),(10000000,.root true 91 yl t.2.2.2.2.2.2.2)]⟩
def yol:Gk KF:=fun κ=>ZU (fun t=>κ none ⟨dd 4 (.box 4 0::dd 31 []),[(4,.box [vI t.1,vI t.2.1,vI t.2.2.1,vI t.2.2.2.1,vI t.2.2.2.2])]⟩) (fun t=>κ (some 0) ⟨dd 4 (.box 4 0::dd 31 []),[(4,.box [vI t.1,vI t.2.1,vI t.2.2.1,vI t.2.2.2.1,vI t.2.2.2.2])]⟩)
def yrm:Lp:=lpC 3 (unG yuw yaT) @yol lpN
theorem yBj:LF yrl yrm 261 3 Tryz.f261 0 yaT @yol fun t=>t:=fun R κ again t=>by kernel_rfl
theorem yBk:LK yrl yrm 261 Tryz.f261 0:=lkN (u:=(unG yuw yaT)) (yn fun t=>by kernel_rfl) yBj
theorem yH7:EV yrl yrm 261 Tryz.f261 yxR y6p qz9 JI:=fun x=>by kernel_rfl
def yNL:QF:=⟨261,JI,okN (n:=1) Tryz.func261 ⟨yBk,trivial⟩ yH7⟩
def YJ (x:y6o):Option ypM:=nz (zbd (yo (x.1,x.b,x.c,x.d,x.e,x.f)) fun r=>zbd (yV (x.1,x.b,x.c,x.d,x.e,x.f)) fun s=>zom (!s) (zbd (yE (x.G,0,zde x.d.z)) fun t=>zso (!t)) fun u=>zom u (zix x.d x.G (zso (!((ym x.d x.G).b)))) fun v=>zif v (zso (zG6 r false)) (zbd (JI x) fun w=>zix x.d x.G (zbd (Yl (x.d,(ym x.d x.G).C)) fun p=>zor (!p.C) (decide (p.b>x.G)) fun q=>zif q (zso (zG6 r false)) (zix p.1 p.b (zbd (Ym (x.1,x.b,zT3 w (p.b,(ym p.1 p.b).1))) fun m=>zbd (ZT (p.1,x.G)) fun n=>zom (!m.C) (zbd (yV (m.1,m.b,r.c,n,r.E)) fun o=>zso (!o)) fun e=>zif e (zbd (yo (x.1,x.b,x.c,x.d,x.e,x.f)) fun f=>zso (zG6 f false)) (zso (m.1,m.b,r.c,n,r.e,r.F,true)))))))
theorem yH8:EV [q67,q85,q86,yGv,yDW,yNL,yGI] lpN 191 Tryz.f191 yxS y6p ypN YJ:=fun x=>by kernel_rfl
def yNM:QF:=⟨191,YJ,okN (n:=0) Tryz.func191 trivial yH8⟩
def kj (x:ylN):Option ypM:=nz (zeq x.g 7 (zbd (YV (x.1,x.b,x.c,x.d,x.e,x.f)) fun r=>zso r) (zeq x.g 8 (zbd (YI (zT6 x x.j)) fun s=>zso s) (zbd (YJ (zT6 x x.j)) fun t=>zso t)))
theorem yNN:EV [yNH,yNK,yNM] lpN 93 Tryz.f93 yLk ylO ypN kj:=fun x=>by kernel_rfl
def q93:QF:=⟨93,kj,okN (n:=0) Tryz.func93 trivial yNN⟩
def zQ (x:ylN):Option y6o:=nz (zbd (V0 x.G) fun r=>zom (!r) (zbd (yV (x.1,x.b,x.c,x.d,x.e,x.f)) fun s=>zso (!s)) fun t=>zif t (zbd (yo (x.1,x.b,x.c,x.d,x.e,x.f)) fun u=>zso (zG6 u 1)) (zeq x.g 1 (zbd (ju (zT6 x (x.h,x.j))) fun v=>zso v) (zeq x.g 2 (zbd (wX (zT6 x (x.h,x.i,x.K==1))) fun w=>zso w) (zeq x.g 3 (zbd (wY (zT6 x x.h)) fun p=>zso p) (zeq x.g 4 (zbd (Jx (zT6 x (x.h,x.J))) fun q=>zso q) (zeq x.g 5 (zbd (ZK (zT6 x (x.h,x.j))) fun m=>zso m) (zeq x.g 6 (zbd (jw (zT6 x (x.h,x.j))) fun n=>zso n) (zbd (kj x) fun o=>zif (!o.G) (zso (zT6 o 2)) (zso (zT6 o 0))))))))))
theorem yNO:EV [q84,q85,q86,q87,q88,q89,q90,q91,q92,q93] lpN 28 Tryz.f28 yLl ylO y6p zQ:=fun x=>by kernel_rfl
def q28:QF:=⟨28,zQ,okN (n:=0) Tryz.func28 trivial yNO⟩
def Jy (x:yEt):Option ypO:=nz (zbd (yb (zT3 x x.D.z)) fun r=>zix x.D r.1 (zso (yje x.D r.1,zF3 r.2)))
theorem yH9:EV [q51] lpN 145 Tryz.f145 yxT yEu ypP Jy:=fun x=>by kernel_rfl
def yDX:QF:=⟨145,Jy,okN (n:=0) Tryz.func145 trivial yH9⟩
def ZE (x:Qz1):Option ypO:=nz (zbd (Jy (zG3 x ([{data:= #[97]},{data:= #[98]},{data:= #[99]},{data:= #[100]},{data:= #[101,53]}]:List y03))) fun r=>zso r)
theorem yHa:EV [yDX] lpN 111 Tryz.f111 yxU qz1 ypP ZE:=fun x=>by kernel_rfl
def yNP:QF:=⟨111,ZE,okN (n:=0) Tryz.func111 trivial yHa⟩
def ZF (x:Qz1):Option Qz2:=nz (zbd (yb (zG3 x 200)) fun r=>zbd (yz (zG3 r.2 ([0,1,2,7,65535,zad 1 r.1]:List y9))) fun s=>zso s)
theorem yHb:EV [q49,q51] lpN 226 Tryz.f226 yxV qz1 qz2 ZF:=fun x=>by kernel_rfl
def yNQ:QF:=⟨226,ZF,okN (n:=0) Tryz.func226 trivial yHb⟩
def Y3 (x:Qz1):Option yux:=nz (zbd (yz (zG3 x ([1,1,1,2,2,3,4,4,4,4,4,4,5,6,7,7,8,9]:List y9))) fun r=>zlt r.1 7 (zbd (Jy (zG3 r.2 ([{data:= #[97]},{data:= #[97]},{data:= #[98]},{data:= #[99]},{data:= #[100]}]:List y03))) fun s=>zeq r.1 1 (zeq r.1 1 (zbd (yz (zG3 s.2 ([1,3,4,12,5]:List y9))) fun t=>zso (r.1,s.1,(⟨#[]⟩:ByteArray),t.1,0,zF3 t.2)) (zeq r.1 2 (zbd (ZE s.2) fun u=>zbd (yz (zG3 u.2 ([0,0,0,1]:List y9))) fun v=>zso (r.1,s.1,u.1,0,zF4 v)) (zeq r.1 4 (zbd (yb (zG3 s.2 5)) fun w=>zbd (ZF w.2) fun p=>zso (r.1,s.1,(⟨#[]⟩:ByteArray),w.1,zF4 p)) (zeq r.1 5 (zbd (yb (zG3 s.2 5)) fun q=>zso (r.1,s.1,(⟨#[]⟩:ByteArray),q.1,0,zF3 q.2)) (zeq r.1 8 (zeq r.1 8 (zbd (yb (zG3 s.2 6)) fun m=>zso (r.1,s.1,(⟨#[]⟩:ByteArray),m.1,0,zF3 m.2)) (zso (r.1,s.1,(⟨#[]⟩:ByteArray),0,0,zF3 s.2))) (zeq r.1 9 (zbd (yb (zG3 s.2 6)) fun n=>zso (r.1,s.1,(⟨#[]⟩:ByteArray),n.1,0,zF3 n.2)) (zso (r.1,s.1,(⟨#[]⟩:ByteArray),0,0,zF3 s.2)))))))) (zeq r.1 6 (zbd (yz (zG3 s.2 ([1,3,4,12,5]:List y9))) fun o=>zso (r.1,s.1,(⟨#[]⟩:ByteArray),o.1,0,zF3 o.2)) (zeq r.1 2 (zbd (ZE s.2) fun e=>zbd (yz (zG3 e.2 ([0,0,0,1]:List y9))) fun f=>zso (r.1,s.1,e.1,0,zF4 f)) (zeq r.1 4 (zbd (yb (zG3 s.2 5)) fun g=>zbd (ZF g.2) fun h=>zso (r.1,s.1,(⟨#[]⟩:ByteArray),g.1,zF4 h)) (zeq r.1 5 (zbd (yb (zG3 s.2 5)) fun i=>zso (r.1,s.1,(⟨#[]⟩:ByteArray),i.1,0,zF3 i.2)) (zeq r.1 8 (zeq r.1 8 (zbd (yb (zG3 s.2 6)) fun j=>zso (r.1,s.1,(⟨#[]⟩:ByteArray),j.1,0,zF3 j.2)) (zso (r.1,s.1,(⟨#[]⟩:ByteArray),0,0,zF3 s.2))) (zeq r.1 9 (zbd (yb (zG3 s.2 6)) fun l=>zso (r.1,s.1,(⟨#[]⟩:ByteArray),l.1,0,zF3 l.2)) (zso (r.1,s.1,(⟨#[]⟩:ByteArray),0,0,zF3 s.2))))))))) (zeq r.1 1 (zeq r.1 1 (zbd (yz (zG3 r.2 ([1,3,4,12,5]:List y9))) fun y=>zso (r.1,(⟨#[]⟩:ByteArray),(⟨#[]⟩:ByteArray),y.1,0,zF3 y.2)) (zeq r.1 2 (zbd (ZE r.2) fun z=>zbd (yz (zG3 z.2 ([0,0,0,1]:List y9))) fun b=>zso (r.1,(⟨#[]⟩:ByteArray),z.1,0,zF4 b)) (zeq r.1 4 (zbd (yb (zG3 r.2 5)) fun c=>zbd (ZF c.2) fun d=>zso (r.1,(⟨#[]⟩:ByteArray),(⟨#[]⟩:ByteArray),c.1,zF4 d)) (zeq r.1 5 (zbd (yb (zG3 r.2 5)) fun R=>zso (r.1,(⟨#[]⟩:ByteArray),(⟨#[]⟩:ByteArray),R.1,0,zF3 R.2)) (zeq r.1 8 (zeq r.1 8 (zbd (yb (zG3 r.2 6)) fun A=>zso (r.1,(⟨#[]⟩:ByteArray),(⟨#[]⟩:ByteArray),A.1,0,zF3 A.2)) (zso (r.1,(⟨#[]⟩:ByteArray),(⟨#[]⟩:ByteArray),0,0,zF3 r.2))) (zeq r.1 9 (zbd (yb (zG3 r.2 6)) fun B=>zso (r.1,(⟨#[]⟩:ByteArray),(⟨#[]⟩:ByteArray),B.1,0,zF3 B.2)) (zso (r.1,(⟨#[]⟩:ByteArray),(⟨#[]⟩:ByteArray),0,0,zF3 r.2)))))))) (zeq r.1 6 (zbd (yz (zG3 r.2 ([1,3,4,12,5]:List y9))) fun C=>zso (r.1,(⟨#[]⟩:ByteArray),(⟨#[]⟩:ByteArray),C.1,0,zF3 C.2)) (zeq r.1 2 (zbd (ZE r.2) fun D=>zbd (yz (zG3 D.2 ([0,0,0,1]:List y9))) fun E=>zso (r.1,(⟨#[]⟩:ByteArray),D.1,0,zF4 E)) (zeq r.1 4 (zbd (yb (zG3 r.2 5)) fun G=>zbd (ZF G.2) fun H=>zso (r.1,(⟨#[]⟩:ByteArray),(⟨#[]⟩:ByteArray),G.1,zF4 H)) (zeq r.1 5 (zbd (yb (zG3 r.2 5)) fun I=>zso (r.1,(⟨#[]⟩:ByteArray),(⟨#[]⟩:ByteArray),I.1,0,zF3 I.2)) (zeq r.1 8 (zeq r.1 8 (zbd (yb (zG3 r.2 6)) fun J=>zso (r.1,(⟨#[]⟩:ByteArray),(⟨#[]⟩:ByteArray),J.1,0,zF3 J.2)) (zso (r.1,(⟨#[]⟩:ByteArray),(⟨#[]⟩:ByteArray),0,0,zF3 r.2))) (zeq r.1 9 (zbd (yb (zG3 r.2 6)) fun K=>zso (r.1,(⟨#[]⟩:ByteArray),(⟨#[]⟩:ByteArray),K.1,0,zF3 K.2)) (zso (r.1,(⟨#[]⟩:ByteArray),(⟨#[]⟩:ByteArray),0,0,zF3 r.2))))))))))
theorem yHc:EV [q49,q51,yNP,yDX,yNQ] lpN 146 Tryz.f146 yxW qz1 yuy Y3:=fun x=>by kernel_rfl
def yDY:QF:=⟨146,Y3,okN (n:=0) Tryz.func146 trivial yHc⟩
def wx (x:Unit):Option y6M:=nz (zso (([0]:List y9),([([]:List ya)]:List y0)))
theorem yHd:EV [] lpN 274 Tryz.f274 yxX [] kI wx:=fun x=>by kernel_rfl
def yMf:QF:=⟨274,wx,okN (n:=0) Tryz.func274 trivial yHd⟩
def J7 (x:Unit):Option (List y6):=nz (if (0:Int)≤24 then if (24:Int)≤24 then if 24*((24:Nat):Int)≤140737488351232 then zso (List.replicate (Int.toNat 24) zv) else none else none else none)
theorem yHe:EV [] lpN 275 Tryz.f275 yxY [] [(.sl 85 yc)] J7:=fun x=>by kernel_rfl
def yMg:QF:=⟨275,J7,okN (n:=0) Tryz.func275 trivial yHe⟩
def VB (x:Unit):Option y7P:=nz (zbd (wx ()) fun r=>zbd (J7 ()) fun s=>zso (r.1,r.2,([]:List y7),s,([]:List yf),1))
theorem yHf:EV [yMf,yMg] lpN 212 Tryz.f212 yxZ [] Z0 VB:=fun x=>by kernel_rfl
def yNR:QF:=⟨212,VB,okN (n:=0) Tryz.func212 trivial yHf⟩
abbrev kL:Type:=yjk ⊕ yjl
def w5 (k0:yEv→Option R) (k1:yEw→Option R) (a:kL→Option R):kL→Option R
 | .inl x=>nz (zgt x.1 0 (zbd (Y3 (x.b,x.c,x.d)) fun r=>zbd (zQ (zG5 x.G (x.f,r.1,r.b,r.c,r.d,r.e))) fun s=>a (Sum.inr (zde x.1,zG3 r.F (x.e,zT3 s (s.f,s.d,s.e))))) (k0 x.2))
 | .inr x=>nz (zgt x.1 0 (zbd (Y3 (x.b,x.c,x.d)) fun r=>zbd (zQ (zT3 x.F (x.j,x.K,x.i,r.1,r.b,r.c,r.d,r.e))) fun s=>a (Sum.inr (zde x.1,zG3 r.F (x.e,zT3 s (s.f,s.d,s.e))))) (k1 x.2))
def y1O k0 k1:=zI (@w5 R k0 k1) zY
def kl (x:Qz3):Option yuB:=nz (zbd (VB ()) fun r=>zbd (yb (zT3 x (zin x.D))) fun s=>y1O (fun t=>zso (zG5 t.F (t.e,t.1,t.b,t.c))) (fun u=>zso (zT3 u.E (u.i,u.J,u.h,u.1,u.b,u.c))) (Sum.inl (zG4 s (0,r.F,r.1,r.b,r.c,r.d,r.e))))
def yjY:List QF:=[q28,q51,yDY,yNR]
def y6X (t:yjk):St:=⟨.box 900 0::dd 3 (.box 4 0:: .box 5 0::vI t.1::dd 17 []),[(900,.box [y64 t.2.1,vI t.2.2.1,vI t.2.2.2.1]),(4,.box [.nils,.nils,.nils,.nils,.nils,vI t.2.2.2.2.1]),(5,.box [.own 10000000,.own 10000001,.own 10000002,.own 10000003,.own 10000004,vI t.2.2.2.2.2.1]),(10000000,.root true 3 yg t.2.2.2.2.2.2.1),(10000001,.root true 88 yj t.2.2.2.2.2.2.2.1),(10000002,.root true 79 yh t.2.2.2.2.2.2.2.2.1),(10000003,.root true 85 yc t.2.2.2.2.2.2.2.2.2.1),(10000004,.root true 81 yt t.2.2.2.2.2.2.2.2.2.2)]⟩
theorem ymo: ∀ s t,unG yuz y6X s=some t→y6X t=s:=yn fun t=>by kernel_rfl
def y6Y (t:yjl):St:=⟨.box 900 0::dd 3 (.box 4 0:: .box 5 0::vI t.1::dd 17 []),[(900,.box [y64 t.2.1,vI t.2.2.1,vI t.2.2.2.1]),(4,.box [.nils,.nils,.nils,.nils,.nils,vI t.2.2.2.2.1]),(5,.box [z6 t.2.2.2.2.2.1,yA t.2.2.2.2.2.2.1,zl t.2.2.2.2.2.2.2.1,.own 10000000,.own 10000001,vI t.2.2.2.2.2.2.2.2.1]),(10000000,.root true 85 yc t.2.2.2.2.2.2.2.2.2.1),(10000001,.root true 81 yt t.2.2.2.2.2.2.2.2.2.2)]⟩
theorem ymp: ∀ s t,unG yuA y6Y s=some t→y6Y t=s:=yn fun t=>by kernel_rfl
def y6Z:(yjk ⊕ yjl)→St:=Sum.elim y6X y6Y
def yaU (s:St):Option (yjk ⊕ yjl):=((unG yuz y6X s).map Sum.inl).or (((unG yuA y6Y) s).map Sum.inr)
theorem ymq: ∀ s t,yaU s=some t→y6Z t=s:=y5x ymo ymp
def yh0:Gk kL:=fun κ=>w5 (fun t=>κ (some 0) ⟨.box 900 0::dd 3 (.box 4 0:: .box 5 0::dd 18 []),[(900,.box [y64 t.1,vI t.2.1,vI t.2.2.1]),(4,.box [.nils,.nils,.nils,.nils,.nils,vI t.2.2.2.1]),(5,.box [.own 10000000,.own 10000001,.own 10000002,.own 10000003,.own 10000004,vI t.2.2.2.2.1]),(10000000,.root true 3 yg t.2.2.2.2.2.1),(10000001,.root true 88 yj t.2.2.2.2.2.2.1),(10000002,.root true 79 yh t.2.2.2.2.2.2.2.1),(10000003,.root true 85 yc t.2.2.2.2.2.2.2.2.1),(10000004,.root true 81 yt t.2.2.2.2.2.2.2.2.2)]⟩) (fun t=>κ (some 0) ⟨.box 900 0::dd 3 (.box 4 0:: .box 5 0::dd 18 []),[(900,.box [y64 t.1,vI t.2.1,vI t.2.2.1]),(4,.box [.nils,.nils,.nils,.nils,.nils,vI t.2.2.2.1]),(5,.box [z6 t.2.2.2.2.1,yA t.2.2.2.2.2.1,zl t.2.2.2.2.2.2.1,.own 10000000,.own 10000001,vI t.2.2.2.2.2.2.2.1]),(10000000,.root true 85 yc t.2.2.2.2.2.2.2.2.1),(10000001,.root true 81 yt t.2.2.2.2.2.2.2.2.2)]⟩)
def yjZ:Lp:=lpC 3 yaU @yh0 lpN
theorem ymr:LF yjY yjZ 141 3 Tryz.f141 0 y6Z @yh0 fun v:yjk=> .inl v:=fun R κ again v=>by kernel_rfl
theorem yms:LF yjY yjZ 141 3 Tryz.f141 0 y6Z @yh0 fun v:yjl=> .inr v:=fun R κ again v=>by kernel_rfl
theorem yBl:LF yjY yjZ 141 3 Tryz.f141 0 y6Z @yh0 fun t=>t:=(LC.sum ymr yms)
theorem yBm:LK yjY yjZ 141 Tryz.f141 0:=lkN (u:=yaU) ymq yBl
theorem yHg:EV yjY yjZ 141 Tryz.f141 yy0 qz3 yuC kl:=fun x=>by kernel_rfl
def yNS:QF:=⟨141,kl,okN (n:=1) Tryz.func141 ⟨yBm,trivial⟩ yHg⟩
def Yv (x:Qz1):Option ypQ:=nz (zbd (yb (zG3 x 4)) fun r=>zbd (yb (zG3 r.2 5)) fun s=>zbd (yz (zG3 s.2 ([0,1,1,1,2]:List y9))) fun t=>zeq t.1 1 (zbd (yb (zG3 t.2 24)) fun u=>zbd (yz (zG3 u.2 ([0,1,256,999]:List y9))) fun v=>zso (r.1,zad 1 s.1,t.1,u.1,zF4 v)) (zso (r.1,zad 1 s.1,t.1,0,0,zF3 t.2)))
theorem yHh:EV [q49,q51] lpN 286 Tryz.f286 yy1 qz1 ypR Yv:=fun x=>by kernel_rfl
def yBn:QF:=⟨286,Yv,okN (n:=0) Tryz.func286 trivial yHh⟩
def VS (x:Qz1):Option ypQ:=nz (zbd (Yv x) fun r=>zbd (yb (zG3 r.F 12)) fun s=>zso (s.1,zT4 r.2 s.2))
theorem yHi:EV [q51,yBn] lpN 283 Tryz.f283 yy2 qz1 ypR VS:=fun x=>by kernel_rfl
def yNT:QF:=⟨283,VS,okN (n:=0) Tryz.func283 trivial yHi⟩
abbrev KG:Type:=yuD
def KH (k0:yEx→Option R) (a:KG→Option R) (x:KG):Option R:=nz (zgt x.1 0 (zbd (VS (x.b,x.c,x.d)) fun r=>zbd (Ym (x.e,x.F,r.1,r.b,r.c,r.d,r.e)) fun s=>a (zde x.1,zG3 r.F (s.1,s.b))) (k0 x.2))
def y2x k0:=zI (@KH R k0) zY
def KI (x:Qz3):Option yuF:=nz (zbd (wx ()) fun r=>zbd (yb (zT3 x (zin x.D))) fun s=>y2x (fun t=>zso (t.d,t.E,t.1,t.b,t.c)) (zG4 s r))
def yrn:List QF:=[q51,yDW,yMf,yNT]
def yaV (t:yuD):St:=⟨.box 900 0::dd 3 (.box 4 0:: .box 5 0::vI t.1::dd 17 []),[(900,.box [y64 t.2.1,vI t.2.2.1,vI t.2.2.2.1]),(4,.box [.nils,.nils]),(5,.box [.own 10000000,.own 10000001]),(10000000,.root true 3 yg t.2.2.2.2.1),(10000001,.root true 88 yj t.2.2.2.2.2)]⟩
def yom:Gk KG:=fun κ=>KH (fun t=>κ (some 0) ⟨.box 900 0::dd 3 (.box 4 0:: .box 5 0::dd 18 []),[(900,.box [y64 t.1,vI t.2.1,vI t.2.2.1]),(4,.box [.nils,.nils]),(5,.box [.own 10000000,.own 10000001]),(10000000,.root true 3 yg t.2.2.2.1),(10000001,.root true 88 yj t.2.2.2.2)]⟩)
def yro:Lp:=lpC 3 (unG yuE yaV) @yom lpN
theorem yBo:LF yrn yro 222 3 Tryz.f222 0 yaV @yom fun t=>t:=fun R κ again t=>by kernel_rfl
theorem yBp:LK yrn yro 222 Tryz.f222 0:=lkN (u:=(unG yuE yaV)) (yn fun t=>by kernel_rfl) yBo
theorem yHj:EV yrn yro 222 Tryz.f222 yy3 qz3 yuG KI:=fun x=>by kernel_rfl
def yNU:QF:=⟨222,KI,okN (n:=1) Tryz.func222 ⟨yBp,trivial⟩ yHj⟩
abbrev KJ:Type:=Qz2 ⊕ yjm
def W6 (k0:Qz1→Option R) (k1:yEy→Option R) (a:KJ→Option R):KJ→Option R
 | .inl x=>nz (zgt x.1 0 (zbd (Yv x.2) fun r=>zbd (ZJ (([]:List ya),r.1,r.b,r.c,r.d,r.e)) fun s=>a (Sum.inr (zde x.1,zG3 r.F s.1))) (k0 x.2))
 | .inr x=>nz (zgt x.1 0 (zbd (Yv (x.b,x.c,x.d)) fun r=>zbd (ZJ (x.E,r.1,r.b,r.c,r.d,r.e)) fun s=>a (Sum.inr (zde x.1,zG3 r.F s.1))) (k1 x.2))
def y2y k0 k1:=zI (@W6 R k0 k1) zY
def KK (x:Qz1):Option yuI:=nz (zbd (yb (zG3 x 12)) fun r=>y2y (fun s=>zso (([]:List ya),zF3 s)) (fun t=>zso (t.D,t.1,t.b,t.c)) (Sum.inl r))
def yk0:List QF:=[q51,yBn,yM8]
def y70 (t:Qz2):St:=⟨.box 900 0:: .dead:: .box 2 0:: .box 3 0::vI t.1::dd 15 [],[(900,.box [y64 t.2.1,vI t.2.2.1,vI t.2.2.2]),(2,.box [.nils]),(3,.box [.nils])]⟩
theorem ymt: ∀ s t,unG qz2 y70 s=some t→y70 t=s:=yn fun t=>by kernel_rfl
def y71 (t:yjm):St:=⟨.box 900 0:: .dead:: .box 2 0:: .box 3 0::vI t.1::dd 15 [],[(900,.box [y64 t.2.1,vI t.2.2.1,vI t.2.2.2.1]),(2,.box [.nils]),(3,.box [.own 10000000]),(10000000,.root true 89 yq t.2.2.2.2)]⟩
theorem ymu: ∀ s t,unG yuH y71 s=some t→y71 t=s:=yn fun t=>by kernel_rfl
def y72:(Qz2 ⊕ yjm)→St:=Sum.elim y70 y71
def yaW (s:St):Option (Qz2 ⊕ yjm):=((unG qz2 y70 s).map Sum.inl).or (((unG yuH y71) s).map Sum.inr)
theorem ymv: ∀ s t,yaW s=some t→y72 t=s:=y5x ymt ymu
def yh1:Gk KJ:=fun κ=>W6 (fun t=>κ (some 0) ⟨.box 900 0:: .dead:: .box 2 0:: .box 3 0::dd 16 [],[(900,.box [y64 t.1,vI t.2.1,vI t.2.2]),(2,.box [.nils]),(3,.box [.nils])]⟩) (fun t=>κ (some 0) ⟨.box 900 0:: .dead:: .box 2 0:: .box 3 0::dd 16 [],[(900,.box [y64 t.1,vI t.2.1,vI t.2.2.1]),(2,.box [.nils]),(3,.box [.own 10000000]),(10000000,.root true 89 yq t.2.2.2)]⟩)
def yk1:Lp:=lpC 3 yaW @yh1 lpN
theorem ymw:LF yk0 yk1 284 3 Tryz.f284 0 y72 @yh1 fun v:Qz2=> .inl v:=fun R κ again v=>by kernel_rfl
theorem ymx:LF yk0 yk1 284 3 Tryz.f284 0 y72 @yh1 fun v:yjm=> .inr v:=fun R κ again v=>by kernel_rfl
theorem yBq:LF yk0 yk1 284 3 Tryz.f284 0 y72 @yh1 fun t=>t:=(LC.sum ymw ymx)
theorem yBr:LK yk0 yk1 284 Tryz.f284 0:=lkN (u:=yaW) ymv yBq
theorem yHk:EV yk0 yk1 284 Tryz.f284 yy4 qz1 yuJ KK:=fun x=>by kernel_rfl
def yNV:QF:=⟨284,KK,okN (n:=1) Tryz.func284 ⟨yBr,trivial⟩ yHk⟩
abbrev KL:Type:=yuK
def KM (k0:yEz→Option R) (a:KL→Option R) (x:KL):Option R:=nz (zgt x.1 0 (zbd (Yv (x.b,x.c,x.d)) fun r=>zbd (zT (x.E,r.1,r.b,r.c,r.d,r.e)) fun s=>a (zde x.1,zG3 r.F s)) (k0 x.2))
def y2z k0:=zI (@KM R k0) zY
def KN (x:Qz3):Option yuM:=nz (zbd (yb (zT3 x (zin x.D))) fun r=>y2z (fun s=>zso (s.D,s.1,s.b,s.c)) (zG4 r ([]:List y8)))
def yrp:List QF:=[q51,yBn,yDU]
def yaX (t:yuK):St:=⟨.box 900 0::dd 4 (.own 10000000::vI t.1::dd 14 []),[(900,.box [y64 t.2.1,vI t.2.2.1,vI t.2.2.2.1]),(10000000,.root true 91 yl t.2.2.2.2)]⟩
def yon:Gk KL:=fun κ=>KM (fun t=>κ (some 0) ⟨.box 900 0::dd 4 (.own 10000000::dd 15 []),[(900,.box [y64 t.1,vI t.2.1,vI t.2.2.1]),(10000000,.root true 91 yl t.2.2.2)]⟩)
def yrq:Lp:=lpC 3 (unG yuL yaX) @yon lpN
theorem yBs:LF yrp yrq 324 3 Tryz.f324 0 yaX @yon fun t=>t:=fun R κ again t=>by kernel_rfl
theorem yBt:LK yrp yrq 324 Tryz.f324 0:=lkN (u:=(unG yuL yaX)) (yn fun t=>by kernel_rfl) yBs
theorem yHl:EV yrp yrq 324 Tryz.f324 yy5 qz3 yuN KN:=fun x=>by kernel_rfl
def yNW:QF:=⟨324,KN,okN (n:=1) Tryz.func324 ⟨yBt,trivial⟩ yHl⟩
def VT (x:Qz1):Option ypQ:=nz (zbd (Yv x) fun r=>zbd (yb (zG3 r.F 12)) fun s=>zeq s.1 0 (zbd (yz (zG3 s.2 ([-1,15,16]:List y9))) fun t=>zso (t.1,zT4 r.2 t.2)) (zeq s.1 1 (zbd (yz (zG3 s.2 ([0,60,61]:List y9))) fun u=>zso (r.1,u.1,zT3 r.C u.2)) (zeq s.1 2 (zbd (yz (zG3 s.2 ([-1,3]:List y9))) fun v=>zso (r.1,r.b,v.1,r.d,r.e,v.2)) (zeq s.1 3 (zbd (yz (zG3 s.2 ([-1,1,23,24]:List y9))) fun w=>zso (zT3 r (w.1,r.e,w.2))) (zeq s.1 4 (zbd (yz (zG3 s.2 ([-1,1,999,1000]:List y9))) fun p=>zso (zT4 r p)) (zso (zT5 r s.2)))))))
theorem yHm:EV [q49,q51,yBn] lpN 325 Tryz.f325 yy6 qz1 ypR VT:=fun x=>by kernel_rfl
def yNX:QF:=⟨325,VT,okN (n:=0) Tryz.func325 trivial yHm⟩
def VU (x:Qz3):Option yuM:=nz (zbd (KN x) fun r=>zbd (yb (zG3 r.2 8)) fun s=>zeq s.1 0 (zbd (VT s.2) fun t=>zgd r.1 ([(t.1,t.b,t.c,t.d,t.e)]:List y8) 40 (zso (r.1++([(t.1,t.b,t.c,t.d,t.e)]:List y8),zF3 t.F))) (zeq s.1 1 (zgt r.1.z 1 (zix r.1 0 (zix r.1 1 (zix r.1 0 (if (0:Int)≤1 then if 1<((List.length (zup r.1 0 (zF5 (yi r.1 1))):Nat):Int) then zso (zup (zup r.1 0 (zF5 (yi r.1 1))) 1 (zF5 (yi r.1 0)),zF3 s.2) else none else none)))) (zso (r.1,s.2))) (zso (r.1,s.2))))
theorem yHn:EV [q51,yNW,yNX] lpN 285 Tryz.f285 yy7 qz3 yuN VU:=fun x=>by kernel_rfl
def yNY:QF:=⟨285,VU,okN (n:=0) Tryz.func285 trivial yHn⟩
def K3 (x:Qz1):Option yuI:=nz (zbd (KK x) fun r=>zbd (yb (zG3 r.2 8)) fun s=>zeq s.1 0 (zbd (VU (zG3 s.2 6)) fun t=>zgd r.1 ([t.1]:List ya) 24 (zso (r.1++([t.1]:List ya),zF3 t.2))) (zeq s.1 1 (zbd (Yv s.2) fun u=>zbd (Yv u.F) fun v=>zgd r.1 ([([(u.1,u.b,u.c,u.d,u.e)]:List y8),([(v.1,v.b,v.c,v.d,v.e)]:List y8)]:List ya) 24 (zso (r.1++([([(u.1,u.b,u.c,u.d,u.e)]:List y8),([(v.1,v.b,v.c,v.d,v.e)]:List y8)]:List ya),zF3 v.F))) (zso (r.1,s.2))))
theorem yHo:EV [q51,yNV,yNY,yBn] lpN 223 Tryz.f223 yy8 qz1 yuJ K3:=fun x=>by kernel_rfl
def yNZ:QF:=⟨223,K3,okN (n:=0) Tryz.func223 trivial yHo⟩
def VV (x:Qz3):Option yuF:=nz (zbd (KI x) fun r=>zbd (yb (zG3 r.C 12)) fun s=>zeq s.1 0 (zbd (yb (zG3 s.2 r.1.z)) fun t=>zbd (yz (zG3 t.2 ([0,-1,1,300]:List y9))) fun u=>zix r.1 t.1 (zso (zup r.1 t.1 u.1,r.b,zF3 u.2))) (zeq s.1 1 (zbd (K3 s.2) fun v=>zgd r.b ([v.1]:List y0) 24 (zso (r.1,r.b++([v.1]:List y0),zF3 v.2))) (zeq s.1 2 (zbd (yb (zG3 s.2 r.b.z)) fun w=>zbd (K3 w.2) fun p=>zix r.b w.1 (zso (r.1,zup r.b w.1 p.1,zF3 p.2))) (zeq s.1 3 (zso (([]:List y9),([]:List y0),zF3 s.2)) (zso (r.1,r.b,s.2))))))
theorem yHp:EV [q49,q51,yNU,yNZ] lpN 142 Tryz.f142 yy9 qz3 yuG VV:=fun x=>by kernel_rfl
def yO0:QF:=⟨142,VV,okN (n:=0) Tryz.func142 trivial yHp⟩
def WH (x:Qz3):Option yEA:=nz (zbd (yb x) fun r=>zso (r.1==0,zF3 r.2))
theorem yO1:EV [q51] lpN 47 Tryz.f47 yLm qz3 yEB WH:=fun x=>by kernel_rfl
def q47:QF:=⟨47,WH,okN (n:=0) Tryz.func47 trivial yO1⟩
abbrev KO:Type:=ylP
def KP (k0:yuO→Option R) (a:KO→Option R) (x:KO):Option R:=nz (zgt x.1 0 (zgt x.E.z 0 (zbd (WH (zT3 x.2 4)) fun r=>zif (!r.1) (zbd (yb (zG3 r.2 x.E.z)) fun s=>zix x.E s.1 (zbd (yb (zG3 s.2 8)) fun t=>zbd (Y7 (x.E,zad 1 t.1,(yD x.E s.1).1)) fun u=>a (zde x.1,zG3 t.2 u.1))) (zbd (yb (zG3 r.2 8)) fun v=>zbd (Y7 (x.E,zad 1 v.1,0)) fun w=>a (zde x.1,zG3 v.2 w.1))) (zbd (yb (zT3 x.2 8)) fun p=>zbd (Y7 (x.E,zad 1 p.1,0)) fun q=>a (zde x.1,zG3 p.2 q.1))) (k0 x.2))
def y2A k0:=zI (@KP R k0) zY
def KQ (x:Qz1):Option yuP:=nz (zbd (yb (zG3 x 8)) fun r=>y2A (fun s=>zso (s.D,s.1,s.b,s.c)) (zG4 r ([]:List y7)))
def yrr:List QF:=[q47,q51,yGo]
def yaY (t:ylP):St:=⟨.box 900 0::dd 2 (.own 10000000::vI t.1::dd 34 []),[(900,.box [y64 t.2.1,vI t.2.2.1,vI t.2.2.2.1]),(10000000,.root true 79 yh t.2.2.2.2)]⟩
def yoo:Gk KO:=fun κ=>KP (fun t=>κ (some 0) ⟨.box 900 0::dd 2 (.own 10000000::dd 35 []),[(900,.box [y64 t.1,vI t.2.1,vI t.2.2.1]),(10000000,.root true 79 yh t.2.2.2)]⟩)
def yrs:Lp:=lpC 3 (unG ylQ yaY) @yoo lpN
theorem yBu:LF yrr yrs 224 3 Tryz.f224 0 yaY @yoo fun t=>t:=fun R κ again t=>by kernel_rfl
theorem yBv:LK yrr yrs 224 Tryz.f224 0:=lkN (u:=(unG ylQ yaY)) (yn fun t=>by kernel_rfl) yBu
theorem yHq:EV yrr yrs 224 Tryz.f224 yya qz1 yuQ KQ:=fun x=>by kernel_rfl
def yO2:QF:=⟨224,KQ,okN (n:=1) Tryz.func224 ⟨yBv,trivial⟩ yHq⟩
abbrev KR:Type:=ylP
def KS (k0:yuO→Option R) (a:KR→Option R) (x:KR):Option R:=nz (zlt x.1 14 (zgd x.E ([(zad 20 x.1,0)]:List y7) 16 (a (zin x.1,zT3 x.2 (x.E++([(zad 20 x.1,0)]:List y7))))) (k0 x.2))
def y2B k0:=zI (@KS R k0) zY
def VW (x:Qz1):Option yuP:=nz (zbd (KQ x) fun r=>zbd (yb (zG3 r.2 8)) fun s=>zeq s.1 0 (zbd (yz (zG3 s.2 ([0,3,60,61]:List y9))) fun t=>zbd (yz (zG3 t.2 ([0,1,9,-1]:List y9))) fun u=>zgd r.1 ([(t.1,u.1)]:List y7) 16 (zso (r.1++([(t.1,u.1)]:List y7),zF3 u.2))) (zeq s.1 1 (zgt r.1.z 0 (zbd (yz (zG3 s.2 ([1,2,3]:List y9))) fun v=>zix r.1 0 (zso (zup r.1 0 ((yD r.1 0).1,v.1),zF3 v.2))) (zso (r.1,s.2))) (zeq s.1 2 (y2B (fun w=>zso (w.D,w.1,w.b,w.c)) (0,zG3 s.2 r.1)) (zso (r.1,s.2)))))
def yrt:List QF:=[q49,q51,yO2]
def y7T (t:ylP):St:=⟨.box 900 0::dd 2 (.own 10000000::vI t.1::dd 40 []),[(900,.box [y64 t.2.1,vI t.2.2.1,vI t.2.2.2.1]),(10000000,.root true 79 yh t.2.2.2.2)]⟩
def yk2:Gk KR:=fun κ=>KS (fun t=>κ (some 1) ⟨.box 900 0::dd 2 (.own 10000000::dd 41 []),[(900,.box [y64 t.1,vI t.2.1,vI t.2.2.1]),(10000000,.root true 79 yh t.2.2.2)]⟩)
def yru:Lp:=lpC 10 (unG ylQ y7T) @yk2 lpN
theorem yrv:LF yrt yru 143 10 Tryz.f143 0 y7T @yk2 fun t=>t:=fun R κ again t=>by kernel_rfl
theorem yrw:LK yrt yru 143 Tryz.f143 0:=lkN (u:=(unG ylQ y7T)) (yn fun t=>by kernel_rfl) yrv
theorem yHr:EV yrt yru 143 Tryz.f143 yyb qz1 yuQ VW:=fun x=>by kernel_rfl
def yO3:QF:=⟨143,VW,okN (n:=1) Tryz.func143 ⟨yrw,trivial⟩ yHr⟩
abbrev KT:Type:=yuR
def KU (k0:yEC→Option R) (a:KT→Option R) (x:KT):Option R:=nz (zgt x.1 0 (zbd (WH (zT3 x.2 3)) fun r=>zif r.1 (zbd (yb (zG3 r.2 6)) fun s=>zbd (ZT (x.E,s.1)) fun t=>a (zde x.1,zG3 s.2 t)) (zbd (yz (zG3 r.2 ([0,5,65535]:List y9))) fun u=>zbd (Yl (x.E,u.1)) fun v=>a (zde x.1,zG3 u.2 v.1))) (k0 x.2))
def y2C k0:=zI (@KU R k0) zY
def KV (x:Qz1):Option yuT:=nz (zbd (J7 ()) fun r=>zbd (yb (zG3 x 30)) fun s=>y2C (fun t=>zso (t.D,t.1,t.b,t.c)) (zG4 s r))
def yrx:List QF:=[q47,q49,q51,yGv,yGI,yMg]
def yaZ (t:yuR):St:=⟨.box 900 0::dd 2 (.own 10000000::vI t.1::dd 23 []),[(900,.box [y64 t.2.1,vI t.2.2.1,vI t.2.2.2.1]),(10000000,.root true 85 yc t.2.2.2.2)]⟩
def yop:Gk KT:=fun κ=>KU (fun t=>κ (some 0) ⟨.box 900 0::dd 2 (.own 10000000::dd 24 []),[(900,.box [y64 t.1,vI t.2.1,vI t.2.2.1]),(10000000,.root true 85 yc t.2.2.2)]⟩)
def yry:Lp:=lpC 3 (unG yuS yaZ) @yop lpN
theorem yBw:LF yrx yry 225 3 Tryz.f225 0 yaZ @yop fun t=>t:=fun R κ again t=>by kernel_rfl
theorem yBx:LK yrx yry 225 Tryz.f225 0:=lkN (u:=(unG yuS yaZ)) (yn fun t=>by kernel_rfl) yBw
theorem yHs:EV yrx yry 225 Tryz.f225 yyc qz1 yuU KV:=fun x=>by kernel_rfl
def yO4:QF:=⟨225,KV,okN (n:=1) Tryz.func225 ⟨yBx,trivial⟩ yHs⟩
def VX (x:Qz1):Option yuT:=nz (zbd (KV x) fun r=>zbd (yb (zG3 r.2 10)) fun s=>zeq s.1 0 (zsl 1 r.1.z r.1.z (zso (zcu r.1 1 r.1.z,zF3 s.2))) (zeq s.1 1 (zbd (yb (zG3 s.2 r.1.z)) fun t=>zbd (yz (zG3 t.2 ([-1,999,1000]:List y9))) fun u=>zix r.1 t.1 (zso (zup r.1 t.1 (u.1,(ym r.1 t.1).2),zF3 u.2))) (zeq s.1 2 (zbd (yb (zG3 s.2 r.1.z)) fun v=>zbd (yz (zG3 v.2 ([-1,5,65536]:List y9))) fun w=>zix r.1 v.1 (zso (zup r.1 v.1 ((ym r.1 v.1).1,(ym r.1 v.1).b,w.1),zF3 w.2))) (zeq s.1 3 (zix r.1 0 (zso (zup r.1 0 (999,(ym r.1 0).2),zF3 s.2))) (zso (r.1,s.2))))))
theorem yHt:EV [q49,q51,yO4] lpN 144 Tryz.f144 yyd qz1 yuU VX:=fun x=>by kernel_rfl
def yO5:QF:=⟨144,VX,okN (n:=0) Tryz.func144 trivial yHt⟩
def WI (x:Qz3):Option yuB:=nz (zbd (kl x) fun r=>zbd (yb (zG3 r.G 20)) fun s=>zeq s.1 0 (zbd (VV (zG3 s.2 6)) fun t=>zso (t.1,t.b,zT4 r.C t.C)) (zeq s.1 1 (zbd (VW s.2) fun u=>zso (r.1,r.b,u.1,zT3 r.D u.2)) (zeq s.1 2 (zbd (VX s.2) fun v=>zso (zT3 r (v.1,r.e,r.f,v.2))) (zeq s.1 3 (zbd (Jy (zG3 s.2 ([{data:= #[97]},{data:= #[122,122]},{data:= #[65]}]:List y03))) fun w=>zbd (yb (zG3 w.2 4)) fun p=>zbd (yz (zG3 p.2 ([0,1,13]:List y9))) fun q=>zgd r.e ([(w.1,zad 1 p.1,q.1,false)]:List yf) 40 (zso (zT4 r (r.e++([(w.1,zad 1 p.1,q.1,false)]:List yf),r.f,zF3 q.2)))) (zeq s.1 4 (zbd (yz (zG3 s.2 ([0,1,60,61,62]:List y9))) fun m=>zso (zT5 r m)) (zeq s.1 5 (zbd (yb (zG3 s.2 r.d.z)) fun n=>zix r.d n.1 (zso (zT3 r (zup r.d n.1 ((ym r.d n.1).1,true,(ym r.d n.1).C),r.e,r.f,zF3 n.2)))) (zeq s.1 6 (zgt r.e.z 0 (zbd (yb (zG3 s.2 6)) fun o=>zix r.e 0 (zso (zT4 r (zup r.e 0 ((yd r.e 0).1,zad 1 o.1,(yd r.e 0).C),r.f,zF3 o.2)))) (zso (zT6 r s.2))) (zso (zT6 r s.2)))))))))
theorem yO6:EV [q49,q51,yNS,yO0,yO3,yO5,yDX] lpN 69 Tryz.f69 yLn qz3 yuC WI:=fun x=>by kernel_rfl
def q69:QF:=⟨69,WI,okN (n:=0) Tryz.func69 trivial yO6⟩
abbrev KW:Type:=yuV
def KX (k0:yED→Option R) (a:KW→Option R) (x:KW):Option R:=nz (zgt x.1 0 (zbd (Y3 (x.b,x.c,x.d)) fun r=>zgd x.E ([(r.1,r.b,r.c,r.d,r.e)]:List y5f) 56 (a (zde x.1,zG3 r.F (x.E++([(r.1,r.b,r.c,r.d,r.e)]:List y5f))))) (k0 x.2))
def y2D k0:=zI (@KX R k0) zY
def KY (x:Qz3):Option yEE:=nz (zbd (yb (zT3 x (zin x.D))) fun r=>y2D (fun s=>zso (s.D,s.1,s.b,s.c)) (zG4 r ([]:List y5f)))
def yHu:List QF:=[q51,yDY]
def yfy (t:yuV):St:=⟨.box 900 0::dd 4 (.own 10000000::vI t.1::dd 15 []),[(900,.box [y64 t.2.1,vI t.2.2.1,vI t.2.2.2.1]),(10000000,.root true 63 y2e t.2.2.2.2)]⟩
def yBy:Gk KW:=fun κ=>KX (fun t=>κ (some 0) ⟨.box 900 0::dd 4 (.own 10000000::dd 16 []),[(900,.box [y64 t.1,vI t.2.1,vI t.2.2.1]),(10000000,.root true 63 y2e t.2.2.2)]⟩)
def yHv:Lp:=lpC 3 (unG yuW yfy) @yBy lpN
theorem yHw:LF yHu yHv 70 3 Tryz.f70 0 yfy @yBy fun t=>t:=fun R κ again t=>by kernel_rfl
theorem yHx:LK yHu yHv 70 Tryz.f70 0:=lkN (u:=(unG yuW yfy)) (yn fun t=>by kernel_rfl) yHw
theorem yO7:EV yHu yHv 70 Tryz.f70 yLo qz3 yEF KY:=fun x=>by kernel_rfl
def q70:QF:=⟨70,KY,okN (n:=1) Tryz.func70 ⟨yHx,trivial⟩ yO7⟩
def ZV (x:List qN):Option ypS:=nz (zbd (K0 x) fun r=>zbd (WI (zG3 r 4)) fun s=>zbd (Wy (x,12)) fun t=>zbd (KY (zG3 s.G t)) fun u=>zso (zT6 s u.1))
theorem yO8:EV [q45,q56,q69,q70] lpN 24 Tryz.f24 yLp [(.sl 5 Zo)] ypT ZV:=fun x=>by kernel_rfl
def q24:QF:=⟨24,ZV,okN (n:=0) Tryz.func24 trivial yO8⟩
def yx (x:Qz5):Option Bool:=nz (zan (decide (x.1≥x.b)) (decide (x.1≤x.C)) fun r=>zso r)
theorem yO9:EV [] lpN 35 Tryz.f35 yLq qz5 [.bool] yx:=fun x=>by kernel_rfl
def q35:QF:=⟨35,yx,okN (n:=0) Tryz.func35 trivial yO9⟩
def K4 (x:Qz9):Option Bool:=nz (zbd (yx (x.1,0,15)) fun r=>zom (!r) (zbd (yx (x.b,1,60)) fun s=>zso (!s)) fun t=>zom t (zbd (yx (x.c,0,2)) fun u=>zso (!u)) fun v=>zif v (zso false) (zne x.c 1 (zan (x.d==0) (x.E==0) fun w=>zso w) (zbd (yx (x.d,0,23)) fun p=>zam p (zbd (yx (x.E,0,999)) fun q=>zso q) fun m=>zso m)))
theorem yHy:EV [q35] lpN 117 Tryz.f117 yye qz9 [.bool] K4:=fun x=>by kernel_rfl
def yMh:QF:=⟨117,K4,okN (n:=0) Tryz.func117 trivial yHy⟩
def wy (x:yDA):Option Bool:=nz (zom (decide (x.1<x.f)) (zan (x.1==x.f) (decide (x.b<x.g)) fun r=>zso r) fun s=>zso s)
theorem yHz:EV [] lpN 318 Tryz.f318 yyf yDB [.bool] wy:=fun x=>by kernel_rfl
def yMi:QF:=⟨318,wy,okN (n:=0) Tryz.func318 trivial yHz⟩
abbrev y0r:Type:=yuX
def km (k0:yJU→Option R) (k1:List y8→Option R) (a:y0r→Option R) (x:y0r):Option R:=nz (zlt x.D x.c (zix x.b x.D (zbd (K4 (zF5 (yi x.b x.D))) fun r=>zom (!r) (zam (decide (x.D>0)) (zix x.1 (zde x.D) (zbd (wy (zG5 (yi x.1 (zde x.D)) (zF5 (yi x.b x.D)))) fun s=>zso (!s))) fun t=>zso t) fun u=>zif u (k0 (x.1,false)) (a (zT3 x (zin x.D))))) (k1 x.1))
def y3M k0 k1:=zI (@km R k0 k1) zY
def VY (x:List y8):Option Bool:=nz (y3M (fun r=>zso r.2) (fun s=>zso (decide (s.z≤60))) (x,x,x.z,0))
def yrz:List QF:=[yMh,yMi]
def yb0 (t:yuX):St:=⟨y0M t.1::dd 4 (y0M t.2.1::vI t.2.2.1::vI t.2.2.2::dd 25 []),[]⟩
def yoq:Gk y0r:=fun κ=>km (fun t=>κ none ⟨y0M t.1:: .dead::vB t.2::dd 30 [],[]⟩) (fun t=>κ (some 0) ⟨y0M t::dd 32 [],[]⟩)
def yrA:Lp:=lpC 2 (unG yuY yb0) @yoq lpN
theorem yBz:LF yrz yrA 267 2 Tryz.f267 0 yb0 @yoq fun t=>t:=fun R κ again t=>by kernel_rfl
theorem yBA:LK yrz yrA 267 Tryz.f267 0:=lkN (u:=(unG yuY yb0)) (yn fun t=>by kernel_rfl) yBz
theorem yHA:EV yrz yrA 267 Tryz.f267 yyg [(.sl 91 yl)] [.bool] VY:=fun x=>by kernel_rfl
def yOa:QF:=⟨267,VY,okN (n:=1) Tryz.func267 ⟨yBA,trivial⟩ yHA⟩
abbrev Qw:Type:=yuZ
def W7 (k0:yEG→Option R) (k1:ynD→Option R) (a:Qw→Option R) (x:Qw):Option R:=nz (zlt x.d x.c (zix x.b x.d (zbd (VY (yu x.b x.d)) fun r=>zor (!r) ((yu x.b x.d).z==0) fun s=>zif s (k0 (false,x.1,x.E)) (a (zad x.1 ((yu x.b x.d).z),x.b,x.c,zin x.d,x.E)))) (k1 (x.1,x.E)))
def y2E k0 k1:=zI (@W7 R k0 k1) zY
def Y9 (x:List ya):Option Bool:=nz (y2E (fun r=>zso r.1) (fun s=>zan (decide (s.2.z≤3)) (decide (s.1≤8)) fun t=>zso t) (0,x,x.z,0,x))
def yrB:List QF:=[yOa]
def yb1 (t:yuZ):St:=⟨.dead:: .box 1 0:: .dead::vI t.1::dd 3 (Zh t.2.1::vI t.2.2.1::vI t.2.2.2.1::dd 24 []),[(1,.box [Zh t.2.2.2.2])]⟩
def yor:Gk Qw:=fun κ=>W7 (fun t=>κ none ⟨.dead:: .box 1 0::vB t.1::vI t.2.1::dd 30 [],[(1,.box [Zh t.2.2])]⟩) (fun t=>κ (some 0) ⟨.dead:: .box 1 0:: .dead::vI t.1::dd 30 [],[(1,.box [Zh t.2])]⟩)
def yrC:Lp:=lpC 3 (unG yv0 yb1) @yor lpN
theorem yBB:LF yrB yrC 201 3 Tryz.f201 0 yb1 @yor fun t=>t:=fun R κ again t=>by kernel_rfl
theorem yBC:LK yrB yrC 201 Tryz.f201 0:=lkN (u:=(unG yv0 yb1)) (yn fun t=>by kernel_rfl) yBB
theorem yHB:EV yrB yrC 201 Tryz.f201 yyh [(.sl 89 yq)] [.bool] Y9:=fun x=>by kernel_rfl
def yMj:QF:=⟨201,Y9,okN (n:=1) Tryz.func201 ⟨yBC,trivial⟩ yHB⟩
def jA (x:yiq):Option Int:=nz (zso (zad (zml 64 x.1) x.2))
theorem yHC:EV [] lpN 242 Tryz.f242 yyi ylM [(.int .i64)] jA:=fun x=>by kernel_rfl
def yHD:QF:=⟨242,jA,okN (n:=0) Tryz.func242 trivial yHC⟩
abbrev V9:Type:=yv1
def J8 (k0:yEH→Option R) (k1:ypU→Option R) (a:V9→Option R) (x:V9):Option R:=nz (zlt x.g x.f (zix x.e x.g (zbd (jA ((yi x.e x.g).1,(yi x.e x.g).b)) fun r=>zix x.h x.1 (zom (decide (r<zB x.h x.1)) (zam (decide (zin x.1<x.h.z)) (zix x.h (zin x.1) (zso (decide (r≥zB x.h (zin x.1))))) fun s=>zso s) fun t=>zif t (k0 (x.1,false,zT3 x.2 x.H)) (a (zT6 x (zin x.g,x.h,x.I)))))) (k1 (zT4 x x.H)))
def Va k0 k1:=zI (@J8 R k0 k1) zY
abbrev Vb:Type:=ypU
def J9 (k0:Bool→Option R) (k1:Unit→Option R) (a:Vb→Option R) (x:Vb):Option R:=nz (zlt x.d x.c (zix x.b x.d (Va (fun r=>k0 r.b) (fun s=>a (zT3 s (zin s.d,s.e,s.F))) (zT4 x (yu x.b x.d,(yu x.b x.d).z,0,x.e,x.F)))) (k1 ()))
def y0S k0 k1:=zI (@J9 R k0 k1) zY
def W8 (x:ytO):Option Bool:=nz (zix x.b x.C (y0S (fun r=>zso r) (fun s=>zso true) (x.C,yk x.b x.C,(yk x.b x.C).z,0,x.1,x.b)))
def yk3:List QF:=[yHD]
def yb2 (t:yv1):St:=⟨.dead::vI t.1:: .box 2 0::dd 12 (Zh t.2.1::vI t.2.2.1::vI t.2.2.2.1::dd 3 (y0M t.2.2.2.2.1::vI t.2.2.2.2.2.1::vI t.2.2.2.2.2.2.1::dd 35 [])),[(2,.box [z6 t.2.2.2.2.2.2.2.1,yA t.2.2.2.2.2.2.2.2])]⟩
def yos:Gk V9:=fun κ=>J8 (fun t=>κ none ⟨.dead::vI t.1:: .box 2 0:: .dead::vB t.2.1::dd 10 (Zh t.2.2.1::vI t.2.2.2.1::vI t.2.2.2.2.1::dd 41 []),[(2,.box [z6 t.2.2.2.2.2.1,yA t.2.2.2.2.2.2])]⟩) (fun t=>κ (some 2) ⟨.dead::vI t.1:: .box 2 0::dd 12 (Zh t.2.1::vI t.2.2.1::vI t.2.2.2.1::dd 41 []),[(2,.box [z6 t.2.2.2.2.1,yA t.2.2.2.2.2])]⟩)
def yb3 (t:ypU):St:=⟨.dead::vI t.1:: .box 2 0::dd 12 (Zh t.2.1::vI t.2.2.1::vI t.2.2.2.1::dd 41 []),[(2,.box [z6 t.2.2.2.2.1,yA t.2.2.2.2.2])]⟩
def yot:Gk Vb:=fun κ=>J9 (fun t=>κ none ⟨dd 4 (vB t::dd 54 []),[]⟩) (fun t=>κ (some 0) ⟨dd 59 [],[]⟩)
def yk4:Lp:=lpC 2 (unG yv3 yb3) @yot (lpC 5 (unG yv2 yb2) @yos lpN)
theorem yBD:LF yk3 yk4 202 5 Tryz.f202 1 yb2 @yos fun t=>t:=fun R κ again t=>by kernel_rfl
theorem yBE:LK yk3 yk4 202 Tryz.f202 1:=lkN (u:=(unG yv2 yb2)) (yn fun t=>by kernel_rfl) yBD
theorem yBF:LF yk3 yk4 202 2 Tryz.f202 0 yb3 @yot fun t=>t:=fun R κ again t=>by kernel_rfl
theorem yBG:LK yk3 yk4 202 Tryz.f202 0:=lkN (u:=(unG yv3 yb3)) (yn fun t=>by kernel_rfl) yBF
theorem yHE:EV yk3 yk4 202 Tryz.f202 yyj ytP [.bool] W8:=fun x=>by kernel_rfl
def yOb:QF:=⟨202,W8,okN (n:=2) Tryz.func202 ⟨yBG,yBE,trivial⟩ yHE⟩
def YK (x:List y8):Option (List y8):=nz (zgd ([]:List y8) x 40 (zso (([]:List y8)++x)))
theorem yHF:EV [] lpN 287 Tryz.f287 yyk [(.sl 91 yl)] [(.sl 91 yl)] YK:=fun x=>by kernel_rfl
def yHG:QF:=⟨287,YK,okN (n:=0) Tryz.func287 trivial yHF⟩
def Ja (x:yDA):Option Bool:=nz (zan (x.1==x.f) (x.b==x.g) fun r=>zso r)
theorem yHH:EV [] lpN 330 Tryz.f330 yyl yDB [.bool] Ja:=fun x=>by kernel_rfl
def yOc:QF:=⟨330,Ja,okN (n:=0) Tryz.func330 trivial yHH⟩
abbrev KZ:Type:=yv4
def ZW (k0:yJZ→Option R) (a:KZ→Option R) (x:KZ):Option R:=nz (zlt x.d x.c (zix x.b x.d (zam (!x.1) (zbd (wy (zG5 (yi x.b x.d) (x.e,x.f,x.g,x.h,x.i))) fun r=>zso (!r)) fun s=>zif s (zgd x.J ([(x.e,x.f,x.g,x.h,x.i)]:List y8) 40 (zbd (Ja (zG5 (yi x.b x.d) (x.e,x.f,x.g,x.h,x.i))) fun t=>zif (!t) (zgd (x.J++([(x.e,x.f,x.g,x.h,x.i)]:List y8)) ([zF5 (yi x.b x.d)]:List y8) 40 (a (true,x.b,x.c,zin x.d,zT5 x.E (x.J++([(x.e,x.f,x.g,x.h,x.i)]:List y8)++([zF5 (yi x.b x.d)]:List y8))))) (a (true,x.b,x.c,zin x.d,zT5 x.E (x.J++([(x.e,x.f,x.g,x.h,x.i)]:List y8)))))) (zbd (Ja (zG5 (yi x.b x.d) (x.e,x.f,x.g,x.h,x.i))) fun u=>zif (!u) (zgd x.J ([zF5 (yi x.b x.d)]:List y8) 40 (a (zT3 x (zin x.d,zT5 x.E (x.J++([zF5 (yi x.b x.d)]:List y8)))))) (a (zT3 x (zin x.d,zF6 x.E)))))) (k0 (x.1,x.E)))
def Qx k0:=zI (@ZW R k0) zY
def JJ (x:yK0):Option (List y8):=nz (Qx (fun r=>zif (!r.1) (zgd r.G ([(r.b,r.c,r.d,r.e,r.f)]:List y8) 40 (zso (r.G++([(r.b,r.c,r.d,r.e,r.f)]:List y8)))) (zso r.G)) (false,x.1,x.1.z,0,zG5 x.2 ([]:List y8)))
def yrD:List QF:=[yMi,yOc]
def yb4 (t:yv4):St:=⟨dd 3 (.box 3 0:: .dead:: .own 10000000::vB t.1::dd 3 (y0M t.2.1::vI t.2.2.1::vI t.2.2.2.1::dd 31 [])),[(3,.box [vI t.2.2.2.2.1,vI t.2.2.2.2.2.1,vI t.2.2.2.2.2.2.1,vI t.2.2.2.2.2.2.2.1,vI t.2.2.2.2.2.2.2.2.1]),(10000000,.root true 91 yl t.2.2.2.2.2.2.2.2.2)]⟩
def you:Gk KZ:=fun κ=>ZW (fun t=>κ (some 0) ⟨dd 3 (.box 3 0:: .dead:: .own 10000000::vB t.1::dd 37 []),[(3,.box [vI t.2.1,vI t.2.2.1,vI t.2.2.2.1,vI t.2.2.2.2.1,vI t.2.2.2.2.2.1]),(10000000,.root true 91 yl t.2.2.2.2.2.2)]⟩)
def yrE:Lp:=lpC 4 (unG yv5 yb4) @you lpN
theorem yBH:LF yrD yrE 297 4 Tryz.f297 0 yb4 @you fun t=>t:=fun R κ again t=>by kernel_rfl
theorem yBI:LK yrD yrE 297 Tryz.f297 0:=lkN (u:=(unG yv5 yb4)) (yn fun t=>by kernel_rfl) yBH
theorem yHI:EV yrD yrE 297 Tryz.f297 yym yK1 [(.sl 91 yl)] JJ:=fun x=>by kernel_rfl
def yHJ:QF:=⟨297,JJ,okN (n:=1) Tryz.func297 ⟨yBI,trivial⟩ yHI⟩
abbrev va:Type:=ylR
def jB (k0:List y8→Option R) (a:va→Option R) (x:va):Option R:=nz (zlt x.c x.b (zix x.1 x.c (zbd (JJ (x.D,zF5 (yi x.1 x.c))) fun r=>a (x.1,x.b,zin x.c,r))) (k0 x.D))
def y08 k0:=zI (@jB R k0) zY
def jg (x:yEf):Option (List y8):=nz (zbd (YK x.1) fun r=>y08 (fun s=>zso s) (x.2,x.2.z,0,r))
def yrF:List QF:=[yHG,yHJ]
def yb5 (t:ylR):St:=⟨dd 5 (.own 10000000::dd 4 (y0M t.1::vI t.2.1::vI t.2.2.1::dd 8 [])),[(10000000,.root true 91 yl t.2.2.2)]⟩
def yov:Gk va:=fun κ=>jB (fun t=>κ (some 0) ⟨dd 5 (.own 10000000::dd 15 []),[(10000000,.root true 91 yl t)]⟩)
def yrG:Lp:=lpC 3 (unG ylS yb5) @yov lpN
theorem yBJ:LF yrF yrG 268 3 Tryz.f268 0 yb5 @yov fun t=>t:=fun R κ again t=>by kernel_rfl
theorem yBK:LK yrF yrG 268 Tryz.f268 0:=lkN (u:=(unG ylS yb5)) (yn fun t=>by kernel_rfl) yBJ
theorem yHK:EV yrF yrG 268 Tryz.f268 yyn yEg [(.sl 91 yl)] jg:=fun x=>by kernel_rfl
def yOd:QF:=⟨268,jg,okN (n:=1) Tryz.func268 ⟨yBK,trivial⟩ yHK⟩
abbrev y1w:Type:=ylR
def vb (k0:List y8→Option R) (a:y1w→Option R) (x:y1w):Option R:=nz (zlt x.c x.b (zix x.1 x.c (zne ((yi x.1 x.c).c) 0 (zgd x.D ([zF5 (yi x.1 x.c)]:List y8) 40 (a (x.1,x.b,zin x.c,x.D++([zF5 (yi x.1 x.c)]:List y8)))) (a (x.1,x.b,zin x.c,x.D)))) (k0 x.D))
def y4S k0:=zI (@vb R k0) zY
def W9 (x:List y8):Option (List y8):=nz (y4S (fun r=>zso r) (x,x.z,0,([]:List y8)))
def yrH:List QF:=[]
def yb6 (t:ylR):St:=⟨dd 3 (.own 10000000::dd 3 (y0M t.1::vI t.2.1::vI t.2.2.1::dd 12 [])),[(10000000,.root true 91 yl t.2.2.2)]⟩
def yow:Gk y1w:=fun κ=>vb (fun t=>κ (some 0) ⟨dd 3 (.own 10000000::dd 18 []),[(10000000,.root true 91 yl t)]⟩)
def yrI:Lp:=lpC 3 (unG ylS yb6) @yow lpN
theorem yBL:LF yrH yrI 269 3 Tryz.f269 0 yb6 @yow fun t=>t:=fun R κ again t=>by kernel_rfl
theorem yBM:LK yrH yrI 269 Tryz.f269 0:=lkN (u:=(unG ylS yb6)) (yn fun t=>by kernel_rfl) yBL
theorem yHL:EV yrH yrI 269 Tryz.f269 yyo [(.sl 91 yl)] [(.sl 91 yl)] W9:=fun x=>by kernel_rfl
def yMk:QF:=⟨269,W9,okN (n:=1) Tryz.func269 ⟨yBM,trivial⟩ yHL⟩
abbrev Vc:Type:=yv6
def Jb (k0:List y8→Option R) (a:Vc→Option R) (x:Vc):Option R:=nz (zlt x.c x.b (zix x.1 x.c (zbd (jg (x.D,yu x.1 x.c)) fun r=>a (x.1,x.b,zin x.c,r))) (k0 x.D))
def y0T k0:=zI (@Jb R k0) zY
def yZ (x:List ya):Option (List y8):=nz (y0T (fun r=>zbd (W9 r) fun s=>zso s) (x,x.z,0,([]:List y8)))
def yrJ:List QF:=[yOd,yMk]
def yb7 (t:yv6):St:=⟨dd 3 (.own 10000000::dd 4 (Zh t.1::vI t.2.1::vI t.2.2.1::dd 9 [])),[(10000000,.root true 91 yl t.2.2.2)]⟩
def yox:Gk Vc:=fun κ=>Jb (fun t=>κ (some 0) ⟨dd 3 (.own 10000000::dd 16 []),[(10000000,.root true 91 yl t)]⟩)
def yrK:Lp:=lpC 3 (unG yv7 yb7) @yox lpN
theorem yBN:LF yrJ yrK 203 3 Tryz.f203 0 yb7 @yox fun t=>t:=fun R κ again t=>by kernel_rfl
theorem yBO:LK yrJ yrK 203 Tryz.f203 0:=lkN (u:=(unG yv7 yb7)) (yn fun t=>by kernel_rfl) yBN
theorem yHM:EV yrJ yrK 203 Tryz.f203 yyp [(.sl 89 yq)] [(.sl 91 yl)] yZ:=fun x=>by kernel_rfl
def yu4:QF:=⟨203,yZ,okN (n:=1) Tryz.func203 ⟨yBO,trivial⟩ yHM⟩
abbrev Qy:Type:=yv8
def Wa (k0:ylT→Option R) (k1:Int→Option R) (a:Qy→Option R) (x:Qy):Option R:=nz (zlt x.d x.c (zix x.b x.d (zam (decide (x.d>0)) (zix x.e (zde x.d) (zix x.e x.d (zso (decide (zB x.e (zde x.d)≥zB x.e x.d))))) fun r=>zom r (zbd (Y9 (yk x.b x.d)) fun s=>zso (!s)) fun t=>zom t (zbd (W8 (x.e,x.F,x.d)) fun u=>zso (!u)) fun v=>zif v (k0 (false,x.1)) (zbd (yZ (yk x.b x.d)) fun w=>zan (decide (x.d>0)) (w.z==0) fun p=>zif p (k0 (false,x.1)) (a (zad x.1 w.z,x.b,x.c,zin x.d,x.e,x.F))))) (k1 x.1))
def y2F k0 k1:=zI (@Wa R k0 k1) zY
def Zd (x:y6M):Option Bool:=nz (zbd (yx (x.2.z,1,20)) fun r=>zor (!r) (x.1.z !=x.2.z) fun s=>zom s (zix x.1 0 (zso (zB x.1 0 !=0))) fun t=>zif t (zso false) (y2F (fun u=>zso u.1) (fun v=>zso (decide (v≤60))) (0,x.2,x.2.z,0,x.1,x.2)))
def yrL:List QF:=[q35,yMj,yOb,yu4]
def yb8 (t:yv8):St:=⟨.dead:: .box 1 0:: .dead::vI t.1::dd 25 (yA t.2.1::vI t.2.2.1::vI t.2.2.2.1::dd 46 []),[(1,.box [z6 t.2.2.2.2.1,yA t.2.2.2.2.2])]⟩
def yoy:Gk Qy:=fun κ=>Wa (fun t=>κ none ⟨dd 2 (vB t.1::vI t.2::dd 74 []),[]⟩) (fun t=>κ (some 0) ⟨dd 3 (vI t::dd 74 []),[]⟩)
def yrM:Lp:=lpC 5 (unG yv9 yb8) @yoy lpN
theorem yBP:LF yrL yrM 112 5 Tryz.f112 0 yb8 @yoy fun t=>t:=fun R κ again t=>by kernel_rfl
theorem yBQ:LK yrL yrM 112 Tryz.f112 0:=lkN (u:=(unG yv9 yb8)) (yn fun t=>by kernel_rfl) yBP
theorem yHN:EV yrL yrM 112 Tryz.f112 yyq kI [.bool] Zd:=fun x=>by kernel_rfl
def yMl:QF:=⟨112,Zd,okN (n:=1) Tryz.func112 ⟨yBQ,trivial⟩ yHN⟩
def VC (x:Qz5):Option ylT:=nz (zso (x.1==x.C,x.C))
theorem yHO:EV [] lpN 271 Tryz.f271 yyr qz5 ypV VC:=fun x=>by kernel_rfl
def yOe:QF:=⟨271,VC,okN (n:=0) Tryz.func271 trivial yHO⟩
abbrev Yg:Type:=yjn
def zb (k0:yiq→Option R) (k1:Int→Option R) (a:Yg→Option R) (x:Yg):Option R:=nz (zlt x.c x.b (zix x.1 x.c (zbd (VC ((yD x.1 x.c).1,(yD x.1 x.c).2,x.D)) fun r=>zif r.1 (k0 (x.c,r.2)) (a (x.1,x.b,zin x.c,r.2)))) (k1 x.D))
def Zx k0 k1:=zI (@zb R k0 k1) zY
def zm (x:yjh):Option yiq:=nz (Zx (fun r=>zso r) (fun s=>zso (-1,s)) (x.1,x.1.z,0,x.2))
def yb9:List QF:=[yOe]
def y48 (t:yjn):St:=⟨zl t.1:: .clo 271 901::dd 5 (vI t.2.1::vI t.2.2.1::dd 10 []),[(901,.box [vI t.2.2.2])]⟩
def ydt:Gk Yg:=fun κ=>zb (fun t=>κ none ⟨.dead:: .clo 271 901::dd 2 (vI t.1::dd 14 []),[(901,.box [vI t.2])]⟩) (fun t=>κ (some 0) ⟨.dead:: .clo 271 901::dd 17 [],[(901,.box [vI t])]⟩)
def yba:Lp:=lpC 2 (unG ylU y48) @ydt lpN
theorem yk5:LF yb9 yba 100000 2 Tryz.f270 0 y48 @ydt fun t=>t:=fun R κ again t=>by kernel_rfl
theorem yk6:LK yb9 yba 100000 Tryz.f270 0:=lkN (u:=(unG ylU y48)) (yn fun t=>by kernel_rfl) yk5
theorem ymy:EV yb9 yba 100000 Tryz.f270 ygL yji ylM zm:=fun x=>by kernel_rfl
def yrN:QF:=⟨100000,zm,okN (n:=1) Tryz.func270 ⟨yk6,trivial⟩ ymy⟩
def YW (x:yjh):Option Int:=nz (zbd (zm x) fun r=>zso r.1)
theorem yHP:EV [yrN] lpN 204 Tryz.f204 yys yji [(.int .i64)] YW:=fun x=>by kernel_rfl
def yu5:QF:=⟨204,YW,okN (n:=0) Tryz.func204 trivial yHP⟩
abbrev Qz:Type:=yva
def Wb (k0:ytQ→Option R) (k1:List y7→Option R) (a:Qz→Option R) (x:Qz):Option R:=nz (zlt x.D x.c (zix x.b x.D (zbd (yx ((yD x.b x.D).1,1,60)) fun r=>zom (!r) (zam (decide (x.D>0)) (zix x.1 (zde x.D) (zso (decide ((yD x.1 (zde x.D)).1≥(yD x.b x.D).1)))) fun s=>zso s) fun t=>zom t (zam ((yD x.b x.D).2 !=0) (zsl 0 x.D x.1.z (zbd (YW (zcu x.1 0 x.D,(yD x.b x.D).2)) fun u=>zso (decide (u<0)))) fun v=>zso v) fun w=>zif w (k0 (x.1,false)) (a (zT3 x (zin x.D))))) (k1 x.1))
def y2G k0 k1:=zI (@Wb R k0 k1) zY
def jC (x:List y7):Option Bool:=nz (y2G (fun r=>zso r.2) (fun s=>zso (decide (s.z≤16))) (x,x,x.z,0))
def yrO:List QF:=[q35,yu5]
def ybb (t:yva):St:=⟨zl t.1::dd 4 (zl t.2.1::vI t.2.2.1::vI t.2.2.2::dd 41 []),[]⟩
def yoz:Gk Qz:=fun κ=>Wb (fun t=>κ none ⟨zl t.1:: .dead::vB t.2::dd 46 [],[]⟩) (fun t=>κ (some 0) ⟨zl t::dd 48 [],[]⟩)
def yrP:Lp:=lpC 2 (unG yvb ybb) @yoz lpN
theorem yBR:LF yrO yrP 113 2 Tryz.f113 0 ybb @yoz fun t=>t:=fun R κ again t=>by kernel_rfl
theorem yBS:LK yrO yrP 113 Tryz.f113 0:=lkN (u:=(unG yvb ybb)) (yn fun t=>by kernel_rfl) yBR
theorem yHQ:EV yrO yrP 113 Tryz.f113 yyt [(.sl 79 yh)] [.bool] jC:=fun x=>by kernel_rfl
def yHR:QF:=⟨113,jC,okN (n:=1) Tryz.func113 ⟨yBS,trivial⟩ yHQ⟩
def Ze (x:Int):Option Bool:=nz (zbd (yx (x,0,65535)) fun r=>zso r)
theorem yHS:EV [q35] lpN 152 Tryz.f152 yyu [(.int .i64)] [.bool] Ze:=fun x=>by kernel_rfl
def yBT:QF:=⟨152,Ze,okN (n:=0) Tryz.func152 trivial yHS⟩
abbrev qq:Type:=yvc
def w6 (k0:yK9→Option R) (k1:List y6→Option R) (a:qq→Option R) (x:qq):Option R:=nz (zlt x.D x.c (zix x.b x.D (zbd (yx ((ym x.b x.D).1,0,999)) fun r=>zom (!r) (zbd (Ze ((ym x.b x.D).C)) fun s=>zso (!s)) fun t=>zom t (zan ((ym x.b x.D).C !=0) (!((ym x.b x.D).b)) fun u=>zso u) fun v=>zif v (k0 (x.1,false)) (a (zT3 x (zin x.D))))) (k1 x.1))
def y1P k0 k1:=zI (@w6 R k0 k1) zY
def jU (x:List y6):Option Bool:=nz (y1P (fun r=>zso r.2) (fun s=>zso (s.z==24)) (x,x,x.z,0))
def yrQ:List QF:=[q35,yBT]
def ybc (t:yvc):St:=⟨yU t.1::dd 4 (yU t.2.1::vI t.2.2.1::vI t.2.2.2::dd 27 []),[]⟩
def yoA:Gk qq:=fun κ=>w6 (fun t=>κ none ⟨yU t.1:: .dead::vB t.2::dd 32 [],[]⟩) (fun t=>κ (some 0) ⟨yU t::dd 34 [],[]⟩)
def yrR:Lp:=lpC 2 (unG yvd ybc) @yoA lpN
theorem yBU:LF yrQ yrR 114 2 Tryz.f114 0 ybc @yoA fun t=>t:=fun R κ again t=>by kernel_rfl
theorem yBV:LK yrQ yrR 114 Tryz.f114 0:=lkN (u:=(unG yvd ybc)) (yn fun t=>by kernel_rfl) yBU
theorem yHT:EV yrQ yrR 114 Tryz.f114 yyv [(.sl 85 yc)] [.bool] jU:=fun x=>by kernel_rfl
def yHU:QF:=⟨114,jU,okN (n:=1) Tryz.func114 ⟨yBV,trivial⟩ yHT⟩
abbrev QA:Type:=Qz6
def QB (k0:Qz7→Option R) (k1:ByteArray→Option R) (a:QA→Option R) (x:QA):Option R:=nz (zlt x.2 ((ByteArray.size x.1:Nat):Int) (if 0≤x.2 then if r:x.2.toNat<ByteArray.size x.1 then zbd (yx (zwr ((UInt8.toNat (ByteArray.get x.1 x.2.toNat r):Nat):Int),97,122)) fun s=>zam (!s) (if 0≤x.2 then if t:x.2.toNat<ByteArray.size x.1 then zbd (yx (zwr ((UInt8.toNat (ByteArray.get x.1 x.2.toNat t):Nat):Int),48,57)) fun u=>zso (!u) else none else none) fun v=>zif v (k0 (x.1,false)) (a (x.1,zin x.2)) else none else none) (k1 x.1))
def y2H k0 k1:=zI (@QB R k0 k1) zY
def zr (x:ByteArray):Option Bool:=nz (y2H (fun r=>zso r.2) (fun s=>zbd (yx (((ByteArray.size s:Nat):Int),1,6)) fun t=>zso t) (x,0))
def yrS:List QF:=[q35]
def ybd (t:Qz6):St:=⟨vS t.1::dd 2 (vI t.2::dd 23 []),[]⟩
def yoB:Gk QA:=fun κ=>QB (fun t=>κ none ⟨vS t.1:: .dead::vB t.2::dd 24 [],[]⟩) (fun t=>κ (some 0) ⟨vS t::dd 26 [],[]⟩)
def yrT:Lp:=lpC 2 (unG qz6 ybd) @yoB lpN
theorem yBW:LF yrS yrT 153 2 Tryz.f153 0 ybd @yoB fun t=>t:=fun R κ again t=>by kernel_rfl
theorem yBX:LK yrS yrT 153 Tryz.f153 0:=lkN (u:=(unG qz6 ybd)) (yn fun t=>by kernel_rfl) yBW
theorem yHV:EV yrS yrT 153 Tryz.f153 yyw [.str] [.bool] zr:=fun x=>by kernel_rfl
def yl2:QF:=⟨153,zr,okN (n:=1) Tryz.func153 ⟨yBX,trivial⟩ yHV⟩
abbrev QC:Type:=yve
def Wc (k0:List y9→Option R) (a:QC→Option R) (x:QC):Option R:=nz (zlt x.d x.c (zix x.b x.d (zif ((yD x.b x.d).2==x.1) (zgd x.E ([(yD x.b x.d).1]:List y9) 8 (a (zT3 x (zin x.d,x.E++([(yD x.b x.d).1]:List y9))))) (a (zT3 x (zin x.d,x.E))))) (k0 x.E))
def y2I k0:=zI (@Wc R k0) zY
def jD (x:yjh):Option (List y9):=nz (zeq x.2 0 (zso ([]:List y9)) (y2I (fun r=>zso r) (x.2,x.1,x.1.z,0,([]:List y9))))
def yrU:List QF:=[]
def ybe (t:yve):St:=⟨.dead::vI t.1::dd 3 (.own 10000000::dd 6 (zl t.2.1::vI t.2.2.1::vI t.2.2.2.1::dd 14 [])),[(10000000,.root true 3 yg t.2.2.2.2)]⟩
def yoC:Gk QC:=fun κ=>Wc (fun t=>κ (some 0) ⟨dd 5 (.own 10000000::dd 23 []),[(10000000,.root true 3 yg t)]⟩)
def yrV:Lp:=lpC 5 (unG yvf ybe) @yoC lpN
theorem yBY:LF yrU yrV 205 5 Tryz.f205 0 ybe @yoC fun t=>t:=fun R κ again t=>by kernel_rfl
theorem yBZ:LK yrU yrV 205 Tryz.f205 0:=lkN (u:=(unG yvf ybe)) (yn fun t=>by kernel_rfl) yBY
theorem yHW:EV yrU yrV 205 Tryz.f205 yyx yji [(.sl 3 yg)] jD:=fun x=>by kernel_rfl
def yDZ:QF:=⟨205,jD,okN (n:=1) Tryz.func205 ⟨yBZ,trivial⟩ yHW⟩
def vd (x:yEI):Option yvg:=nz (zso (x.b==x.f,zF4 x.E))
theorem yHX:EV [] lpN 207 Tryz.f207 yyy yEJ yvh vd:=fun x=>by kernel_rfl
def yOf:QF:=⟨207,vd,okN (n:=0) Tryz.func207 trivial yHX⟩
abbrev Ya:Type:=yvi
def z8 (k0:yvk→Option R) (k1:yEL→Option R) (a:Ya→Option R) (x:Ya):Option R:=nz (zlt x.c x.b (zix x.1 x.c (zbd (vd (zG4 (yd x.1 x.c) (zF4 x.D))) fun r=>zif r.1 (k0 (x.c,r.2)) (a (x.1,x.b,zin x.c,zF4 r.2)))) (k1 x.D))
def Zq k0 k1:=zI (@z8 R k0 k1) zY
def zh (x:yDK):Option yvk:=nz (Zq (fun r=>zso r) (fun s=>zso (-1,zF4 s)) (x.1,x.1.z,0,zF4 x.2))
def ybf:List QF:=[yOf]
def y49 (t:yvi):St:=⟨Y6 t.1:: .clo 207 901::dd 5 (vI t.2.1::vI t.2.2.1::dd 10 []),[(901,.box [vS t.2.2.2.1,vI t.2.2.2.2.1,vI t.2.2.2.2.2.1,vB t.2.2.2.2.2.2])]⟩
def ydu:Gk Ya:=fun κ=>z8 (fun t=>κ none ⟨.dead:: .clo 207 901::dd 2 (vI t.1::dd 14 []),[(901,.box [vS t.2.1,vI t.2.2.1,vI t.2.2.2.1,vB t.2.2.2.2])]⟩) (fun t=>κ (some 0) ⟨.dead:: .clo 207 901::dd 17 [],[(901,.box [vS t.1,vI t.2.1,vI t.2.2.1,vB t.2.2.2])]⟩)
def ybg:Lp:=lpC 2 (unG yvj y49) @ydu lpN
theorem yk7:LF ybf ybg 100002 2 Tryz.f228 0 y49 @ydu fun t=>t:=fun R κ again t=>by kernel_rfl
theorem yk8:LK ybf ybg 100002 Tryz.f228 0:=lkN (u:=(unG yvj y49)) (yn fun t=>by kernel_rfl) yk7
theorem ymz:EV ybf ybg 100002 Tryz.f228 ygM yDL yEK zh:=fun x=>by kernel_rfl
def yrW:QF:=⟨100002,zh,okN (n:=1) Tryz.func228 ⟨yk8,trivial⟩ ymz⟩
def yP (x:yDK):Option yvg:=nz (zbd (zh x) fun r=>zso (decide (r.1≥0),zF4 r.2))
theorem ymA:EV [yrW] lpN 100001 Tryz.f206 ygN yDL yvh yP:=fun x=>by kernel_rfl
def yrX:QF:=⟨100001,yP,okN (n:=0) Tryz.func206 trivial ymA⟩
abbrev QD:Type:=yvl
def Wd (k0:yl1→Option R) (k1:y7P→Option R) (a:QD→Option R) (x:QD):Option R:=nz (zlt x.c x.b (zix x.1 x.c (zbd (zr ((yd x.1 x.c).1)) fun r=>zom (!r) (zam (decide (x.c>0)) (zix x.h (zde x.c) (zso (!(Go.Op.bytesLess (((yd x.h (zde x.c)).1).toList) (((yd x.1 x.c).1).toList))))) fun s=>zso s) fun t=>zom t (zbd (yx ((yd x.1 x.c).c,1,12)) fun u=>zso (!u)) fun v=>zif v (k0 (false,x.D)) (zbd (YW (x.f,(yd x.1 x.c).b)) fun w=>zom (decide (w<0)) (zbd (jD (x.f,(yd x.1 x.c).b)) fun p=>zso (decide (p.z>0))) fun q=>zif q (k0 (false,x.D)) (zsl 0 x.c x.h.z (zbd (yP (zcu x.h 0 x.c,zF4 (yd x.1 x.c))) fun m=>zif m.1 (k0 (false,x.D)) (a (x.1,x.b,zin x.c,zF6 x.D))))))) (k1 x.D))
def y2J k0 k1:=zI (@Wd R k0 k1) zY
def ve (x:y7P):Option Bool:=nz (y2J (fun r=>zso r.1) (fun s=>zso (decide (s.e.z≤6))) (x.e,x.e.z,0,zF6 x))
def yrY:List QF:=[q35,yl2,yu5,yDZ,yrX]
def ybh (t:yvl):St:=⟨.dead:: .box 1 0::dd 4 (Y6 t.1::vI t.2.1::vI t.2.2.1::dd 56 []),[(1,.box [z6 t.2.2.2.1,yA t.2.2.2.2.1,zl t.2.2.2.2.2.1,yU t.2.2.2.2.2.2.1,Y6 t.2.2.2.2.2.2.2.1,vI t.2.2.2.2.2.2.2.2])]⟩
def yoD:Gk QD:=fun κ=>Wd (fun t=>κ none ⟨.dead:: .box 1 0::vB t.1::dd 62 [],[(1,.box [z6 t.2.1,yA t.2.2.1,zl t.2.2.2.1,yU t.2.2.2.2.1,Y6 t.2.2.2.2.2.1,vI t.2.2.2.2.2.2])]⟩) (fun t=>κ (some 0) ⟨.dead:: .box 1 0::dd 63 [],[(1,.box [z6 t.1,yA t.2.1,zl t.2.2.1,yU t.2.2.2.1,Y6 t.2.2.2.2.1,vI t.2.2.2.2.2])]⟩)
def yrZ:Lp:=lpC 2 (unG yvm ybh) @yoD lpN
theorem yC0:LF yrY yrZ 115 2 Tryz.f115 0 ybh @yoD fun t=>t:=fun R κ again t=>by kernel_rfl
theorem yC1:LK yrY yrZ 115 Tryz.f115 0:=lkN (u:=(unG yvm ybh)) (yn fun t=>by kernel_rfl) yC0
theorem yHY:EV yrY yrZ 115 Tryz.f115 yyz Z0 [.bool] ve:=fun x=>by kernel_rfl
def yOg:QF:=⟨115,ve,okN (n:=1) Tryz.func115 ⟨yC1,trivial⟩ yHY⟩
abbrev Vd:Type:=yvn
def Jc (k0:List y8→Option R) (a:Vd→Option R) (x:Vd):Option R:=nz (zlt x.c x.b (zix x.1 x.c (zbd (yZ (yk x.1 x.c)) fun r=>zgd x.D r 40 (a (x.1,x.b,zin x.c,x.D++r)))) (k0 x.D))
def y0U k0:=zI (@Jc R k0) zY
def zz (x:y6M):Option (List y8):=nz (y0U (fun r=>zso r) (x.2,x.2.z,0,([]:List y8)))
def ys0:List QF:=[yu4]
def ybi (t:yvn):St:=⟨dd 3 (.own 10000000::dd 4 (yA t.1::vI t.2.1::vI t.2.2.1::dd 9 [])),[(10000000,.root true 91 yl t.2.2.2)]⟩
def yoE:Gk Vd:=fun κ=>Jc (fun t=>κ (some 0) ⟨dd 3 (.own 10000000::dd 16 []),[(10000000,.root true 91 yl t)]⟩)
def ys1:Lp:=lpC 3 (unG yvo ybi) @yoE lpN
theorem yC2:LF ys0 ys1 166 3 Tryz.f166 0 ybi @yoE fun t=>t:=fun R κ again t=>by kernel_rfl
theorem yC3:LK ys0 ys1 166 Tryz.f166 0:=lkN (u:=(unG yvo ybi)) (yn fun t=>by kernel_rfl) yC2
theorem yHZ:EV ys0 ys1 166 Tryz.f166 yyA kI [(.sl 91 yl)] zz:=fun x=>by kernel_rfl
def yC4:QF:=⟨166,zz,okN (n:=1) Tryz.func166 ⟨yC3,trivial⟩ yHZ⟩
def vf (x:ytV):Option yKe:=nz (zbd (yx (x.b,0,zde x.1.z)) fun r=>zom (!r) (zix x.1 x.b (zso (!((ym x.1 x.b).b)))) fun s=>zom s (zix x.1 x.b (zso ((ym x.1 x.b).1 !=x.C))) fun t=>zif t (zso (0,false)) (zix x.1 x.b (zso ((ym x.1 x.b).C,true))))
theorem yI0:EV [q35] lpN 208 Tryz.f208 yyB ytW yKf vf:=fun x=>by kernel_rfl
def yOh:QF:=⟨208,vf,okN (n:=0) Tryz.func208 trivial yI0⟩
end
end Go.Proofs.YtekbnpmmjciloaaGreat.XA
