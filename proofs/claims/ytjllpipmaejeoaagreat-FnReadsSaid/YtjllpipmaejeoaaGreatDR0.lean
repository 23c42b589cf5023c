/- What functions compute, and that they do; part 0 of R; by a program (dec.py). No condition. -/
import Derived.Test.YtjllpipmaejeoaaGreatXR
set_option linter.all false
namespace Go.Proofs.YtjllpipmaejeoaaGreat.XR
open Go.Proofs.YtjllpipmaejeoaaGreat.R
set_option maxRecDepth 100000
noncomputable section
variable {R : Type}
def QA (x : List y29) : Option Bool :=
 some (decide ((List.length x : Int) > (1048576 : Int)))
theorem ev7 : EV [] lpN 7 Tryz.f7 sg7 [(.sl 5 wV)] [.bool] QA := fun x => by kernel_rfl
def q7 : QF := ⟨7, QA, okN (n := 0) Tryz.func7 trivial ev7⟩
abbrev vO : Type := Qz0
def kC (k0 : Qz1 → Option R) (again : vO → Option R) (t3 : vO) : Option R :=
 Option.bind (bif (decide (t3.2.2 < (List.length t3.1 : Int))) then some (decide (t3.2.2 < (4000 : Int))) else some false) fun u1 => bif u1 then if (0 : Int) ≤ t3.2.2 then if t3.2.2 < (List.length t3.1 : Int) then again (t3.1, (Go.bits .and .i64 (Go.IntKind.wrap .i64 ((Go.IntKind.wrap .i64 ((Go.IntKind.wrap .i64 (t3.2.1 * (137 : Int))) + (Go.IntKind.wrap .i64 (yeY t3.1 t3.2.2)))) + (11 : Int))) (1073741823 : Int)), (Go.IntKind.wrap .i64 (t3.2.2 + (1 : Int)))) else none else none else k0 (t3.1, t3.2.1)
def y47 k0 := zL (@kC R k0) Y3
def vz (x : List y29) : Option Qz0 :=
 y47 (fun x2 => some (x2.1, (0 : Int), x2.2)) (x, (Go.IntKind.wrap .i64 ((941941 : Int) + (List.length x : Int))), (0 : Int))
def yrV : List QF := []
def y97 (t : Qz0) : St := ⟨yea t.1 :: dd 2 (vI t.2.1 :: vI t.2.2 :: dd 27 []), []⟩
def ynH : Gk vO := fun κ => kC (fun t => κ (some 0) ⟨yea t.1 :: dd 2 (vI t.2 :: dd 28 []), []⟩)
def yrW : Lp := lpC 3 (unG qz0 y97) @ynH lpN
theorem yrX : LF yrV yrW 32 3 Tryz.f32 0 y97 @ynH fun t => t := fun R κ again t => by kernel_rfl
theorem yrY : LK yrV yrW 32 Tryz.f32 0 := lkN (u := (unG qz0 y97)) (yw fun t => by kernel_rfl) yrX
theorem yyC : EV yrV yrW 32 Tryz.f32 ywM [(.sl 5 wV)] qz0 vz := fun x => by kernel_rfl
def q32 : QF := ⟨32, vz, okN (n := 1) Tryz.func32 ⟨yrY, trivial⟩ yyC⟩
def YT (x : Qz0) : Option Qz2 :=
 bif (decide (x.2.1 < (List.length x.1 : Int))) then if (0 : Int) ≤ x.2.1 then if x.2.1 < (List.length x.1 : Int) then some ((Go.bits .and .i64 (Go.IntKind.wrap .i64 ((Go.bits .and .i64 (Go.bits .xor .i64 (Int.fdiv (Go.IntKind.wrap .i64 ((Go.IntKind.wrap .i64 (x.2.2 * (6364136223846793005 : Int))) + (1442695040888963407 : Int))) (2 ^ (min (Int.toNat (33 : Int)) (Go.IntKind.bits .i64)))) (Int.fdiv (Go.IntKind.wrap .i64 ((Go.IntKind.wrap .i64 (x.2.2 * (6364136223846793005 : Int))) + (1442695040888963407 : Int))) (2 ^ (min (Int.toNat (47 : Int)) (Go.IntKind.bits .i64))))) (255 : Int)) + (Go.IntKind.wrap .i64 (yeY x.1 x.2.1)))) (255 : Int)), x.1, (Go.IntKind.wrap .i64 (x.2.1 + (1 : Int))), (Go.IntKind.wrap .i64 ((Go.IntKind.wrap .i64 (x.2.2 * (6364136223846793005 : Int))) + (1442695040888963407 : Int)))) else none else none else some ((Go.bits .and .i64 (Go.bits .xor .i64 (Int.fdiv (Go.IntKind.wrap .i64 ((Go.IntKind.wrap .i64 (x.2.2 * (6364136223846793005 : Int))) + (1442695040888963407 : Int))) (2 ^ (min (Int.toNat (33 : Int)) (Go.IntKind.bits .i64)))) (Int.fdiv (Go.IntKind.wrap .i64 ((Go.IntKind.wrap .i64 (x.2.2 * (6364136223846793005 : Int))) + (1442695040888963407 : Int))) (2 ^ (min (Int.toNat (47 : Int)) (Go.IntKind.bits .i64))))) (255 : Int)), x.1, x.2.1, (Go.IntKind.wrap .i64 ((Go.IntKind.wrap .i64 (x.2.2 * (6364136223846793005 : Int))) + (1442695040888963407 : Int))))
theorem yrZ : EV [] lpN 106 Tryz.f106 ylY qz0 qz2 YT := fun x => by kernel_rfl
def yyD : QF := ⟨106, YT, okN (n := 0) Tryz.func106 trivial yrZ⟩
def yt (x : Qz3) : Option Qz2 :=
 bif (decide (x.2.2.2 ≤ (0 : Int))) then some ((0 : Int), x.1, x.2.1, x.2.2.1) else bif (decide (x.2.2.2 ≤ (256 : Int))) then Option.bind (YT (x.1, x.2.1, x.2.2.1)) fun r1 => if x.2.2.2 = 0 then none else some ((Int.tmod r1.1 x.2.2.2), r1.2.1, r1.2.2.1, r1.2.2.2) else Option.bind (YT (x.1, x.2.1, x.2.2.1)) fun r2 => Option.bind (YT r2.2) fun r3 => Option.bind (YT r3.2) fun r4 => if x.2.2.2 = 0 then none else some ((Int.tmod (Go.IntKind.wrap .i64 ((Go.IntKind.wrap .i64 ((Go.IntKind.wrap .i64 (r2.1 * (65536 : Int))) + (Go.IntKind.wrap .i64 (r3.1 * (256 : Int))))) + r4.1)) x.2.2.2), r4.2.1, r4.2.2.1, r4.2.2.2)
theorem yyE : EV [yyD] lpN 69 Tryz.f69 ywN qz3 qz2 yt := fun x => by kernel_rfl
def q69 : QF := ⟨69, yt, okN (n := 0) Tryz.func69 trivial yyE⟩
def zn (x : Qz4) : Option Qz2 :=
 Option.bind (yt (x.1, x.2.1, x.2.2.1, (List.length x.2.2.2 : Int))) fun r1 => if (0 : Int) ≤ r1.1 then if r1.1 < (List.length x.2.2.2 : Int) then some ((zt x.2.2.2 r1.1), r1.2.1, r1.2.2.1, r1.2.2.2) else none else none
theorem yyF : EV [q69] lpN 71 Tryz.f71 ywO qz4 qz2 zn := fun x => by kernel_rfl
def q71 : QF := ⟨71, zn, okN (n := 0) Tryz.func71 trivial yyF⟩
def wJ (x : Qz5) : Option Qz6 :=
 Option.bind (yt (x.1, x.2.1, x.2.2.1, (List.length x.2.2.2 : Int))) fun r1 => if (0 : Int) ≤ r1.1 then if r1.1 < (List.length x.2.2.2 : Int) then some ((yd0 x.2.2.2 r1.1), r1.2.1, r1.2.2.1, r1.2.2.2) else none else none
theorem yyG : EV [q69] lpN 72 Tryz.f72 ywP qz5 qz6 wJ := fun x => by kernel_rfl
def q72 : QF := ⟨72, wJ, okN (n := 0) Tryz.func72 trivial yyG⟩
def Yy (x : Qz0) : Option Qz6 :=
 Option.bind (wJ (x.1, x.2.1, x.2.2, ([{ data := #[97] }, { data := #[98] }, { data := #[99] }, { data := #[100] }, { data := #[101, 53] }] : List Qz))) fun r1 => some r1
theorem yyH : EV [q72] lpN 73 Tryz.f73 ywQ qz0 qz6 Yy := fun x => by kernel_rfl
def q73 : QF := ⟨73, Yy, okN (n := 0) Tryz.func73 trivial yyH⟩
def Yz (x : Qz0) : Option Qz2 :=
 Option.bind (yt (x.1, x.2.1, x.2.2, (200 : Int))) fun r1 => Option.bind (zn (r1.2.1, r1.2.2.1, r1.2.2.2, ([(0 : Int), (1 : Int), (2 : Int), (7 : Int), (65535 : Int), (Go.IntKind.wrap .i64 ((1 : Int) + r1.1))] : List yb))) fun r2 => some r2
theorem yyI : EV [q69, q71] lpN 74 Tryz.f74 ywR qz0 qz2 Yz := fun x => by kernel_rfl
def q74 : QF := ⟨74, Yz, okN (n := 0) Tryz.func74 trivial yyI⟩
def YB (x : Qz0) : Option Qz7 :=
 Option.bind (zn (x.1, x.2.1, x.2.2, ([(1 : Int), (1 : Int), (1 : Int), (2 : Int), (2 : Int), (3 : Int), (4 : Int), (4 : Int), (4 : Int), (4 : Int), (4 : Int), (4 : Int), (5 : Int), (6 : Int), (7 : Int), (7 : Int), (8 : Int), (9 : Int)] : List yb))) fun r1 => bif (decide (r1.1 < (7 : Int))) then Option.bind (wJ (r1.2.1, r1.2.2.1, r1.2.2.2, ([{ data := #[97] }, { data := #[97] }, { data := #[98] }, { data := #[99] }, { data := #[100] }] : List Qz))) fun r2 => bif (r1.1 == (1 : Int)) then bif (r1.1 == (1 : Int)) then Option.bind (zn (r2.2.1, r2.2.2.1, r2.2.2.2, ([(1 : Int), (3 : Int), (4 : Int), (12 : Int), (5 : Int)] : List yb))) fun r3 => some (r1.1, r2.1, (⟨#[]⟩ : ByteArray), r3.1, (0 : Int), r3.2.1, r3.2.2.1, r3.2.2.2) else bif (r1.1 == (2 : Int)) then Option.bind (Yy r2.2) fun r4 => Option.bind (zn (r4.2.1, r4.2.2.1, r4.2.2.2, ([(0 : Int), (0 : Int), (0 : Int), (1 : Int)] : List yb))) fun r5 => some (r1.1, r2.1, r4.1, (0 : Int), r5.1, r5.2.1, r5.2.2.1, r5.2.2.2) else bif (r1.1 == (4 : Int)) then Option.bind (yt (r2.2.1, r2.2.2.1, r2.2.2.2, (5 : Int))) fun r6 => Option.bind (Yz r6.2) fun r7 => some (r1.1, r2.1, (⟨#[]⟩ : ByteArray), r6.1, r7.1, r7.2.1, r7.2.2.1, r7.2.2.2) else bif (r1.1 == (5 : Int)) then Option.bind (yt (r2.2.1, r2.2.2.1, r2.2.2.2, (5 : Int))) fun r8 => some (r1.1, r2.1, (⟨#[]⟩ : ByteArray), r8.1, (0 : Int), r8.2.1, r8.2.2.1, r8.2.2.2) else bif (r1.1 == (8 : Int)) then bif (r1.1 == (8 : Int)) then Option.bind (yt (r2.2.1, r2.2.2.1, r2.2.2.2, (6 : Int))) fun r9 => some (r1.1, r2.1, (⟨#[]⟩ : ByteArray), r9.1, (0 : Int), r9.2.1, r9.2.2.1, r9.2.2.2) else some (r1.1, r2.1, (⟨#[]⟩ : ByteArray), (0 : Int), (0 : Int), r2.2.1, r2.2.2.1, r2.2.2.2) else bif (r1.1 == (9 : Int)) then Option.bind (yt (r2.2.1, r2.2.2.1, r2.2.2.2, (6 : Int))) fun r10 => some (r1.1, r2.1, (⟨#[]⟩ : ByteArray), r10.1, (0 : Int), r10.2.1, r10.2.2.1, r10.2.2.2) else some (r1.1, r2.1, (⟨#[]⟩ : ByteArray), (0 : Int), (0 : Int), r2.2.1, r2.2.2.1, r2.2.2.2) else bif (r1.1 == (6 : Int)) then Option.bind (zn (r2.2.1, r2.2.2.1, r2.2.2.2, ([(1 : Int), (3 : Int), (4 : Int), (12 : Int), (5 : Int)] : List yb))) fun r11 => some (r1.1, r2.1, (⟨#[]⟩ : ByteArray), r11.1, (0 : Int), r11.2.1, r11.2.2.1, r11.2.2.2) else bif (r1.1 == (2 : Int)) then Option.bind (Yy r2.2) fun r12 => Option.bind (zn (r12.2.1, r12.2.2.1, r12.2.2.2, ([(0 : Int), (0 : Int), (0 : Int), (1 : Int)] : List yb))) fun r13 => some (r1.1, r2.1, r12.1, (0 : Int), r13.1, r13.2.1, r13.2.2.1, r13.2.2.2) else bif (r1.1 == (4 : Int)) then Option.bind (yt (r2.2.1, r2.2.2.1, r2.2.2.2, (5 : Int))) fun r14 => Option.bind (Yz r14.2) fun r15 => some (r1.1, r2.1, (⟨#[]⟩ : ByteArray), r14.1, r15.1, r15.2.1, r15.2.2.1, r15.2.2.2) else bif (r1.1 == (5 : Int)) then Option.bind (yt (r2.2.1, r2.2.2.1, r2.2.2.2, (5 : Int))) fun r16 => some (r1.1, r2.1, (⟨#[]⟩ : ByteArray), r16.1, (0 : Int), r16.2.1, r16.2.2.1, r16.2.2.2) else bif (r1.1 == (8 : Int)) then bif (r1.1 == (8 : Int)) then Option.bind (yt (r2.2.1, r2.2.2.1, r2.2.2.2, (6 : Int))) fun r17 => some (r1.1, r2.1, (⟨#[]⟩ : ByteArray), r17.1, (0 : Int), r17.2.1, r17.2.2.1, r17.2.2.2) else some (r1.1, r2.1, (⟨#[]⟩ : ByteArray), (0 : Int), (0 : Int), r2.2.1, r2.2.2.1, r2.2.2.2) else bif (r1.1 == (9 : Int)) then Option.bind (yt (r2.2.1, r2.2.2.1, r2.2.2.2, (6 : Int))) fun r18 => some (r1.1, r2.1, (⟨#[]⟩ : ByteArray), r18.1, (0 : Int), r18.2.1, r18.2.2.1, r18.2.2.2) else some (r1.1, r2.1, (⟨#[]⟩ : ByteArray), (0 : Int), (0 : Int), r2.2.1, r2.2.2.1, r2.2.2.2) else bif (r1.1 == (1 : Int)) then bif (r1.1 == (1 : Int)) then Option.bind (zn (r1.2.1, r1.2.2.1, r1.2.2.2, ([(1 : Int), (3 : Int), (4 : Int), (12 : Int), (5 : Int)] : List yb))) fun r19 => some (r1.1, (⟨#[]⟩ : ByteArray), (⟨#[]⟩ : ByteArray), r19.1, (0 : Int), r19.2.1, r19.2.2.1, r19.2.2.2) else bif (r1.1 == (2 : Int)) then Option.bind (Yy r1.2) fun r20 => Option.bind (zn (r20.2.1, r20.2.2.1, r20.2.2.2, ([(0 : Int), (0 : Int), (0 : Int), (1 : Int)] : List yb))) fun r21 => some (r1.1, (⟨#[]⟩ : ByteArray), r20.1, (0 : Int), r21.1, r21.2.1, r21.2.2.1, r21.2.2.2) else bif (r1.1 == (4 : Int)) then Option.bind (yt (r1.2.1, r1.2.2.1, r1.2.2.2, (5 : Int))) fun r22 => Option.bind (Yz r22.2) fun r23 => some (r1.1, (⟨#[]⟩ : ByteArray), (⟨#[]⟩ : ByteArray), r22.1, r23.1, r23.2.1, r23.2.2.1, r23.2.2.2) else bif (r1.1 == (5 : Int)) then Option.bind (yt (r1.2.1, r1.2.2.1, r1.2.2.2, (5 : Int))) fun r24 => some (r1.1, (⟨#[]⟩ : ByteArray), (⟨#[]⟩ : ByteArray), r24.1, (0 : Int), r24.2.1, r24.2.2.1, r24.2.2.2) else bif (r1.1 == (8 : Int)) then bif (r1.1 == (8 : Int)) then Option.bind (yt (r1.2.1, r1.2.2.1, r1.2.2.2, (6 : Int))) fun r25 => some (r1.1, (⟨#[]⟩ : ByteArray), (⟨#[]⟩ : ByteArray), r25.1, (0 : Int), r25.2.1, r25.2.2.1, r25.2.2.2) else some (r1.1, (⟨#[]⟩ : ByteArray), (⟨#[]⟩ : ByteArray), (0 : Int), (0 : Int), r1.2.1, r1.2.2.1, r1.2.2.2) else bif (r1.1 == (9 : Int)) then Option.bind (yt (r1.2.1, r1.2.2.1, r1.2.2.2, (6 : Int))) fun r26 => some (r1.1, (⟨#[]⟩ : ByteArray), (⟨#[]⟩ : ByteArray), r26.1, (0 : Int), r26.2.1, r26.2.2.1, r26.2.2.2) else some (r1.1, (⟨#[]⟩ : ByteArray), (⟨#[]⟩ : ByteArray), (0 : Int), (0 : Int), r1.2.1, r1.2.2.1, r1.2.2.2) else bif (r1.1 == (6 : Int)) then Option.bind (zn (r1.2.1, r1.2.2.1, r1.2.2.2, ([(1 : Int), (3 : Int), (4 : Int), (12 : Int), (5 : Int)] : List yb))) fun r27 => some (r1.1, (⟨#[]⟩ : ByteArray), (⟨#[]⟩ : ByteArray), r27.1, (0 : Int), r27.2.1, r27.2.2.1, r27.2.2.2) else bif (r1.1 == (2 : Int)) then Option.bind (Yy r1.2) fun r28 => Option.bind (zn (r28.2.1, r28.2.2.1, r28.2.2.2, ([(0 : Int), (0 : Int), (0 : Int), (1 : Int)] : List yb))) fun r29 => some (r1.1, (⟨#[]⟩ : ByteArray), r28.1, (0 : Int), r29.1, r29.2.1, r29.2.2.1, r29.2.2.2) else bif (r1.1 == (4 : Int)) then Option.bind (yt (r1.2.1, r1.2.2.1, r1.2.2.2, (5 : Int))) fun r30 => Option.bind (Yz r30.2) fun r31 => some (r1.1, (⟨#[]⟩ : ByteArray), (⟨#[]⟩ : ByteArray), r30.1, r31.1, r31.2.1, r31.2.2.1, r31.2.2.2) else bif (r1.1 == (5 : Int)) then Option.bind (yt (r1.2.1, r1.2.2.1, r1.2.2.2, (5 : Int))) fun r32 => some (r1.1, (⟨#[]⟩ : ByteArray), (⟨#[]⟩ : ByteArray), r32.1, (0 : Int), r32.2.1, r32.2.2.1, r32.2.2.2) else bif (r1.1 == (8 : Int)) then bif (r1.1 == (8 : Int)) then Option.bind (yt (r1.2.1, r1.2.2.1, r1.2.2.2, (6 : Int))) fun r33 => some (r1.1, (⟨#[]⟩ : ByteArray), (⟨#[]⟩ : ByteArray), r33.1, (0 : Int), r33.2.1, r33.2.2.1, r33.2.2.2) else some (r1.1, (⟨#[]⟩ : ByteArray), (⟨#[]⟩ : ByteArray), (0 : Int), (0 : Int), r1.2.1, r1.2.2.1, r1.2.2.2) else bif (r1.1 == (9 : Int)) then Option.bind (yt (r1.2.1, r1.2.2.1, r1.2.2.2, (6 : Int))) fun r34 => some (r1.1, (⟨#[]⟩ : ByteArray), (⟨#[]⟩ : ByteArray), r34.1, (0 : Int), r34.2.1, r34.2.2.1, r34.2.2.2) else some (r1.1, (⟨#[]⟩ : ByteArray), (⟨#[]⟩ : ByteArray), (0 : Int), (0 : Int), r1.2.1, r1.2.2.1, r1.2.2.2)
theorem yyJ : EV [q69, q71, q72, q73, q74] lpN 35 Tryz.f35 ywS qz0 qz7 YB := fun x => by kernel_rfl
def q35 : QF := ⟨35, YB, okN (n := 0) Tryz.func35 trivial yyJ⟩
def kD (x : Unit) : Option Qz8 :=
 some (([(0 : Int)] : List yb), ([([] : List y9)] : List y0))
theorem ys0 : EV [] lpN 104 Tryz.f104 ylZ [] qz8 kD := fun x => by kernel_rfl
def yyK : QF := ⟨104, kD, okN (n := 0) Tryz.func104 trivial ys0⟩
def W0 (x : Unit) : Option (List y8) :=
 if (0 : Int) ≤ (24 : Int) then if (24 : Int) ≤ (24 : Int) then if (24 : Int) * ((24 : Nat) : Int) ≤ 140737488351232 then some (List.replicate (Int.toNat (24 : Int)) yN) else none else none else none
theorem ys1 : EV [] lpN 105 Tryz.f105 ym0 [] [(.sl 53 ye)] W0 := fun x => by kernel_rfl
def yyL : QF := ⟨105, W0, okN (n := 0) Tryz.func105 trivial ys1⟩
def kE (x : Unit) : Option Qz9 :=
 Option.bind (kD ()) fun r1 => Option.bind (W0 ()) fun r2 => some (r1.1, r1.2, ([] : List ya), r2, ([] : List yh), (1 : Int))
theorem yyM : EV [yyK, yyL] lpN 68 Tryz.f68 ywT [] qz9 kE := fun x => by kernel_rfl
def q68 : QF := ⟨68, kE, okN (n := 0) Tryz.func68 trivial yyM⟩
def yy (x : yqY) : Option Bool :=
 Option.bind (bif (decide (x.1 ≥ x.2.1)) then some (decide (x.1 ≤ x.2.2)) else some false) fun u1 => some u1
theorem ys2 : EV [] lpN 132 Tryz.f132 ym1 yqZ [.bool] yy := fun x => by kernel_rfl
def y5x : QF := ⟨132, yy, okN (n := 0) Tryz.func132 trivial ys2⟩
abbrev Kz : Type := yqk
def KA (k0 : yvG → Option R) (k1 : ByteArray → Option R) (again : Kz → Option R) (t2 : Kz) : Option R :=
 bif (decide (t2.2 < ((ByteArray.size t2.1 : Nat) : Int))) then if (0 : Int) ≤ t2.2 then if h1 : Int.toNat t2.2 < ByteArray.size t2.1 then Option.bind (yy ((Go.IntKind.wrap .i64 ((UInt8.toNat (ByteArray.get t2.1 (Int.toNat t2.2) h1) : Nat) : Int)), (97 : Int), (122 : Int))) fun r2 => Option.bind (bif (!r2) then if (0 : Int) ≤ t2.2 then if h4 : Int.toNat t2.2 < ByteArray.size t2.1 then Option.bind (yy ((Go.IntKind.wrap .i64 ((UInt8.toNat (ByteArray.get t2.1 (Int.toNat t2.2) h4) : Nat) : Int)), (48 : Int), (57 : Int))) fun r5 => some (!r5) else none else none else some false) fun u3 => bif u3 then k0 (t2.1, false) else again (t2.1, (Go.IntKind.wrap .i64 (t2.2 + (1 : Int)))) else none else none else k1 t2.1
def qG k0 k1 := zL (@KA R k0 k1) Y3
def Yd (x : ByteArray) : Option Bool :=
 qG (fun x6 => some x6.2) (fun x7 => Option.bind (yy (((ByteArray.size x7 : Nat) : Int), (1 : Int), (6 : Int))) fun r8 => some r8) (x, (0 : Int))
def yhX : List QF := [y5x]
def y5y (t : yqk) : St := ⟨vS t.1 :: dd 2 (vI t.2 :: dd 23 []), []⟩
def ygu : Gk Kz := fun κ => KA (fun t => κ none ⟨vS t.1 :: .dead :: vB t.2 :: dd 24 [], []⟩) (fun t => κ (some 0) ⟨vS t :: dd 26 [], []⟩)
def yhY : Lp := lpC 2 (unG yql y5y) @ygu lpN
theorem ynI : LF yhX yhY 131 2 Tryz.f131 0 y5y @ygu fun t => t := fun R κ again t => by kernel_rfl
theorem ynJ : LK yhX yhY 131 Tryz.f131 0 := lkN (u := (unG yql y5y)) (yw fun t => by kernel_rfl) ynI
theorem ys3 : EV yhX yhY 131 Tryz.f131 ym2 [.str] [.bool] Yd := fun x => by kernel_rfl
def yqE : QF := ⟨131, Yd, okN (n := 1) Tryz.func131 ⟨ynJ, trivial⟩ ys3⟩
def ze (x : Int) : Option Bool :=
 Option.bind (yy (x, (0 : Int), (65535 : Int))) fun r1 => some r1
theorem ys4 : EV [y5x] lpN 133 Tryz.f133 ym3 [(.int .i64)] [.bool] ze := fun x => by kernel_rfl
def yqF : QF := ⟨133, ze, okN (n := 0) Tryz.func133 trivial ys4⟩
def YC (x : yvH) : Option Bool :=
 bif (x.1 == (2 : Int)) then Option.bind (bif (x.2.2.2.1 == (0 : Int)) then Option.bind (yy (x.2.2.2.2, (0 : Int), (1 : Int))) fun r2 => some r2 else some false) fun u1 => some u1 else bif (x.1 == (3 : Int)) then bif (x.1 == (3 : Int)) then Option.bind (bif (x.2.2.2.1 == (0 : Int)) then some (x.2.2.2.2 == (0 : Int)) else some false) fun u3 => some u3 else bif (x.1 == (4 : Int)) then some true else some (x.2.2.2.2 == (0 : Int)) else bif (x.1 == (7 : Int)) then Option.bind (bif (x.2.2.2.1 == (0 : Int)) then some (x.2.2.2.2 == (0 : Int)) else some false) fun u4 => some u4 else bif (x.1 == (4 : Int)) then some true else some (x.2.2.2.2 == (0 : Int))
theorem ys5 : EV [y5x] lpN 134 Tryz.f134 ym4 ygr [.bool] YC := fun x => by kernel_rfl
def yyN : QF := ⟨134, YC, okN (n := 0) Tryz.func134 trivial ys5⟩
def KB (x : yvH) : Option Bool :=
 Option.bind (Yd x.2.1) fun r1 => bif (decide (x.1 ≥ (7 : Int))) then bif (x.1 == (2 : Int)) then Option.bind (Yd x.2.2.1) fun r2 => Option.bind (yy (x.1, (1 : Int), (9 : Int))) fun r3 => Option.bind (bif r3 then some ((ByteArray.toList x.2.1) == (ByteArray.toList ({ data := #[] }))) else some false) fun u4 => Option.bind (bif u4 then some r2 else some false) fun u5 => Option.bind (bif u5 then Option.bind (ze x.2.2.2.1) fun r7 => some r7 else some false) fun u6 => Option.bind (bif u6 then Option.bind (ze x.2.2.2.2) fun r9 => some r9 else some false) fun u8 => Option.bind (bif u8 then Option.bind (YC x) fun r11 => some r11 else some false) fun u10 => some u10 else Option.bind (yy (x.1, (1 : Int), (9 : Int))) fun r12 => Option.bind (bif r12 then some ((ByteArray.toList x.2.1) == (ByteArray.toList ({ data := #[] }))) else some false) fun u13 => Option.bind (bif u13 then some ((ByteArray.toList x.2.2.1) == (ByteArray.toList ({ data := #[] }))) else some false) fun u14 => Option.bind (bif u14 then Option.bind (ze x.2.2.2.1) fun r16 => some r16 else some false) fun u15 => Option.bind (bif u15 then Option.bind (ze x.2.2.2.2) fun r18 => some r18 else some false) fun u17 => Option.bind (bif u17 then Option.bind (YC x) fun r20 => some r20 else some false) fun u19 => some u19 else bif (x.1 == (2 : Int)) then Option.bind (Yd x.2.2.1) fun r21 => Option.bind (yy (x.1, (1 : Int), (9 : Int))) fun r22 => Option.bind (bif r22 then some r1 else some false) fun u23 => Option.bind (bif u23 then some r21 else some false) fun u24 => Option.bind (bif u24 then Option.bind (ze x.2.2.2.1) fun r26 => some r26 else some false) fun u25 => Option.bind (bif u25 then Option.bind (ze x.2.2.2.2) fun r28 => some r28 else some false) fun u27 => Option.bind (bif u27 then Option.bind (YC x) fun r30 => some r30 else some false) fun u29 => some u29 else Option.bind (yy (x.1, (1 : Int), (9 : Int))) fun r31 => Option.bind (bif r31 then some r1 else some false) fun u32 => Option.bind (bif u32 then some ((ByteArray.toList x.2.2.1) == (ByteArray.toList ({ data := #[] }))) else some false) fun u33 => Option.bind (bif u33 then Option.bind (ze x.2.2.2.1) fun r35 => some r35 else some false) fun u34 => Option.bind (bif u34 then Option.bind (ze x.2.2.2.2) fun r37 => some r37 else some false) fun u36 => Option.bind (bif u36 then Option.bind (YC x) fun r39 => some r39 else some false) fun u38 => some u38
theorem ys6 : EV [yqE, y5x, yqF, yyN] lpN 107 Tryz.f107 ym5 ygr [.bool] KB := fun x => by kernel_rfl
def yyO : QF := ⟨107, KB, okN (n := 0) Tryz.func107 trivial ys6⟩
def wK (x : yeb) : Option Bool :=
 Option.bind (yy (x.1, (0 : Int), (15 : Int))) fun r1 => Option.bind (bif (!r1) then some true else Option.bind (yy (x.2.1, (1 : Int), (60 : Int))) fun r3 => some (!r3)) fun u2 => Option.bind (bif u2 then some true else Option.bind (yy (x.2.2.1, (0 : Int), (2 : Int))) fun r5 => some (!r5)) fun u4 => bif u4 then some false else bif (x.2.2.1 == (1 : Int)) then Option.bind (yy (x.2.2.2.1, (0 : Int), (23 : Int))) fun r6 => Option.bind (bif r6 then Option.bind (yy (x.2.2.2.2, (0 : Int), (999 : Int))) fun r8 => some r8 else some false) fun u7 => some u7 else Option.bind (bif (x.2.2.2.1 == (0 : Int)) then some (x.2.2.2.2 == (0 : Int)) else some false) fun u9 => some u9
theorem ys7 : EV [y5x] lpN 183 Tryz.f183 ym6 vN [.bool] wK := fun x => by kernel_rfl
def yxO : QF := ⟨183, wK, okN (n := 0) Tryz.func183 trivial ys7⟩
def jq (x : yqm) : Option Bool :=
 bif (x.1 != x.2.2.2.2.2.1) then some (decide (x.1 < x.2.2.2.2.2.1)) else some (decide (x.2.1 < x.2.2.2.2.2.2.1))
theorem ys8 : EV [] lpN 201 Tryz.f201 ym7 yqn [.bool] jq := fun x => by kernel_rfl
def yxP : QF := ⟨201, jq, okN (n := 0) Tryz.func201 trivial ys8⟩
abbrev K4 : Type := yqo
def j9 (k0 : Bool → Option R) (k1 : Unit → Option R) (again : K4 → Option R) (t2 : K4) : Option R :=
 bif (decide (t2.2 < (List.length t2.1 : Int))) then if (0 : Int) ≤ (Go.IntKind.wrap .i64 (t2.2 - (1 : Int))) then if (Go.IntKind.wrap .i64 (t2.2 - (1 : Int))) < (List.length t2.1 : Int) then if (0 : Int) ≤ t2.2 then if t2.2 < (List.length t2.1 : Int) then Option.bind (jq ((y6 t2.1 (Go.IntKind.wrap .i64 (t2.2 - (1 : Int)))).1, (y6 t2.1 (Go.IntKind.wrap .i64 (t2.2 - (1 : Int)))).2.1, (y6 t2.1 (Go.IntKind.wrap .i64 (t2.2 - (1 : Int)))).2.2.1, (y6 t2.1 (Go.IntKind.wrap .i64 (t2.2 - (1 : Int)))).2.2.2.1, (y6 t2.1 (Go.IntKind.wrap .i64 (t2.2 - (1 : Int)))).2.2.2.2, (y6 t2.1 t2.2).1, (y6 t2.1 t2.2).2.1, (y6 t2.1 t2.2).2.2.1, (y6 t2.1 t2.2).2.2.2.1, (y6 t2.1 t2.2).2.2.2.2)) fun r1 => bif (!r1) then k0 false else again (t2.1, (Go.IntKind.wrap .i64 (t2.2 + (1 : Int)))) else none else none else none else none else k1 ()
def qc k0 k1 := zL (@j9 R k0 k1) Y3
def JQ (x : List y7) : Option Bool :=
 qc (fun x2 => some x2) (fun x3 => some true) (x, (1 : Int))
def yhZ : List QF := [yxP]
def y5z (t : yqo) : St := ⟨VK t.1 :: dd 2 (vI t.2 :: dd 17 []), []⟩
def ygv : Gk K4 := fun κ => j9 (fun t => κ none ⟨dd 2 (vB t :: dd 18 []), []⟩) (fun t => κ (some 0) ⟨dd 21 [], []⟩)
def yi0 : Lp := lpC 2 (unG yqp y5z) @ygv lpN
theorem ynK : LF yhZ yi0 208 2 Tryz.f208 0 y5z @ygv fun t => t := fun R κ again t => by kernel_rfl
theorem ynL : LK yhZ yi0 208 Tryz.f208 0 := lkN (u := (unG yqp y5z)) (yw fun t => by kernel_rfl) ynK
theorem ys9 : EV yhZ yi0 208 Tryz.f208 ym8 [(.sl 63 yg)] [.bool] JQ := fun x => by kernel_rfl
def yyP : QF := ⟨208, JQ, okN (n := 1) Tryz.func208 ⟨ynL, trivial⟩ ys9⟩
abbrev vP : Type := yqo
def JR (k0 : yvI → Option R) (k1 : List y7 → Option R) (again : vP → Option R) (t2 : vP) : Option R :=
 bif (decide (t2.2 < (List.length t2.1 : Int))) then if (0 : Int) ≤ t2.2 then if t2.2 < (List.length t2.1 : Int) then Option.bind (wK ((y6 t2.1 t2.2).1, (y6 t2.1 t2.2).2.1, (y6 t2.1 t2.2).2.2.1, (y6 t2.1 t2.2).2.2.2.1, (y6 t2.1 t2.2).2.2.2.2)) fun r1 => bif (!r1) then k0 (t2.1, false) else again (t2.1, (Go.IntKind.wrap .i64 (t2.2 + (1 : Int)))) else none else none else k1 t2.1
def QY k0 k1 := zL (@JR R k0 k1) Y3
def kU (x : List y7) : Option Bool :=
 QY (fun x2 => some x2.2) (fun x3 => Option.bind (JQ x3) fun r4 => Option.bind (bif r4 then some (decide ((List.length x3 : Int) ≤ (60 : Int))) else some false) fun u5 => some u5) (x, (0 : Int))
def yi1 : List QF := [yxO, yyP]
def y5A (t : yqo) : St := ⟨VK t.1 :: dd 2 (vI t.2 :: dd 19 []), []⟩
def ygw : Gk vP := fun κ => JR (fun t => κ none ⟨VK t.1 :: .dead :: vB t.2 :: dd 20 [], []⟩) (fun t => κ (some 0) ⟨VK t :: dd 22 [], []⟩)
def yi2 : Lp := lpC 2 (unG yqp y5A) @ygw lpN
theorem ynM : LF yi1 yi2 196 2 Tryz.f196 0 y5A @ygw fun t => t := fun R κ again t => by kernel_rfl
theorem ynN : LK yi1 yi2 196 Tryz.f196 0 := lkN (u := (unG yqp y5A)) (yw fun t => by kernel_rfl) ynM
theorem ysa : EV yi1 yi2 196 Tryz.f196 ym9 [(.sl 63 yg)] [.bool] kU := fun x => by kernel_rfl
def yyQ : QF := ⟨196, kU, okN (n := 1) Tryz.func196 ⟨ynN, trivial⟩ ysa⟩
abbrev K5 : Type := yvJ
def ja (k0 : Int → Option R) (again : K5 → Option R) (t3 : K5) : Option R :=
 bif (decide (t3.2.1 < (List.length t3.2.2 : Int))) then if (0 : Int) ≤ t3.2.1 then if t3.2.1 < (List.length t3.2.2 : Int) then again ((Go.IntKind.wrap .i64 (t3.1 + (List.length (yl t3.2.2 t3.2.1) : Int))), (Go.IntKind.wrap .i64 (t3.2.1 + (1 : Int))), t3.2.2) else none else none else k0 t3.1
def qd k0 := zL (@ja R k0) Y3
def JS (x : List y9) : Option Int :=
 qd (fun x1 => some x1) ((0 : Int), (0 : Int), x)
def yi3 : List QF := []
def y5B (t : yvJ) : St := ⟨.dead :: .box 1 0 :: .dead :: vI t.1 :: vI t.2.1 :: dd 16 [], [(1, .box [Yg t.2.2])]⟩
def ygx : Gk K5 := fun κ => ja (fun t => κ (some 0) ⟨dd 3 (vI t :: dd 17 []), []⟩)
def yi4 : Lp := lpC 3 (unG yvK y5B) @ygx lpN
theorem ynO : LF yi3 yi4 197 3 Tryz.f197 0 y5B @ygx fun t => t := fun R κ again t => by kernel_rfl
theorem ynP : LK yi3 yi4 197 Tryz.f197 0 := lkN (u := (unG yvK y5B)) (yw fun t => by kernel_rfl) ynO
theorem ysb : EV yi3 yi4 197 Tryz.f197 yma [(.sl 58 yn)] [(.int .i64)] JS := fun x => by kernel_rfl
def yyR : QF := ⟨197, JS, okN (n := 1) Tryz.func197 ⟨ynP, trivial⟩ ysb⟩
abbrev KC : Type := ygs
def jL (k0 : yyi → Option R) (k1 : List y9 → Option R) (again : KC → Option R) (t2 : KC) : Option R :=
 bif (decide (t2.1 < (List.length t2.2 : Int))) then if (0 : Int) ≤ t2.1 then if t2.1 < (List.length t2.2 : Int) then Option.bind (kU (yl t2.2 t2.1)) fun r1 => Option.bind (bif (!r1) then some true else if (0 : Int) ≤ t2.1 then if t2.1 < (List.length t2.2 : Int) then some ((List.length (yl t2.2 t2.1) : Int) == (0 : Int)) else none else none) fun u2 => bif u2 then k0 (false, t2.2) else again ((Go.IntKind.wrap .i64 (t2.1 + (1 : Int))), t2.2) else none else none else k1 t2.2
def qH k0 k1 := zL (@jL R k0 k1) Y3
def zg (x : List y9) : Option Bool :=
 qH (fun x3 => some x3.1) (fun x4 => Option.bind (bif (decide ((List.length x4 : Int) ≤ (3 : Int))) then Option.bind (JS x4) fun r6 => some (decide (r6 ≤ (8 : Int))) else some false) fun u5 => some u5) ((0 : Int), x)
def yi5 : List QF := [yyQ, yyR]
def y5C (t : ygs) : St := ⟨.dead :: .box 1 0 :: .dead :: vI t.1 :: dd 32 [], [(1, .box [Yg t.2])]⟩
def ygy : Gk KC := fun κ => jL (fun t => κ none ⟨.dead :: .box 1 0 :: vB t.1 :: dd 33 [], [(1, .box [Yg t.2])]⟩) (fun t => κ (some 0) ⟨.dead :: .box 1 0 :: dd 34 [], [(1, .box [Yg t])]⟩)
def yi6 : Lp := lpC 2 (unG yqq y5C) @ygy lpN
theorem ynQ : LF yi5 yi6 178 2 Tryz.f178 0 y5C @ygy fun t => t := fun R κ again t => by kernel_rfl
theorem ynR : LK yi5 yi6 178 Tryz.f178 0 := lkN (u := (unG yqq y5C)) (yw fun t => by kernel_rfl) ynQ
theorem ysc : EV yi5 yi6 178 Tryz.f178 ymb [(.sl 58 yn)] [.bool] zg := fun x => by kernel_rfl
def yxQ : QF := ⟨178, zg, okN (n := 1) Tryz.func178 ⟨ynR, trivial⟩ ysc⟩
abbrev VL : Type := yqr
def W1 (k0 : List y7 → Option R) (again : VL → Option R) (t3 : VL) : Option R :=
 bif (decide (t3.2.1 < (List.length t3.1 : Int))) then if (0 : Int) ≤ t3.2.1 then if t3.2.1 < (List.length t3.1 : Int) then bif ((y6 t3.1 t3.2.1).2.2.1 != (0 : Int)) then if (0 : Int) ≤ t3.2.1 then if t3.2.1 < (List.length t3.1 : Int) then if (List.length t3.2.2 + List.length ([((y6 t3.1 t3.2.1).1, (y6 t3.1 t3.2.1).2.1, (y6 t3.1 t3.2.1).2.2.1, (y6 t3.1 t3.2.1).2.2.2.1, (y6 t3.1 t3.2.1).2.2.2.2)] : List y7)) * 40 < 140737488355328 then again (t3.1, (Go.IntKind.wrap .i64 (t3.2.1 + (1 : Int))), (t3.2.2 ++ ([((y6 t3.1 t3.2.1).1, (y6 t3.1 t3.2.1).2.1, (y6 t3.1 t3.2.1).2.2.1, (y6 t3.1 t3.2.1).2.2.2.1, (y6 t3.1 t3.2.1).2.2.2.2)] : List y7))) else none else none else none else again (t3.1, (Go.IntKind.wrap .i64 (t3.2.1 + (1 : Int))), t3.2.2) else none else none else k0 t3.2.2
def y0S k0 := zL (@W1 R k0) Y3
def zR (x : List y7) : Option (List y7) :=
 y0S (fun x1 => some x1) (x, (0 : Int), ([] : List y7))
def yi7 : List QF := []
def y5D (t : yqr) : St := ⟨VK t.1 :: dd 2 (.own 10000000 :: vI t.2.1 :: dd 21 []), [(10000000, .root true 63 yg t.2.2)]⟩
def ygz : Gk VL := fun κ => W1 (fun t => κ (some 0) ⟨dd 3 (.own 10000000 :: dd 22 []), [(10000000, .root true 63 yg t)]⟩)
def yi8 : Lp := lpC 3 (unG yqs y5D) @ygz lpN
theorem ynS : LF yi7 yi8 186 3 Tryz.f186 0 y5D @ygz fun t => t := fun R κ again t => by kernel_rfl
theorem ynT : LK yi7 yi8 186 Tryz.f186 0 := lkN (u := (unG yqs y5D)) (yw fun t => by kernel_rfl) ynS
theorem ysd : EV yi7 yi8 186 Tryz.f186 ymc [(.sl 63 yg)] [(.sl 63 yg)] zR := fun x => by kernel_rfl
def yse : QF := ⟨186, zR, okN (n := 1) Tryz.func186 ⟨ynT, trivial⟩ ysd⟩
def Zm (x : yqm) : Option Bool :=
 Option.bind (bif (x.1 == x.2.2.2.2.2.1) then some (x.2.1 == x.2.2.2.2.2.2.1) else some false) fun u1 => some u1
theorem ysf : EV [] lpN 202 Tryz.f202 ymd yqn [.bool] Zm := fun x => by kernel_rfl
def yyS : QF := ⟨202, Zm, okN (n := 0) Tryz.func202 trivial ysf⟩
abbrev W2 : Type := yvL
def YE (k0 : yvN → Option R) (again : W2 → Option R) (t4 : W2) : Option R :=
 bif (decide (t4.2.2.1 < (List.length t4.1 : Int))) then Option.bind (bif (!t4.2.1) then if (0 : Int) ≤ t4.2.2.1 then if t4.2.2.1 < (List.length t4.1 : Int) then Option.bind (jq ((y6 t4.1 t4.2.2.1).1, (y6 t4.1 t4.2.2.1).2.1, (y6 t4.1 t4.2.2.1).2.2.1, (y6 t4.1 t4.2.2.1).2.2.2.1, (y6 t4.1 t4.2.2.1).2.2.2.2, t4.2.2.2.1, t4.2.2.2.2.1, t4.2.2.2.2.2.1, t4.2.2.2.2.2.2.1, t4.2.2.2.2.2.2.2.1)) fun r2 => some (!r2) else none else none else some false) fun u1 => bif u1 then if (List.length t4.2.2.2.2.2.2.2.2 + List.length ([(t4.2.2.2.1, t4.2.2.2.2.1, t4.2.2.2.2.2.1, t4.2.2.2.2.2.2.1, t4.2.2.2.2.2.2.2.1)] : List y7)) * 40 < 140737488355328 then if (0 : Int) ≤ t4.2.2.1 then if t4.2.2.1 < (List.length t4.1 : Int) then Option.bind (Zm ((y6 t4.1 t4.2.2.1).1, (y6 t4.1 t4.2.2.1).2.1, (y6 t4.1 t4.2.2.1).2.2.1, (y6 t4.1 t4.2.2.1).2.2.2.1, (y6 t4.1 t4.2.2.1).2.2.2.2, t4.2.2.2.1, t4.2.2.2.2.1, t4.2.2.2.2.2.1, t4.2.2.2.2.2.2.1, t4.2.2.2.2.2.2.2.1)) fun r3 => bif (!r3) then if (0 : Int) ≤ t4.2.2.1 then if t4.2.2.1 < (List.length t4.1 : Int) then if (List.length (t4.2.2.2.2.2.2.2.2 ++ ([(t4.2.2.2.1, t4.2.2.2.2.1, t4.2.2.2.2.2.1, t4.2.2.2.2.2.2.1, t4.2.2.2.2.2.2.2.1)] : List y7)) + List.length ([((y6 t4.1 t4.2.2.1).1, (y6 t4.1 t4.2.2.1).2.1, (y6 t4.1 t4.2.2.1).2.2.1, (y6 t4.1 t4.2.2.1).2.2.2.1, (y6 t4.1 t4.2.2.1).2.2.2.2)] : List y7)) * 40 < 140737488355328 then again (t4.1, true, (Go.IntKind.wrap .i64 (t4.2.2.1 + (1 : Int))), t4.2.2.2.1, t4.2.2.2.2.1, t4.2.2.2.2.2.1, t4.2.2.2.2.2.2.1, t4.2.2.2.2.2.2.2.1, ((t4.2.2.2.2.2.2.2.2 ++ ([(t4.2.2.2.1, t4.2.2.2.2.1, t4.2.2.2.2.2.1, t4.2.2.2.2.2.2.1, t4.2.2.2.2.2.2.2.1)] : List y7)) ++ ([((y6 t4.1 t4.2.2.1).1, (y6 t4.1 t4.2.2.1).2.1, (y6 t4.1 t4.2.2.1).2.2.1, (y6 t4.1 t4.2.2.1).2.2.2.1, (y6 t4.1 t4.2.2.1).2.2.2.2)] : List y7))) else none else none else none else again (t4.1, true, (Go.IntKind.wrap .i64 (t4.2.2.1 + (1 : Int))), t4.2.2.2.1, t4.2.2.2.2.1, t4.2.2.2.2.2.1, t4.2.2.2.2.2.2.1, t4.2.2.2.2.2.2.2.1, (t4.2.2.2.2.2.2.2.2 ++ ([(t4.2.2.2.1, t4.2.2.2.2.1, t4.2.2.2.2.2.1, t4.2.2.2.2.2.2.1, t4.2.2.2.2.2.2.2.1)] : List y7))) else none else none else none else if (0 : Int) ≤ t4.2.2.1 then if t4.2.2.1 < (List.length t4.1 : Int) then Option.bind (Zm ((y6 t4.1 t4.2.2.1).1, (y6 t4.1 t4.2.2.1).2.1, (y6 t4.1 t4.2.2.1).2.2.1, (y6 t4.1 t4.2.2.1).2.2.2.1, (y6 t4.1 t4.2.2.1).2.2.2.2, t4.2.2.2.1, t4.2.2.2.2.1, t4.2.2.2.2.2.1, t4.2.2.2.2.2.2.1, t4.2.2.2.2.2.2.2.1)) fun r4 => bif (!r4) then if (0 : Int) ≤ t4.2.2.1 then if t4.2.2.1 < (List.length t4.1 : Int) then if (List.length t4.2.2.2.2.2.2.2.2 + List.length ([((y6 t4.1 t4.2.2.1).1, (y6 t4.1 t4.2.2.1).2.1, (y6 t4.1 t4.2.2.1).2.2.1, (y6 t4.1 t4.2.2.1).2.2.2.1, (y6 t4.1 t4.2.2.1).2.2.2.2)] : List y7)) * 40 < 140737488355328 then again (t4.1, t4.2.1, (Go.IntKind.wrap .i64 (t4.2.2.1 + (1 : Int))), t4.2.2.2.1, t4.2.2.2.2.1, t4.2.2.2.2.2.1, t4.2.2.2.2.2.2.1, t4.2.2.2.2.2.2.2.1, (t4.2.2.2.2.2.2.2.2 ++ ([((y6 t4.1 t4.2.2.1).1, (y6 t4.1 t4.2.2.1).2.1, (y6 t4.1 t4.2.2.1).2.2.1, (y6 t4.1 t4.2.2.1).2.2.2.1, (y6 t4.1 t4.2.2.1).2.2.2.2)] : List y7))) else none else none else none else again (t4.1, t4.2.1, (Go.IntKind.wrap .i64 (t4.2.2.1 + (1 : Int))), t4.2.2.2.1, t4.2.2.2.2.1, t4.2.2.2.2.2.1, t4.2.2.2.2.2.2.1, t4.2.2.2.2.2.2.2.1, t4.2.2.2.2.2.2.2.2) else none else none else k0 (t4.2.1, t4.2.2.2)
def KD k0 := zL (@YE R k0) Y3
def zy (x : yvO) : Option (List y7) :=
 KD (fun x5 => bif (!x5.1) then if (List.length x5.2.2.2.2.2.2 + List.length ([(x5.2.1, x5.2.2.1, x5.2.2.2.1, x5.2.2.2.2.1, x5.2.2.2.2.2.1)] : List y7)) * 40 < 140737488355328 then some (x5.2.2.2.2.2.2 ++ ([(x5.2.1, x5.2.2.1, x5.2.2.2.1, x5.2.2.2.2.1, x5.2.2.2.2.2.1)] : List y7)) else none else some x5.2.2.2.2.2.2) (x.1, false, (0 : Int), x.2.1, x.2.2.1, x.2.2.2.1, x.2.2.2.2.1, x.2.2.2.2.2, ([] : List y7))
def yi9 : List QF := [yxP, yyS]
def y5E (t : yvL) : St := ⟨VK t.1 :: dd 2 (.box 3 0 :: .dead :: .own 10000000 :: vB t.2.1 :: vI t.2.2.1 :: dd 43 []), [(3, .box [vI t.2.2.2.1, vI t.2.2.2.2.1, vI t.2.2.2.2.2.1, vI t.2.2.2.2.2.2.1, vI t.2.2.2.2.2.2.2.1]), (10000000, .root true 63 yg t.2.2.2.2.2.2.2.2)]⟩
def ygA : Gk W2 := fun κ => YE (fun t => κ (some 0) ⟨dd 3 (.box 3 0 :: .dead :: .own 10000000 :: vB t.1 :: dd 44 []), [(3, .box [vI t.2.1, vI t.2.2.1, vI t.2.2.2.1, vI t.2.2.2.2.1, vI t.2.2.2.2.2.1]), (10000000, .root true 63 yg t.2.2.2.2.2.2)]⟩)
def yia : Lp := lpC 4 (unG yvM y5E) @ygA lpN
theorem ynU : LF yi9 yia 187 4 Tryz.f187 0 y5E @ygA fun t => t := fun R κ again t => by kernel_rfl
theorem ynV : LK yi9 yia 187 Tryz.f187 0 := lkN (u := (unG yvM y5E)) (yw fun t => by kernel_rfl) ynU
theorem ysg : EV yi9 yia 187 Tryz.f187 yme yvP [(.sl 63 yg)] zy := fun x => by kernel_rfl
def ysh : QF := ⟨187, zy, okN (n := 1) Tryz.func187 ⟨ynV, trivial⟩ ysg⟩
abbrev W3 : Type := yqr
def YU (k0 : List y7 → Option R) (again : W3 → Option R) (t3 : W3) : Option R :=
 bif (decide (t3.2.1 < (List.length t3.1 : Int))) then if (0 : Int) ≤ t3.2.1 then if t3.2.1 < (List.length t3.1 : Int) then Option.bind (zy (t3.2.2, (y6 t3.1 t3.2.1).1, (y6 t3.1 t3.2.1).2.1, (y6 t3.1 t3.2.1).2.2.1, (y6 t3.1 t3.2.1).2.2.2.1, (y6 t3.1 t3.2.1).2.2.2.2)) fun r1 => again (t3.1, (Go.IntKind.wrap .i64 (t3.2.1 + (1 : Int))), r1) else none else none else k0 t3.2.2
def vA k0 := zL (@YU R k0) Y3
def YN (x : yr0) : Option (List y7) :=
 if (List.length ([] : List y7) + List.length x.1) * 40 < 140737488355328 then vA (fun x2 => some x2) (x.2, (0 : Int), (([] : List y7) ++ x.1)) else none
def yib : List QF := [ysh]
def y5F (t : yqr) : St := ⟨.dead :: VK t.1 :: dd 3 (.own 10000000 :: vI t.2.1 :: dd 16 []), [(10000000, .root true 63 yg t.2.2)]⟩
def ygB : Gk W3 := fun κ => YU (fun t => κ (some 0) ⟨dd 5 (.own 10000000 :: dd 17 []), [(10000000, .root true 63 yg t)]⟩)
def yic : Lp := lpC 3 (unG yqs y5F) @ygB lpN
theorem ynW : LF yib yic 198 3 Tryz.f198 0 y5F @ygB fun t => t := fun R κ again t => by kernel_rfl
theorem ynX : LK yib yic 198 Tryz.f198 0 := lkN (u := (unG yqs y5F)) (yw fun t => by kernel_rfl) ynW
theorem ysi : EV yib yic 198 Tryz.f198 ymf yr1 [(.sl 63 yg)] YN := fun x => by kernel_rfl
def yyT : QF := ⟨198, YN, okN (n := 1) Tryz.func198 ⟨ynX, trivial⟩ ysi⟩
abbrev WU : Type := yvQ
def Zn (k0 : List y7 → Option R) (again : WU → Option R) (t3 : WU) : Option R :=
 bif (decide (t3.1 < (List.length t3.2.1 : Int))) then if (0 : Int) ≤ t3.1 then if t3.1 < (List.length t3.2.1 : Int) then Option.bind (YN (t3.2.2, (yl t3.2.1 t3.1))) fun r1 => again ((Go.IntKind.wrap .i64 (t3.1 + (1 : Int))), t3.2.1, r1) else none else none else k0 t3.2.2
def Vf k0 := zL (@Zn R k0) Y3
def yz (x : List y9) : Option (List y7) :=
 Vf (fun x2 => Option.bind (zR x2) fun r3 => some r3) ((0 : Int), x, ([] : List y7))
def yid : List QF := [yse, yyT]
def y5G (t : yvQ) : St := ⟨.dead :: .box 1 0 :: .dead :: .own 10000000 :: vI t.1 :: dd 17 [], [(1, .box [Yg t.2.1]), (10000000, .root true 63 yg t.2.2)]⟩
def ygC : Gk WU := fun κ => Zn (fun t => κ (some 0) ⟨dd 3 (.own 10000000 :: dd 18 []), [(10000000, .root true 63 yg t)]⟩)
def yie : Lp := lpC 3 (unG yvR y5G) @ygC lpN
theorem ynY : LF yid yie 179 3 Tryz.f179 0 y5G @ygC fun t => t := fun R κ again t => by kernel_rfl
theorem ynZ : LK yid yie 179 Tryz.f179 0 := lkN (u := (unG yvR y5G)) (yw fun t => by kernel_rfl) ynY
theorem ysj : EV yid yie 179 Tryz.f179 ymg [(.sl 58 yn)] [(.sl 63 yg)] yz := fun x => by kernel_rfl
def yif : QF := ⟨179, yz, okN (n := 1) Tryz.func179 ⟨ynZ, trivial⟩ ysj⟩
def Jr (x : ygt) : Option Int :=
 some (Go.IntKind.wrap .i64 ((Go.IntKind.wrap .i64 ((64 : Int) * x.1)) + x.2))
theorem ysk : EV [] lpN 199 Tryz.f199 ymh yhN [(.int .i64)] Jr := fun x => by kernel_rfl
def yxR : QF := ⟨199, Jr, okN (n := 0) Tryz.func199 trivial ysk⟩
def Js (x : yeb) : Option Int :=
 Option.bind (Jr (x.1, x.2.1)) fun r1 => some r1
theorem ysl : EV [yxR] lpN 180 Tryz.f180 ymi vN [(.int .i64)] Js := fun x => by kernel_rfl
def yxS : QF := ⟨180, Js, okN (n := 0) Tryz.func180 trivial ysl⟩
abbrev KE : Type := yvS
def jM (k0 : yyj → Option R) (k1 : yr2 → Option R) (again : KE → Option R) (t8 : KE) : Option R :=
 if (0 : Int) ≤ t8.2.1 then if t8.2.1 < (List.length t8.2.2.2.2.2 : Int) then bif (decide (t8.2.2.1 < (List.length (yl t8.2.2.2.2.2 t8.2.1) : Int))) then if (0 : Int) ≤ t8.2.1 then if t8.2.1 < (List.length t8.2.2.2.2.2 : Int) then if (0 : Int) ≤ t8.2.2.1 then if t8.2.2.1 < (List.length (yl t8.2.2.2.2.2 t8.2.1) : Int) then Option.bind (Js ((y6 (yl t8.2.2.2.2.2 t8.2.1) t8.2.2.1).1, (y6 (yl t8.2.2.2.2.2 t8.2.1) t8.2.2.1).2.1, (y6 (yl t8.2.2.2.2.2 t8.2.1) t8.2.2.1).2.2.1, (y6 (yl t8.2.2.2.2.2 t8.2.1) t8.2.2.1).2.2.2.1, (y6 (yl t8.2.2.2.2.2 t8.2.1) t8.2.2.1).2.2.2.2)) fun r5 => if (0 : Int) ≤ t8.1 then if t8.1 < (List.length t8.2.2.2.1 : Int) then Option.bind (bif (decide (r5 < (zt t8.2.2.2.1 t8.1))) then some true else Option.bind (bif (decide ((Go.IntKind.wrap .i64 (t8.1 + (1 : Int))) < (List.length t8.2.2.2.1 : Int))) then if (0 : Int) ≤ (Go.IntKind.wrap .i64 (t8.1 + (1 : Int))) then if (Go.IntKind.wrap .i64 (t8.1 + (1 : Int))) < (List.length t8.2.2.2.1 : Int) then some (decide (r5 ≥ (zt t8.2.2.2.1 (Go.IntKind.wrap .i64 (t8.1 + (1 : Int)))))) else none else none else some false) fun u7 => some u7) fun u6 => bif u6 then k0 (t8.1, false, t8.2.1, t8.2.2.2) else again (t8.1, t8.2.1, (Go.IntKind.wrap .i64 (t8.2.2.1 + (1 : Int))), t8.2.2.2.1, t8.2.2.2.2.1, t8.2.2.2.2.2) else none else none else none else none else none else none else k1 (t8.1, t8.2.1, t8.2.2.2) else none else none
def KF k0 k1 := zL (@jM R k0 k1) Y3
abbrev KG : Type := yr2
def jN (k0 : Bool → Option R) (k1 : Unit → Option R) (again : KG → Option R) (t5 : KG) : Option R :=
 bif (decide (t5.2.1 < (List.length t5.2.2.2.2 : Int))) then KF (fun x8 => k0 x8.2.1) (fun x9 => again (x9.1, (Go.IntKind.wrap .i64 (x9.2.1 + (1 : Int))), x9.2.2.1, x9.2.2.2.1, x9.2.2.2.2)) (t5.1, t5.2.1, (0 : Int), t5.2.2.1, t5.2.2.2.1, t5.2.2.2.2) else k1 ()
def KH k0 k1 := zL (@jN R k0 k1) Y3
def W4 (x : ykA) : Option Bool :=
 if (0 : Int) ≤ x.2.2 then if x.2.2 < (List.length x.2.1 : Int) then Option.bind (zg (yd x.2.1 x.2.2)) fun r1 => Option.bind (bif (!r1) then some true else Option.bind (bif (decide (x.2.2 > (0 : Int))) then Option.bind (yz (yd x.2.1 x.2.2)) fun r4 => some ((List.length r4 : Int) == (0 : Int)) else some false) fun u3 => some u3) fun u2 => bif u2 then some false else KH (fun x10 => some x10) (fun x11 => some true) (x.2.2, (0 : Int), x.1, x.2.1, (yd x.2.1 x.2.2)) else none else none
def yd8 : List QF := [yxQ, yif, yxS]
def y5H (t : yvS) : St := ⟨.dead :: vI t.1 :: .box 2 0 :: dd 2 (.box 5 0 :: vI t.2.1 :: vI t.2.2.1 :: dd 70 []), [(2, .box [z9 t.2.2.2.1, yA t.2.2.2.2.1]), (5, .box [Yg t.2.2.2.2.2])]⟩
def ygD : Gk KE := fun κ => jM (fun t => κ none ⟨.dead :: vI t.1 :: .box 2 0 :: .dead :: vB t.2.1 :: .box 5 0 :: vI t.2.2.1 :: dd 71 [], [(2, .box [z9 t.2.2.2.1, yA t.2.2.2.2.1]), (5, .box [Yg t.2.2.2.2.2])]⟩) (fun t => κ (some 2) ⟨.dead :: vI t.1 :: .box 2 0 :: dd 2 (.box 5 0 :: vI t.2.1 :: dd 71 []), [(2, .box [z9 t.2.2.1, yA t.2.2.2.1]), (5, .box [Yg t.2.2.2.2])]⟩)
def y5I (t : yr2) : St := ⟨.dead :: vI t.1 :: .box 2 0 :: dd 2 (.box 5 0 :: vI t.2.1 :: dd 71 []), [(2, .box [z9 t.2.2.1, yA t.2.2.2.1]), (5, .box [Yg t.2.2.2.2])]⟩
def ygE : Gk KG := fun κ => jN (fun t => κ none ⟨dd 4 (vB t :: dd 73 []), []⟩) (fun t => κ (some 0) ⟨dd 78 [], []⟩)
def yd9 : Lp := lpC 5 (unG yvU y5I) @ygE (lpC 8 (unG yvT y5H) @ygD lpN)
theorem yo0 : LF yd8 yd9 159 8 Tryz.f159 1 y5H @ygD fun t => t := fun R κ again t => by kernel_rfl
theorem yo1 : LK yd8 yd9 159 Tryz.f159 1 := lkN (u := (unG yvT y5H)) (yw fun t => by kernel_rfl) yo0
theorem yo2 : LF yd8 yd9 159 5 Tryz.f159 0 y5I @ygE fun t => t := fun R κ again t => by kernel_rfl
theorem yo3 : LK yd8 yd9 159 Tryz.f159 0 := lkN (u := (unG yvU y5I)) (yw fun t => by kernel_rfl) yo2
theorem ysm : EV yd8 yd9 159 Tryz.f159 ymj ykB [.bool] W4 := fun x => by kernel_rfl
def yyU : QF := ⟨159, W4, okN (n := 2) Tryz.func159 ⟨yo3, yo1, trivial⟩ ysm⟩
abbrev WV : Type := yvV
def Zo (k0 : List y7 → Option R) (again : WV → Option R) (t3 : WV) : Option R :=
 bif (decide (t3.1 < (List.length t3.2.2.1 : Int))) then if (0 : Int) ≤ t3.1 then if t3.1 < (List.length t3.2.2.1 : Int) then Option.bind (yz (yd t3.2.2.1 t3.1)) fun r1 => if (List.length t3.2.2.2 + List.length r1) * 40 < 140737488355328 then again ((Go.IntKind.wrap .i64 (t3.1 + (1 : Int))), t3.2.1, t3.2.2.1, (t3.2.2.2 ++ r1)) else none else none else none else k0 t3.2.2.2
def Vg k0 := zL (@Zo R k0) Y3
def yI (x : Qz8) : Option (List y7) :=
 Vg (fun x2 => some x2) ((0 : Int), x.1, x.2, ([] : List y7))
def yig : List QF := [yif]
def y5J (t : yvV) : St := ⟨.dead :: .box 1 0 :: .dead :: .own 10000000 :: vI t.1 :: dd 17 [], [(1, .box [z9 t.2.1, yA t.2.2.1]), (10000000, .root true 63 yg t.2.2.2)]⟩
def ygF : Gk WV := fun κ => Zo (fun t => κ (some 0) ⟨dd 3 (.own 10000000 :: dd 18 []), [(10000000, .root true 63 yg t)]⟩)
def yih : Lp := lpC 3 (unG yvW y5J) @ygF lpN
theorem yo4 : LF yig yih 160 3 Tryz.f160 0 y5J @ygF fun t => t := fun R κ again t => by kernel_rfl
theorem yo5 : LK yig yih 160 Tryz.f160 0 := lkN (u := (unG yvW y5J)) (yw fun t => by kernel_rfl) yo4
theorem ysn : EV yig yih 160 Tryz.f160 ymk qz8 [(.sl 63 yg)] yI := fun x => by kernel_rfl
def yii : QF := ⟨160, yI, okN (n := 1) Tryz.func160 ⟨yo5, trivial⟩ ysn⟩
abbrev KI : Type := y8x
def jO (k0 : yyk → Option R) (k1 : Qz8 → Option R) (again : KI → Option R) (t4 : KI) : Option R :=
 bif (decide (t4.1 < (List.length t4.2.2 : Int))) then Option.bind (bif (decide (t4.1 > (0 : Int))) then if (0 : Int) ≤ (Go.IntKind.wrap .i64 (t4.1 - (1 : Int))) then if (Go.IntKind.wrap .i64 (t4.1 - (1 : Int))) < (List.length t4.2.1 : Int) then if (0 : Int) ≤ t4.1 then if t4.1 < (List.length t4.2.1 : Int) then some (decide ((zt t4.2.1 (Go.IntKind.wrap .i64 (t4.1 - (1 : Int)))) ≥ (zt t4.2.1 t4.1))) else none else none else none else none else some false) fun u4 => Option.bind (bif u4 then some true else Option.bind (W4 (t4.2.1, t4.2.2, t4.1)) fun r6 => some (!r6)) fun u5 => bif u5 then k0 (false, t4.2) else again ((Go.IntKind.wrap .i64 (t4.1 + (1 : Int))), t4.2.1, t4.2.2) else k1 t4.2
def qI k0 k1 := zL (@jO R k0 k1) Y3
def Ye (x : Qz8) : Option Bool :=
 Option.bind (yy ((List.length x.2 : Int), (1 : Int), (20 : Int))) fun r1 => Option.bind (bif (!r1) then some true else some ((List.length x.1 : Int) != (List.length x.2 : Int))) fun u2 => Option.bind (bif u2 then some true else if (0 : Int) ≤ (0 : Int) then if (0 : Int) < (List.length x.1 : Int) then some ((zt x.1 (0 : Int)) != (0 : Int)) else none else none) fun u3 => bif u3 then some false else qI (fun x7 => some x7.1) (fun x8 => Option.bind (yI x8) fun r9 => some (decide ((List.length r9 : Int) ≤ (60 : Int)))) ((0 : Int), x.1, x.2)
def yij : List QF := [y5x, yyU, yii]
def y5K (t : y8x) : St := ⟨.dead :: .box 1 0 :: .dead :: vI t.1 :: dd 54 [], [(1, .box [z9 t.2.1, yA t.2.2])]⟩
def ygG : Gk KI := fun κ => jO (fun t => κ none ⟨.dead :: .box 1 0 :: vB t.1 :: dd 55 [], [(1, .box [z9 t.2.1, yA t.2.2])]⟩) (fun t => κ (some 0) ⟨.dead :: .box 1 0 :: dd 56 [], [(1, .box [z9 t.1, yA t.2])]⟩)
def yik : Lp := lpC 4 (unG yec y5K) @ygG lpN
theorem yo6 : LF yij yik 135 4 Tryz.f135 0 y5K @ygG fun t => t := fun R κ again t => by kernel_rfl
theorem yo7 : LK yij yik 135 Tryz.f135 0 := lkN (u := (unG yec y5K)) (yw fun t => by kernel_rfl) yo6
theorem yso : EV yij yik 135 Tryz.f135 yml qz8 [.bool] Ye := fun x => by kernel_rfl
def yxT : QF := ⟨135, Ye, okN (n := 1) Tryz.func135 ⟨yo7, trivial⟩ yso⟩
abbrev vQ : Type := yr3
def JT (k0 : Int → Option R) (k1 : Unit → Option R) (again : vQ → Option R) (t2 : vQ) : Option R :=
 bif (decide (t2.2.2 < (List.length t2.1 : Int))) then if (0 : Int) ≤ t2.2.2 then if t2.2.2 < (List.length t2.1 : Int) then bif ((yK t2.1 t2.2.2).1 == t2.2.1) then k0 t2.2.2 else again (t2.1, t2.2.1, (Go.IntKind.wrap .i64 (t2.2.2 + (1 : Int)))) else none else none else k1 ()
def QZ k0 k1 := zL (@JT R k0 k1) Y3
def zF (x : yed) : Option Int :=
 QZ (fun x1 => some x1) (fun x2 => some (-1 : Int)) (x.1, x.2, (0 : Int))
def yil : List QF := []
def y5L (t : yr3) : St := ⟨zl t.1 :: vI t.2.1 :: dd 3 (vI t.2.2 :: dd 14 []), []⟩
def ygH : Gk vQ := fun κ => JT (fun t => κ none ⟨dd 4 (vI t :: dd 15 []), []⟩) (fun t => κ (some 0) ⟨dd 20 [], []⟩)
def yim : Lp := lpC 2 (unG yr4 y5L) @ygH lpN
theorem yo8 : LF yil yim 161 2 Tryz.f161 0 y5L @ygH fun t => t := fun R κ again t => by kernel_rfl
theorem yo9 : LK yil yim 161 Tryz.f161 0 := lkN (u := (unG yr4 y5L)) (yw fun t => by kernel_rfl) yo8
theorem ysp : EV yil yim 161 Tryz.f161 ymm yee [(.int .i64)] zF := fun x => by kernel_rfl
def ykh : QF := ⟨161, zF, okN (n := 1) Tryz.func161 ⟨yo9, trivial⟩ ysp⟩
abbrev KJ : Type := yed
def jP (k0 : yqt → Option R) (k1 : List ya → Option R) (again : KJ → Option R) (t2 : KJ) : Option R :=
 bif (decide (t2.2 < (List.length t2.1 : Int))) then if (0 : Int) ≤ t2.2 then if t2.2 < (List.length t2.1 : Int) then Option.bind (yy ((yK t2.1 t2.2).1, (1 : Int), (60 : Int))) fun r1 => Option.bind (bif (!r1) then some true else Option.bind (bif (decide (t2.2 > (0 : Int))) then if (0 : Int) ≤ (Go.IntKind.wrap .i64 (t2.2 - (1 : Int))) then if (Go.IntKind.wrap .i64 (t2.2 - (1 : Int))) < (List.length t2.1 : Int) then if (0 : Int) ≤ t2.2 then if t2.2 < (List.length t2.1 : Int) then some (decide ((yK t2.1 (Go.IntKind.wrap .i64 (t2.2 - (1 : Int)))).1 ≥ (yK t2.1 t2.2).1)) else none else none else none else none else some false) fun u3 => some u3) fun u2 => bif u2 then k0 (t2.1, false) else if (0 : Int) ≤ t2.2 then if t2.2 < (List.length t2.1 : Int) then Option.bind (bif ((yK t2.1 t2.2).2 != (0 : Int)) then if (0 : Int) ≤ (0 : Int) then if (0 : Int) ≤ t2.2 then if t2.2 ≤ (List.length t2.1 : Int) then if (0 : Int) ≤ t2.2 then if t2.2 < (List.length t2.1 : Int) then Option.bind (zF ((List.drop (Int.toNat (0 : Int)) (List.take (Int.toNat t2.2) t2.1)), (yK t2.1 t2.2).2)) fun r5 => some (decide (r5 < (0 : Int))) else none else none else none else none else none else some false) fun u4 => bif u4 then k0 (t2.1, false) else again (t2.1, (Go.IntKind.wrap .i64 (t2.2 + (1 : Int)))) else none else none else none else none else k1 t2.1
def qJ k0 k1 := zL (@jP R k0 k1) Y3
def YV (x : List ya) : Option Bool :=
 qJ (fun x6 => some x6.2) (fun x7 => some (decide ((List.length x7 : Int) ≤ (16 : Int)))) (x, (0 : Int))
def yin : List QF := [y5x, ykh]
def y5M (t : yed) : St := ⟨zl t.1 :: dd 2 (vI t.2 :: dd 52 []), []⟩
def ygI : Gk KJ := fun κ => jP (fun t => κ none ⟨zl t.1 :: .dead :: vB t.2 :: dd 53 [], []⟩) (fun t => κ (some 0) ⟨zl t :: dd 55 [], []⟩)
def yio : Lp := lpC 2 (unG yee y5M) @ygI lpN
theorem yoa : LF yin yio 136 2 Tryz.f136 0 y5M @ygI fun t => t := fun R κ again t => by kernel_rfl
theorem yob : LK yin yio 136 Tryz.f136 0 := lkN (u := (unG yee y5M)) (yw fun t => by kernel_rfl) yoa
theorem ysq : EV yin yio 136 Tryz.f136 ymn [(.sl 67 yp)] [.bool] YV := fun x => by kernel_rfl
def ysr : QF := ⟨136, YV, okN (n := 1) Tryz.func136 ⟨yob, trivial⟩ ysq⟩
abbrev K6 : Type := yk9
def jb (k0 : yvY → Option R) (k1 : List y8 → Option R) (again : K6 → Option R) (t2 : K6) : Option R :=
 bif (decide (t2.2 < (List.length t2.1 : Int))) then if (0 : Int) ≤ t2.2 then if t2.2 < (List.length t2.1 : Int) then Option.bind (yy ((ym t2.1 t2.2).1, (0 : Int), (999 : Int))) fun r1 => Option.bind (bif (!r1) then some true else if (0 : Int) ≤ t2.2 then if t2.2 < (List.length t2.1 : Int) then Option.bind (ze ((ym t2.1 t2.2).2.2)) fun r3 => some (!r3) else none else none) fun u2 => Option.bind (bif u2 then some true else if (0 : Int) ≤ t2.2 then if t2.2 < (List.length t2.1 : Int) then Option.bind (bif (!((ym t2.1 t2.2).2.1)) then if (0 : Int) ≤ t2.2 then if t2.2 < (List.length t2.1 : Int) then some ((ym t2.1 t2.2).2.2 != (0 : Int)) else none else none else some false) fun u5 => some u5 else none else none) fun u4 => bif u4 then k0 (t2.1, false) else again (t2.1, (Go.IntKind.wrap .i64 (t2.2 + (1 : Int)))) else none else none else k1 t2.1
def qe k0 k1 := zL (@jb R k0 k1) Y3
def Ze (x : List y8) : Option Bool :=
 qe (fun x6 => some x6.2) (fun x7 => some ((List.length x7 : Int) == (24 : Int))) (x, (0 : Int))
def yip : List QF := [y5x, yqF]
def y5N (t : yk9) : St := ⟨yW t.1 :: dd 2 (vI t.2 :: dd 41 []), []⟩
def ygJ : Gk K6 := fun κ => jb (fun t => κ none ⟨yW t.1 :: .dead :: vB t.2 :: dd 42 [], []⟩) (fun t => κ (some 0) ⟨yW t :: dd 44 [], []⟩)
def yiq : Lp := lpC 2 (unG yka y5N) @ygJ lpN
theorem yoc : LF yip yiq 137 2 Tryz.f137 0 y5N @ygJ fun t => t := fun R κ again t => by kernel_rfl
theorem yod : LK yip yiq 137 Tryz.f137 0 := lkN (u := (unG yka y5N)) (yw fun t => by kernel_rfl) yoc
theorem yss : EV yip yiq 137 Tryz.f137 ymo [(.sl 53 ye)] [.bool] Ze := fun x => by kernel_rfl
def yst : QF := ⟨137, Ze, okN (n := 1) Tryz.func137 ⟨yod, trivial⟩ yss⟩
abbrev KK : Type := yvZ
def jQ (k0 : List yb → Option R) (again : KK → Option R) (t3 : KK) : Option R :=
 bif (decide (t3.2.2.1 < (List.length t3.1 : Int))) then if (0 : Int) ≤ t3.2.2.1 then if t3.2.2.1 < (List.length t3.1 : Int) then Option.bind (bif ((yK t3.1 t3.2.2.1).2 == t3.2.1) then some (t3.2.1 != (0 : Int)) else some false) fun u1 => bif u1 then if (0 : Int) ≤ t3.2.2.1 then if t3.2.2.1 < (List.length t3.1 : Int) then if (List.length t3.2.2.2 + List.length ([(yK t3.1 t3.2.2.1).1] : List yb)) * 8 < 140737488355328 then again (t3.1, t3.2.1, (Go.IntKind.wrap .i64 (t3.2.2.1 + (1 : Int))), (t3.2.2.2 ++ ([(yK t3.1 t3.2.2.1).1] : List yb))) else none else none else none else again (t3.1, t3.2.1, (Go.IntKind.wrap .i64 (t3.2.2.1 + (1 : Int))), t3.2.2.2) else none else none else k0 t3.2.2.2
def qK k0 := zL (@jQ R k0) Y3
def ZP (x : yed) : Option (List yb) :=
 qK (fun x2 => some x2) (x.1, x.2, (0 : Int), ([] : List yb))
def yir : List QF := []
def y5O (t : yvZ) : St := ⟨zl t.1 :: vI t.2.1 :: dd 3 (.own 10000000 :: vI t.2.2.1 :: dd 27 []), [(10000000, .root true 3 yf t.2.2.2)]⟩
def ygK : Gk KK := fun κ => jQ (fun t => κ (some 0) ⟨dd 5 (.own 10000000 :: dd 28 []), [(10000000, .root true 3 yf t)]⟩)
def yis : Lp := lpC 3 (unG yw0 y5O) @ygK lpN
theorem yoe : LF yir yis 162 3 Tryz.f162 0 y5O @ygK fun t => t := fun R κ again t => by kernel_rfl
theorem yof : LK yir yis 162 Tryz.f162 0 := lkN (u := (unG yw0 y5O)) (yw fun t => by kernel_rfl) yoe
theorem ysu : EV yir yis 162 Tryz.f162 ymp yee [(.sl 3 yf)] ZP := fun x => by kernel_rfl
def ysv : QF := ⟨162, ZP, okN (n := 1) Tryz.func162 ⟨yof, trivial⟩ ysu⟩
abbrev K7 : Type := yw1
def jc (k0 : yr5 → Option R) (k1 : yef → Option R) (again : K7 → Option R) (t8 : K7) : Option R :=
 bif (decide (t8.2.1 < t8.1)) then if (0 : Int) ≤ t8.2.1 then if t8.2.1 < (List.length t8.2.2.2.2.2.2.1 : Int) then bif ((yc t8.2.2.2.2.2.2.1 t8.2.1).2.1 == t8.2.2.2.2.2.2.2.2.2.1) then k0 (false, t8.1, t8.2.2.1, t8.2.2.2.1, t8.2.2.2.2.1, t8.2.2.2.2.2.1, t8.2.2.2.2.2.2.1, t8.2.2.2.2.2.2.2.1) else again (t8.1, (Go.IntKind.wrap .i64 (t8.2.1 + (1 : Int))), t8.2.2.1, t8.2.2.2.1, t8.2.2.2.2.1, t8.2.2.2.2.2.1, t8.2.2.2.2.2.2.1, t8.2.2.2.2.2.2.2.1, t8.2.2.2.2.2.2.2.2.1, t8.2.2.2.2.2.2.2.2.2.1, t8.2.2.2.2.2.2.2.2.2.2.1, t8.2.2.2.2.2.2.2.2.2.2.2) else none else none else k1 (t8.1, t8.2.2.1, t8.2.2.2.1, t8.2.2.2.2.1, t8.2.2.2.2.2.1, t8.2.2.2.2.2.2.1, t8.2.2.2.2.2.2.2.1)
def K8 k0 k1 := zL (@jc R k0 k1) Y3
abbrev K9 : Type := yef
def jd (k0 : yf0 → Option R) (k1 : Qz9 → Option R) (again : K9 → Option R) (t2 : K9) : Option R :=
 bif (decide (t2.1 < (List.length t2.2.2.2.2.2.1 : Int))) then if (0 : Int) ≤ t2.1 then if t2.1 < (List.length t2.2.2.2.2.2.1 : Int) then Option.bind (Yd ((yc t2.2.2.2.2.2.1 t2.1).1)) fun r1 => Option.bind (bif (!r1) then some true else Option.bind (yy ((yc t2.2.2.2.2.2.1 t2.1).2.2.1, (1 : Int), (12 : Int))) fun r3 => some (!r3)) fun u2 => Option.bind (bif u2 then some true else Option.bind (zF (t2.2.2.2.1, (yc t2.2.2.2.2.2.1 t2.1).2.1)) fun r5 => some (decide (r5 < (0 : Int)))) fun u4 => Option.bind (bif u4 then some true else Option.bind (ZP (t2.2.2.2.1, (yc t2.2.2.2.2.2.1 t2.1).2.1)) fun r7 => some (decide ((List.length r7 : Int) > (0 : Int)))) fun u6 => Option.bind (bif u6 then some true else Option.bind (bif (decide (t2.1 > (0 : Int))) then if (0 : Int) ≤ (Go.IntKind.wrap .i64 (t2.1 - (1 : Int))) then if (Go.IntKind.wrap .i64 (t2.1 - (1 : Int))) < (List.length t2.2.2.2.2.2.1 : Int) then some (!Go.Op.bytesLess (ByteArray.toList ((yc t2.2.2.2.2.2.1 (Go.IntKind.wrap .i64 (t2.1 - (1 : Int)))).1)) (ByteArray.toList ((yc t2.2.2.2.2.2.1 t2.1).1))) else none else none else some false) fun u9 => some u9) fun u8 => bif u8 then k0 (false, t2.2) else K8 (fun x10 => k0 (x10.1, x10.2.2)) (fun x11 => again ((Go.IntKind.wrap .i64 (x11.1 + (1 : Int))), x11.2.1, x11.2.2.1, x11.2.2.2.1, x11.2.2.2.2.1, x11.2.2.2.2.2.1, x11.2.2.2.2.2.2)) (t2.1, (0 : Int), t2.2.1, t2.2.2.1, t2.2.2.2.1, t2.2.2.2.2.1, t2.2.2.2.2.2.1, t2.2.2.2.2.2.2, (yc t2.2.2.2.2.2.1 t2.1).1, (yc t2.2.2.2.2.2.1 t2.1).2.1, (yc t2.2.2.2.2.2.1 t2.1).2.2.1, (yc t2.2.2.2.2.2.1 t2.1).2.2.2) else none else none else k1 t2.2
def qf k0 k1 := zL (@jd R k0 k1) Y3
def JU (x : Qz9) : Option Bool :=
 qf (fun x12 => some x12.1) (fun x13 => some (decide ((List.length x13.2.2.2.2.1 : Int) ≤ (6 : Int)))) ((0 : Int), x.1, x.2.1, x.2.2.1, x.2.2.2.1, x.2.2.2.2.1, x.2.2.2.2.2)
def yda : List QF := [yqE, y5x, ykh, ysv]
def y5P (t : yw1) : St := ⟨.dead :: .box 1 0 :: .dead :: vI t.1 :: .box 4 0 :: vI t.2.1 :: dd 73 [], [(1, .box [z9 t.2.2.1, yA t.2.2.2.1, zl t.2.2.2.2.1, yW t.2.2.2.2.2.1, Y0 t.2.2.2.2.2.2.1, vI t.2.2.2.2.2.2.2.1]), (4, .box [vS t.2.2.2.2.2.2.2.2.1, vI t.2.2.2.2.2.2.2.2.2.1, vI t.2.2.2.2.2.2.2.2.2.2.1, vB t.2.2.2.2.2.2.2.2.2.2.2])]⟩
def ygL : Gk K7 := fun κ => jc (fun t => κ none ⟨.dead :: .box 1 0 :: vB t.1 :: vI t.2.1 :: dd 75 [], [(1, .box [z9 t.2.2.1, yA t.2.2.2.1, zl t.2.2.2.2.1, yW t.2.2.2.2.2.1, Y0 t.2.2.2.2.2.2.1, vI t.2.2.2.2.2.2.2])]⟩) (fun t => κ (some 2) ⟨.dead :: .box 1 0 :: .dead :: vI t.1 :: dd 75 [], [(1, .box [z9 t.2.1, yA t.2.2.1, zl t.2.2.2.1, yW t.2.2.2.2.1, Y0 t.2.2.2.2.2.1, vI t.2.2.2.2.2.2])]⟩)
def y5Q (t : yef) : St := ⟨.dead :: .box 1 0 :: .dead :: vI t.1 :: dd 75 [], [(1, .box [z9 t.2.1, yA t.2.2.1, zl t.2.2.2.1, yW t.2.2.2.2.1, Y0 t.2.2.2.2.2.1, vI t.2.2.2.2.2.2])]⟩
def ygM : Gk K9 := fun κ => jd (fun t => κ none ⟨.dead :: .box 1 0 :: vB t.1 :: dd 76 [], [(1, .box [z9 t.2.1, yA t.2.2.1, zl t.2.2.2.1, yW t.2.2.2.2.1, Y0 t.2.2.2.2.2.1, vI t.2.2.2.2.2.2])]⟩) (fun t => κ (some 0) ⟨.dead :: .box 1 0 :: dd 77 [], [(1, .box [z9 t.1, yA t.2.1, zl t.2.2.1, yW t.2.2.2.1, Y0 t.2.2.2.2.1, vI t.2.2.2.2.2])]⟩)
def ydb : Lp := lpC 2 (unG ykb y5Q) @ygM (lpC 8 (unG yw2 y5P) @ygL lpN)
theorem yog : LF yda ydb 138 8 Tryz.f138 1 y5P @ygL fun t => t := fun R κ again t => by kernel_rfl
theorem yoh : LK yda ydb 138 Tryz.f138 1 := lkN (u := (unG yw2 y5P)) (yw fun t => by kernel_rfl) yog
theorem yoi : LF yda ydb 138 2 Tryz.f138 0 y5Q @ygM fun t => t := fun R κ again t => by kernel_rfl
theorem yoj : LK yda ydb 138 Tryz.f138 0 := lkN (u := (unG ykb y5Q)) (yw fun t => by kernel_rfl) yoi
theorem ysw : EV yda ydb 138 Tryz.f138 ymq qz9 [.bool] JU := fun x => by kernel_rfl
def yyV : QF := ⟨138, JU, okN (n := 2) Tryz.func138 ⟨yoj, yoh, trivial⟩ ysw⟩
def Jt (x : ykc) : Option yw3 :=
 Option.bind (yy (x.2.1, (0 : Int), (Go.IntKind.wrap .i64 ((List.length x.1 : Int) - (1 : Int))))) fun r1 => Option.bind (bif (!r1) then some true else if (0 : Int) ≤ x.2.1 then if x.2.1 < (List.length x.1 : Int) then some (!((ym x.1 x.2.1).2.1)) else none else none) fun u2 => Option.bind (bif u2 then some true else if (0 : Int) ≤ x.2.1 then if x.2.1 < (List.length x.1 : Int) then some ((ym x.1 x.2.1).1 != x.2.2) else none else none) fun u3 => bif u3 then some ((0 : Int), false) else if (0 : Int) ≤ x.2.1 then if x.2.1 < (List.length x.1 : Int) then some ((ym x.1 x.2.1).2.2, true) else none else none
theorem ysx : EV [y5x] lpN 163 Tryz.f163 ymr ykd yw4 Jt := fun x => by kernel_rfl
def yyW : QF := ⟨163, Jt, okN (n := 0) Tryz.func163 trivial ysx⟩
abbrev W5 : Type := ykc
def YW (k0 : Int → Option R) (again : W5 → Option R) (t3 : W5) : Option R :=
 bif (decide (t3.2.2 < (List.length t3.1 : Int))) then if (0 : Int) ≤ t3.2.2 then if t3.2.2 < (List.length t3.1 : Int) then bif (ym t3.1 t3.2.2).2.1 then again (t3.1, (Go.IntKind.wrap .i64 (t3.2.1 + (1 : Int))), (Go.IntKind.wrap .i64 (t3.2.2 + (1 : Int)))) else again (t3.1, t3.2.1, (Go.IntKind.wrap .i64 (t3.2.2 + (1 : Int)))) else none else none else k0 t3.2.1
def vC k0 := zL (@YW R k0) Y3
def je (x : List y8) : Option Int :=
 vC (fun x1 => some x1) (x, (0 : Int), (0 : Int))
def yit : List QF := []
def y5R (t : ykc) : St := ⟨yW t.1 :: dd 2 (vI t.2.1 :: vI t.2.2 :: dd 14 []), []⟩
def ygN : Gk W5 := fun κ => YW (fun t => κ (some 0) ⟨dd 3 (vI t :: dd 15 []), []⟩)
def yiu : Lp := lpC 3 (unG ykd y5R) @ygN lpN
theorem yok : LF yit yiu 164 3 Tryz.f164 0 y5R @ygN fun t => t := fun R κ again t => by kernel_rfl
theorem yol : LK yit yiu 164 Tryz.f164 0 := lkN (u := (unG ykd y5R)) (yw fun t => by kernel_rfl) yok
theorem ysy : EV yit yiu 164 Tryz.f164 yms [(.sl 53 ye)] [(.int .i64)] je := fun x => by kernel_rfl
def yyX : QF := ⟨164, je, okN (n := 1) Tryz.func164 ⟨yol, trivial⟩ ysy⟩
abbrev WW : Type := yr6
def Zp (k0 : yyl → Option R) (k1 : yhO → Option R) (again : WW → Option R) (t14 : WW) : Option R :=
 bif (decide (t14.2.2.1 < t14.2.1)) then if (0 : Int) ≤ t14.2.2.1 then if t14.2.2.1 < (List.length t14.2.2.2.2.2.2.2.2.2 : Int) then Option.bind (bif ((y6 t14.2.2.2.2.2.2.2.2.2 t14.2.2.1).2.2.1 == (1 : Int)) then if (0 : Int) ≤ t14.2.2.1 then if t14.2.2.1 < (List.length t14.2.2.2.2.2.2.2.2.2 : Int) then if (0 : Int) ≤ t14.2.1 then if t14.2.1 < (List.length t14.2.2.2.2.2.2.2.2.2 : Int) then some ((y6 t14.2.2.2.2.2.2.2.2.2 t14.2.2.1).2.2.2.1 == (y6 t14.2.2.2.2.2.2.2.2.2 t14.2.1).2.2.2.1) else none else none else none else none else some false) fun u4 => bif u4 then k0 (false, t14.1, t14.2.1, t14.2.2.2) else again (t14.1, t14.2.1, (Go.IntKind.wrap .i64 (t14.2.2.1 + (1 : Int))), t14.2.2.2.1, t14.2.2.2.2.1, t14.2.2.2.2.2.1, t14.2.2.2.2.2.2.1, t14.2.2.2.2.2.2.2.1, t14.2.2.2.2.2.2.2.2.1, t14.2.2.2.2.2.2.2.2.2) else none else none else k1 (t14.1, t14.2.1, t14.2.2.2)
def WX k0 k1 := zL (@Zp R k0 k1) Y3
abbrev Ka : Type := yhO
def jg (k0 : yr5 → Option R) (k1 : yef → Option R) (again : Ka → Option R) (t4 : Ka) : Option R :=
 bif (decide (t4.2.1 < (List.length t4.2.2.2.2.2.2.2.2 : Int))) then if (0 : Int) ≤ t4.2.1 then if t4.2.1 < (List.length t4.2.2.2.2.2.2.2.2 : Int) then Option.bind (zF (t4.2.2.2.2.1, (y6 t4.2.2.2.2.2.2.2.2 t4.2.1).2.1)) fun r2 => bif (decide (r2 < (0 : Int))) then k0 (false, t4.1, t4.2.2.1, t4.2.2.2.1, t4.2.2.2.2.1, t4.2.2.2.2.2.1, t4.2.2.2.2.2.2.1, t4.2.2.2.2.2.2.2.1) else if (0 : Int) ≤ t4.2.1 then if t4.2.1 < (List.length t4.2.2.2.2.2.2.2.2 : Int) then bif ((y6 t4.2.2.2.2.2.2.2.2 t4.2.1).2.2.1 != (1 : Int)) then again (t4.1, (Go.IntKind.wrap .i64 (t4.2.1 + (1 : Int))), t4.2.2.1, t4.2.2.2.1, t4.2.2.2.2.1, t4.2.2.2.2.2.1, t4.2.2.2.2.2.2.1, t4.2.2.2.2.2.2.2.1, t4.2.2.2.2.2.2.2.2) else if (0 : Int) ≤ t4.2.1 then if t4.2.1 < (List.length t4.2.2.2.2.2.2.2.2 : Int) then if (0 : Int) ≤ t4.2.1 then if t4.2.1 < (List.length t4.2.2.2.2.2.2.2.2 : Int) then Option.bind (Jt (t4.2.2.2.2.2.1, (y6 t4.2.2.2.2.2.2.2.2 t4.2.1).2.2.2.1, (y6 t4.2.2.2.2.2.2.2.2 t4.2.1).2.2.2.2)) fun r3 => bif (!r3.2) then k0 (false, (Go.IntKind.wrap .i64 (t4.1 + (1 : Int))), t4.2.2.1, t4.2.2.2.1, t4.2.2.2.2.1, t4.2.2.2.2.2.1, t4.2.2.2.2.2.2.1, t4.2.2.2.2.2.2.2.1) else WX (fun x5 => k0 (x5.1, x5.2.1, x5.2.2.2.1, x5.2.2.2.2.1, x5.2.2.2.2.2.1, x5.2.2.2.2.2.2.1, x5.2.2.2.2.2.2.2.1, x5.2.2.2.2.2.2.2.2.1)) (fun x6 => again (x6.1, (Go.IntKind.wrap .i64 (x6.2.1 + (1 : Int))), x6.2.2.1, x6.2.2.2.1, x6.2.2.2.2.1, x6.2.2.2.2.2.1, x6.2.2.2.2.2.2.1, x6.2.2.2.2.2.2.2.1, x6.2.2.2.2.2.2.2.2)) ((Go.IntKind.wrap .i64 (t4.1 + (1 : Int))), t4.2.1, (0 : Int), t4.2.2.1, t4.2.2.2.1, t4.2.2.2.2.1, t4.2.2.2.2.2.1, t4.2.2.2.2.2.2.1, t4.2.2.2.2.2.2.2.1, t4.2.2.2.2.2.2.2.2) else none else none else none else none else none else none else none else none else k1 (t4.1, t4.2.2.1, t4.2.2.2.1, t4.2.2.2.2.1, t4.2.2.2.2.2.1, t4.2.2.2.2.2.2.1, t4.2.2.2.2.2.2.2.1)
def qg k0 k1 := zL (@jg R k0 k1) Y3
def JV (x : Qz9) : Option Bool :=
 Option.bind (yI (x.1, x.2.1)) fun r1 => qg (fun x7 => some x7.1) (fun x8 => Option.bind (je x8.2.2.2.2.1) fun r9 => some (x8.1 == r9)) ((0 : Int), (0 : Int), x.1, x.2.1, x.2.2.1, x.2.2.2.1, x.2.2.2.2.1, x.2.2.2.2.2, r1)
def ydc : List QF := [yii, ykh, yyW, yyX]
def y3k (t : yr6) : St := ⟨.dead :: .box 1 0 :: .dead :: .own 10000000 :: vI t.1 :: vI t.2.1 :: dd 2 (vI t.2.2.1 :: dd 73 []), [(1, .box [z9 t.2.2.2.1, yA t.2.2.2.2.1, zl t.2.2.2.2.2.1, yW t.2.2.2.2.2.2.1, Y0 t.2.2.2.2.2.2.2.1, vI t.2.2.2.2.2.2.2.2.1]), (10000000, .root true 63 yg t.2.2.2.2.2.2.2.2.2)]⟩
def ydd : Gk WW := fun κ => Zp (fun t => κ none ⟨.dead :: .box 1 0 :: vB t.1 :: .own 10000000 :: vI t.2.1 :: vI t.2.2.1 :: dd 76 [], [(1, .box [z9 t.2.2.2.1, yA t.2.2.2.2.1, zl t.2.2.2.2.2.1, yW t.2.2.2.2.2.2.1, Y0 t.2.2.2.2.2.2.2.1, vI t.2.2.2.2.2.2.2.2.1]), (10000000, .root true 63 yg t.2.2.2.2.2.2.2.2.2)]⟩) (fun t => κ (some 2) ⟨.dead :: .box 1 0 :: .dead :: .own 10000000 :: vI t.1 :: vI t.2.1 :: dd 76 [], [(1, .box [z9 t.2.2.1, yA t.2.2.2.1, zl t.2.2.2.2.1, yW t.2.2.2.2.2.1, Y0 t.2.2.2.2.2.2.1, vI t.2.2.2.2.2.2.2.1]), (10000000, .root true 63 yg t.2.2.2.2.2.2.2.2)]⟩)
def y5S (t : yhO) : St := ⟨.dead :: .box 1 0 :: .dead :: .own 10000000 :: vI t.1 :: vI t.2.1 :: dd 76 [], [(1, .box [z9 t.2.2.1, yA t.2.2.2.1, zl t.2.2.2.2.1, yW t.2.2.2.2.2.1, Y0 t.2.2.2.2.2.2.1, vI t.2.2.2.2.2.2.2.1]), (10000000, .root true 63 yg t.2.2.2.2.2.2.2.2)]⟩
def ygO : Gk Ka := fun κ => jg (fun t => κ none ⟨.dead :: .box 1 0 :: vB t.1 :: .dead :: vI t.2.1 :: dd 77 [], [(1, .box [z9 t.2.2.1, yA t.2.2.2.1, zl t.2.2.2.2.1, yW t.2.2.2.2.2.1, Y0 t.2.2.2.2.2.2.1, vI t.2.2.2.2.2.2.2])]⟩) (fun t => κ (some 0) ⟨.dead :: .box 1 0 :: dd 2 (vI t.1 :: dd 77 []), [(1, .box [z9 t.2.1, yA t.2.2.1, zl t.2.2.2.1, yW t.2.2.2.2.1, Y0 t.2.2.2.2.2.1, vI t.2.2.2.2.2.2])]⟩)
def yde : Lp := lpC 4 (unG yke y5S) @ygO (lpC 14 (unG yw5 y3k) @ydd lpN)
theorem yiv : LF ydc yde 139 14 Tryz.f139 1 y3k @ydd fun t => t := fun R κ again t => by kernel_rfl
theorem yiw : LK ydc yde 139 Tryz.f139 1 := lkN (u := (unG yw5 y3k)) (yw fun t => by kernel_rfl) yiv
theorem yom : LF ydc yde 139 4 Tryz.f139 0 y5S @ygO fun t => t := fun R κ again t => by kernel_rfl
theorem yon : LK ydc yde 139 Tryz.f139 0 := lkN (u := (unG yke y5S)) (yw fun t => by kernel_rfl) yom
theorem ysz : EV ydc yde 139 Tryz.f139 ymt qz9 [.bool] JV := fun x => by kernel_rfl
def yyY : QF := ⟨139, JV, okN (n := 2) Tryz.func139 ⟨yon, yiw, trivial⟩ ysz⟩
abbrev KL : Type := yef
def jR (k0 : yf0 → Option R) (k1 : Qz9 → Option R) (again : KL → Option R) (t2 : KL) : Option R :=
 bif (decide (t2.1 < (List.length t2.2.2.2.1 : Int))) then if (0 : Int) ≤ t2.1 then if t2.1 < (List.length t2.2.2.2.1 : Int) then bif (decide ((yK t2.2.2.2.1 t2.1).1 ≥ t2.2.2.2.2.2.2)) then k0 (false, t2.2) else again ((Go.IntKind.wrap .i64 (t2.1 + (1 : Int))), t2.2.1, t2.2.2.1, t2.2.2.2.1, t2.2.2.2.2.1, t2.2.2.2.2.2.1, t2.2.2.2.2.2.2) else none else none else k1 t2.2
def qL k0 k1 := zL (@jR R k0 k1) Y3
def yG (x : Qz9) : Option Bool :=
 qL (fun x1 => some x1.1) (fun x2 => Option.bind (Ye (x2.1, x2.2.1)) fun r3 => Option.bind (bif r3 then Option.bind (YV x2.2.2.1) fun r5 => some r5 else some false) fun u4 => Option.bind (bif u4 then Option.bind (Ze x2.2.2.2.1) fun r7 => some r7 else some false) fun u6 => Option.bind (bif u6 then Option.bind (yy (x2.2.2.2.2.2, (1 : Int), (61 : Int))) fun r9 => some r9 else some false) fun u8 => Option.bind (bif u8 then Option.bind (JU x2) fun r11 => some r11 else some false) fun u10 => Option.bind (bif u10 then Option.bind (JV x2) fun r13 => some r13 else some false) fun u12 => some u12) ((0 : Int), x.1, x.2.1, x.2.2.1, x.2.2.2.1, x.2.2.2.2.1, x.2.2.2.2.2)
def yix : List QF := [y5x, yxT, ysr, yst, yyV, yyY]
def y5T (t : yef) : St := ⟨.dead :: .box 1 0 :: .dead :: vI t.1 :: dd 42 [], [(1, .box [z9 t.2.1, yA t.2.2.1, zl t.2.2.2.1, yW t.2.2.2.2.1, Y0 t.2.2.2.2.2.1, vI t.2.2.2.2.2.2])]⟩
def ygP : Gk KL := fun κ => jR (fun t => κ none ⟨.dead :: .box 1 0 :: vB t.1 :: dd 43 [], [(1, .box [z9 t.2.1, yA t.2.2.1, zl t.2.2.2.1, yW t.2.2.2.2.1, Y0 t.2.2.2.2.2.1, vI t.2.2.2.2.2.2])]⟩) (fun t => κ (some 0) ⟨.dead :: .box 1 0 :: dd 44 [], [(1, .box [z9 t.1, yA t.2.1, zl t.2.2.1, yW t.2.2.2.1, Y0 t.2.2.2.2.1, vI t.2.2.2.2.2])]⟩)
def yiy : Lp := lpC 2 (unG ykb y5T) @ygP lpN
theorem yoo : LF yix yiy 108 2 Tryz.f108 0 y5T @ygP fun t => t := fun R κ again t => by kernel_rfl
theorem yop : LK yix yiy 108 Tryz.f108 0 := lkN (u := (unG ykb y5T)) (yw fun t => by kernel_rfl) yoo
theorem ysA : EV yix yiy 108 Tryz.f108 ymu qz9 [.bool] yG := fun x => by kernel_rfl
def yiz : QF := ⟨108, yG, okN (n := 1) Tryz.func108 ⟨yop, trivial⟩ ysA⟩
abbrev KM : Type := ygs ⊕ yhP
def YF (k0 : Unit → Option R) (k1 : List y9 → Option R) (again : KM → Option R) : KM → Option R
 | .inl t3 => bif (decide (t3.1 < (List.length t3.2 : Int))) then if (0 : Int) ≤ t3.1 then if t3.1 < (List.length t3.2 : Int) then if (List.length ([] : List y7) + List.length (yl t3.2 t3.1)) * 40 < 140737488355328 then if List.length ([(([] : List y7) ++ (yl t3.2 t3.1))] : List y9) * 24 < 140737488355328 then again (Sum.inr ((Go.IntKind.wrap .i64 (t3.1 + (1 : Int))), t3.2, ([(([] : List y7) ++ (yl t3.2 t3.1))] : List y9))) else none else none else none else none else k0 ()
 | .inr t3 => bif (decide (t3.1 < (List.length t3.2.1 : Int))) then if (0 : Int) ≤ t3.1 then if t3.1 < (List.length t3.2.1 : Int) then if (List.length ([] : List y7) + List.length (yl t3.2.1 t3.1)) * 40 < 140737488355328 then if (List.length t3.2.2 + List.length ([(([] : List y7) ++ (yl t3.2.1 t3.1))] : List y9)) * 24 < 140737488355328 then again (Sum.inr ((Go.IntKind.wrap .i64 (t3.1 + (1 : Int))), t3.2.1, (t3.2.2 ++ ([(([] : List y7) ++ (yl t3.2.1 t3.1))] : List y9)))) else none else none else none else none else k1 t3.2.2
def qM k0 k1 := zL (@YF R k0 k1) Y3
def za (x : List y9) : Option (List y9) :=
 qM (fun x1 => some ([] : List y9)) (fun x2 => some x2) (Sum.inl ((0 : Int), x))
def ydf : List QF := []
def y2y (t : ygs) : St := ⟨.dead :: .box 1 0 :: .box 2 0 :: .box 3 0 :: vI t.1 :: dd 21 [], [(1, .box [Yg t.2]), (2, .box [.nils]), (3, .box [.nils])]⟩
theorem yf5 : ∀ s t, unG yqq y2y s = some t → y2y t = s := yw fun t => by kernel_rfl
def y2z (t : yhP) : St := ⟨.dead :: .box 1 0 :: .box 2 0 :: .box 3 0 :: vI t.1 :: dd 21 [], [(1, .box [Yg t.2.1]), (2, .box [.nils]), (3, .box [.own 10000000]), (10000000, .root true 58 yn t.2.2)]⟩
theorem yf6 : ∀ s t, unG yqu y2z s = some t → y2z t = s := yw fun t => by kernel_rfl
def y2A : (ygs ⊕ yhP) → St := Sum.elim y2y y2z
def y5U (s : St) : Option (ygs ⊕ yhP) := ((unG yqq y2y s).map Sum.inl).or (((unG yqu y2z) s).map Sum.inr)
theorem yf7 : ∀ s t, y5U s = some t → y2A t = s := y95 yf5 yf6
def yaD : Gk KM := fun κ => YF (fun t => κ (some 0) ⟨dd 2 (.box 2 0 :: .box 3 0 :: dd 22 []), [(2, .box [.nils]), (3, .box [.nils])]⟩) (fun t => κ (some 0) ⟨dd 2 (.box 2 0 :: .box 3 0 :: dd 22 []), [(2, .box [.nils]), (3, .box [.own 10000000]), (10000000, .root true 58 yn t)]⟩)
def ydg : Lp := lpC 3 y5U @yaD lpN
theorem yf8 : LF ydf ydg 165 3 Tryz.f165 0 y2A @yaD fun v : ygs => .inl v := fun R κ again v => by kernel_rfl
theorem yf9 : LF ydf ydg 165 3 Tryz.f165 0 y2A @yaD fun v : yhP => .inr v := fun R κ again v => by kernel_rfl
theorem yoq : LF ydf ydg 165 3 Tryz.f165 0 y2A @yaD fun t => t := (LC.sum yf8 yf9)
theorem yor : LK ydf ydg 165 Tryz.f165 0 := lkN (u := y5U) yf7 yoq
theorem ysB : EV ydf ydg 165 Tryz.f165 ymv [(.sl 58 yn)] [(.sl 58 yn)] za := fun x => by kernel_rfl
def yxU : QF := ⟨165, za, okN (n := 1) Tryz.func165 ⟨yor, trivial⟩ ysB⟩
abbrev KN : Type := ykD ⊕ yhQ
def YG (k0 : List yb → Option R) (k1 : Qz8 → Option R) (again : KN → Option R) : KN → Option R
 | .inl t3 => bif (decide (t3.1 < (List.length t3.2.2.1 : Int))) then if (0 : Int) ≤ t3.1 then if t3.1 < (List.length t3.2.2.1 : Int) then Option.bind (za (yd t3.2.2.1 t3.1)) fun r1 => if List.length ([r1] : List y0) * 24 < 140737488355328 then again (Sum.inr ((Go.IntKind.wrap .i64 (t3.1 + (1 : Int))), t3.2.1, t3.2.2.1, t3.2.2.2, ([r1] : List y0))) else none else none else none else k0 t3.2.2.2
 | .inr t3 => bif (decide (t3.1 < (List.length t3.2.2.1 : Int))) then if (0 : Int) ≤ t3.1 then if t3.1 < (List.length t3.2.2.1 : Int) then Option.bind (za (yd t3.2.2.1 t3.1)) fun r2 => if (List.length t3.2.2.2.2 + List.length ([r2] : List y0)) * 24 < 140737488355328 then again (Sum.inr ((Go.IntKind.wrap .i64 (t3.1 + (1 : Int))), t3.2.1, t3.2.2.1, t3.2.2.2.1, (t3.2.2.2.2 ++ ([r2] : List y0)))) else none else none else none else k1 t3.2.2.2
def qN k0 k1 := zL (@YG R k0 k1) Y3
def YX (x : Qz8) : Option Qz8 :=
 if (List.length ([] : List yb) + List.length x.1) * 8 < 140737488355328 then qN (fun x3 => some (x3, ([] : List y0))) (fun x4 => some x4) (Sum.inl ((0 : Int), x.1, x.2, (([] : List yb) ++ x.1))) else none
def ydh : List QF := [yxU]
def y2B (t : ykD) : St := ⟨.dead :: .box 1 0 :: .box 2 0 :: .box 3 0 :: vI t.1 :: dd 24 [], [(1, .box [z9 t.2.1, yA t.2.2.1]), (2, .box [.nils, .nils]), (3, .box [.own 10000000, .nils]), (10000000, .root true 3 yf t.2.2.2)]⟩
theorem yfa : ∀ s t, unG yw6 y2B s = some t → y2B t = s := yw fun t => by kernel_rfl
def y2C (t : yhQ) : St := ⟨.dead :: .box 1 0 :: .box 2 0 :: .box 3 0 :: vI t.1 :: dd 24 [], [(1, .box [z9 t.2.1, yA t.2.2.1]), (2, .box [.nils, .nils]), (3, .box [.own 10000000, .own 10000001]), (10000000, .root true 3 yf t.2.2.2.1), (10000001, .root true 99 yj t.2.2.2.2)]⟩
theorem yfb : ∀ s t, unG yqv y2C s = some t → y2C t = s := yw fun t => by kernel_rfl
def y2D : (ykD ⊕ yhQ) → St := Sum.elim y2B y2C
def y5V (s : St) : Option (ykD ⊕ yhQ) := ((unG yw6 y2B s).map Sum.inl).or (((unG yqv y2C) s).map Sum.inr)
theorem yfc : ∀ s t, y5V s = some t → y2D t = s := y95 yfa yfb
def yaE : Gk KN := fun κ => YG (fun t => κ (some 0) ⟨dd 2 (.box 2 0 :: .box 3 0 :: dd 25 []), [(2, .box [.nils, .nils]), (3, .box [.own 10000000, .nils]), (10000000, .root true 3 yf t)]⟩) (fun t => κ (some 0) ⟨dd 2 (.box 2 0 :: .box 3 0 :: dd 25 []), [(2, .box [.nils, .nils]), (3, .box [.own 10000000, .own 10000001]), (10000000, .root true 3 yf t.1), (10000001, .root true 99 yj t.2)]⟩)
def ydi : Lp := lpC 3 y5V @yaE lpN
theorem yfd : LF ydh ydi 140 3 Tryz.f140 0 y2D @yaE fun v : ykD => .inl v := fun R κ again v => by kernel_rfl
theorem yfe : LF ydh ydi 140 3 Tryz.f140 0 y2D @yaE fun v : yhQ => .inr v := fun R κ again v => by kernel_rfl
theorem yos : LF ydh ydi 140 3 Tryz.f140 0 y2D @yaE fun t => t := (LC.sum yfd yfe)
theorem yot : LK ydh ydi 140 Tryz.f140 0 := lkN (u := y5V) yfc yos
theorem ysC : EV ydh ydi 140 Tryz.f140 ymw qz8 qz8 YX := fun x => by kernel_rfl
def ysD : QF := ⟨140, YX, okN (n := 1) Tryz.func140 ⟨yot, trivial⟩ ysC⟩
def zS (x : List y8) : Option (List y8) :=
 if (List.length ([] : List y8) + List.length x) * 24 < 140737488355328 then some (([] : List y8) ++ x) else none
theorem ysE : EV [] lpN 141 Tryz.f141 ymx [(.sl 53 ye)] [(.sl 53 ye)] zS := fun x => by kernel_rfl
def ysF : QF := ⟨141, zS, okN (n := 0) Tryz.func141 trivial ysE⟩
def yk (x : Qz9) : Option Qz9 :=
 Option.bind (YX (x.1, x.2.1)) fun r1 => if (List.length ([] : List ya) + List.length x.2.2.1) * 16 < 140737488355328 then Option.bind (zS x.2.2.2.1) fun r2 => if (List.length ([] : List yh) + List.length x.2.2.2.2.1) * 40 < 140737488355328 then some (r1.1, r1.2, (([] : List ya) ++ x.2.2.1), r2, (([] : List yh) ++ x.2.2.2.2.1), x.2.2.2.2.2) else none else none
theorem ysG : EV [ysD, ysF] lpN 109 Tryz.f109 ymy qz9 qz9 yk := fun x => by kernel_rfl
def ydj : QF := ⟨109, yk, okN (n := 0) Tryz.func109 trivial ysG⟩
def Zf (x : ykE) : Option Int :=
 Option.bind (yG (x.1, x.2.1, x.2.2.1, x.2.2.2.1, x.2.2.2.2.1, x.2.2.2.2.2.1)) fun r1 => Option.bind (bif (!r1) then some true else Option.bind (Yd x.2.2.2.2.2.2) fun r3 => some (!r3)) fun u2 => bif u2 then some (1 : Int) else some (0 : Int)
theorem ysH : EV [yiz, yqE] lpN 142 Tryz.f142 ymz ykF [(.int .i64)] Zf := fun x => by kernel_rfl
def ysI : QF := ⟨142, Zf, okN (n := 0) Tryz.func142 trivial ysH⟩
abbrev vR : Type := yw7
def JW (k0 : Int → Option R) (k1 : Unit → Option R) (again : vR → Option R) (t2 : vR) : Option R :=
 bif (decide (t2.2.1 < (List.length t2.2.2.2.2.2.2.1 : Int))) then if (0 : Int) ≤ t2.2.1 then if t2.2.1 < (List.length t2.2.2.2.2.2.2.1 : Int) then bif ((ByteArray.toList ((yc t2.2.2.2.2.2.2.1 t2.2.1).1)) == (ByteArray.toList t2.1)) then k0 t2.2.1 else again (t2.1, (Go.IntKind.wrap .i64 (t2.2.1 + (1 : Int))), t2.2.2.1, t2.2.2.2.1, t2.2.2.2.2.1, t2.2.2.2.2.2.1, t2.2.2.2.2.2.2.1, t2.2.2.2.2.2.2.2) else none else none else k1 ()
def y00 k0 k1 := zL (@JW R k0 k1) Y3
def zd (x : ykE) : Option Int :=
 y00 (fun x1 => some x1) (fun x2 => some (-1 : Int)) (x.2.2.2.2.2.2, (0 : Int), x.1, x.2.1, x.2.2.1, x.2.2.2.1, x.2.2.2.2.1, x.2.2.2.2.2.1)
def yiA : List QF := []
def y5W (t : yw7) : St := ⟨.dead :: vS t.1 :: .box 2 0 :: dd 2 (vI t.2.1 :: dd 16 []), [(2, .box [z9 t.2.2.1, yA t.2.2.2.1, zl t.2.2.2.2.1, yW t.2.2.2.2.2.1, Y0 t.2.2.2.2.2.2.1, vI t.2.2.2.2.2.2.2])]⟩
def ygQ : Gk vR := fun κ => JW (fun t => κ none ⟨dd 4 (vI t :: dd 17 []), []⟩) (fun t => κ (some 0) ⟨dd 22 [], []⟩)
def yiB : Lp := lpC 2 (unG yw8 y5W) @ygQ lpN
theorem yov : LF yiA yiB 143 2 Tryz.f143 0 y5W @ygQ fun t => t := fun R κ again t => by kernel_rfl
theorem yow : LK yiA yiB 143 Tryz.f143 0 := lkN (u := (unG yw8 y5W)) (yw fun t => by kernel_rfl) yov
theorem ysJ : EV yiA yiB 143 Tryz.f143 ymA ykF [(.int .i64)] zd := fun x => by kernel_rfl
def ygR : QF := ⟨143, zd, okN (n := 1) Tryz.func143 ⟨yow, trivial⟩ ysJ⟩
abbrev W6 : Type := yw9
def W7 (k0 : yym → Option R) (again : W6 → Option R) (t4 : W6) : Option R :=
 bif (decide (t4.2.2.2.2.1 < (List.length t4.1 : Int))) then Option.bind (bif (!t4.2.2.2.1) then if (0 : Int) ≤ t4.2.2.2.2.1 then if t4.2.2.2.2.1 < (List.length t4.1 : Int) then some (decide ((yK t4.1 t4.2.2.2.2.1).1 > t4.2.1)) else none else none else some false) fun u2 => bif u2 then if (List.length t4.2.2.2.2.2 + List.length ([(t4.2.1, t4.2.2.1)] : List ya)) * 16 < 140737488355328 then if (0 : Int) ≤ t4.2.2.2.2.1 then if t4.2.2.2.2.1 < (List.length t4.1 : Int) then if (List.length (t4.2.2.2.2.2 ++ ([(t4.2.1, t4.2.2.1)] : List ya)) + List.length ([((yK t4.1 t4.2.2.2.2.1).1, (yK t4.1 t4.2.2.2.2.1).2)] : List ya)) * 16 < 140737488355328 then again (t4.1, t4.2.1, t4.2.2.1, true, (Go.IntKind.wrap .i64 (t4.2.2.2.2.1 + (1 : Int))), ((t4.2.2.2.2.2 ++ ([(t4.2.1, t4.2.2.1)] : List ya)) ++ ([((yK t4.1 t4.2.2.2.2.1).1, (yK t4.1 t4.2.2.2.2.1).2)] : List ya))) else none else none else none else none else if (0 : Int) ≤ t4.2.2.2.2.1 then if t4.2.2.2.2.1 < (List.length t4.1 : Int) then if (List.length t4.2.2.2.2.2 + List.length ([((yK t4.1 t4.2.2.2.2.1).1, (yK t4.1 t4.2.2.2.2.1).2)] : List ya)) * 16 < 140737488355328 then again (t4.1, t4.2.1, t4.2.2.1, t4.2.2.2.1, (Go.IntKind.wrap .i64 (t4.2.2.2.2.1 + (1 : Int))), (t4.2.2.2.2.2 ++ ([((yK t4.1 t4.2.2.2.2.1).1, (yK t4.1 t4.2.2.2.2.1).2)] : List ya))) else none else none else none else k0 (t4.1, t4.2.1, t4.2.2.1, t4.2.2.2.1, t4.2.2.2.2.2)
def qO k0 := zL (@W7 R k0) Y3
def ZQ (x : yr3) : Option yqt :=
 Option.bind (zF (x.1, x.2.1)) fun r1 => qO (fun x3 => bif (!x3.2.2.2.1) then if (List.length x3.2.2.2.2 + List.length ([(x3.2.1, x3.2.2.1)] : List ya)) * 16 < 140737488355328 then Option.bind (zF (x3.1, x3.2.1)) fun r4 => Option.bind (bif (decide (r4 ≥ (0 : Int))) then some true else Option.bind (YV (x3.2.2.2.2 ++ ([(x3.2.1, x3.2.2.1)] : List ya))) fun r6 => some (!r6)) fun u5 => bif u5 then if (List.length ([] : List ya) + List.length x3.1) * 16 < 140737488355328 then some ((([] : List ya) ++ x3.1), false) else none else some ((x3.2.2.2.2 ++ ([(x3.2.1, x3.2.2.1)] : List ya)), true) else none else Option.bind (zF (x3.1, x3.2.1)) fun r7 => Option.bind (bif (decide (r7 ≥ (0 : Int))) then some true else Option.bind (YV x3.2.2.2.2) fun r9 => some (!r9)) fun u8 => bif u8 then if (List.length ([] : List ya) + List.length x3.1) * 16 < 140737488355328 then some ((([] : List ya) ++ x3.1), false) else none else some (x3.2.2.2.2, true)) (x.1, x.2.1, x.2.2, (decide (r1 ≥ (0 : Int))), (0 : Int), ([] : List ya))
def yiC : List QF := [ysr, ykh]
def y5X (t : yw9) : St := ⟨zl t.1 :: vI t.2.1 :: vI t.2.2.1 :: dd 5 (.own 10000000 :: vB t.2.2.2.1 :: vI t.2.2.2.2.1 :: dd 56 []), [(10000000, .root true 67 yp t.2.2.2.2.2)]⟩
def ygS : Gk W6 := fun κ => W7 (fun t => κ (some 0) ⟨zl t.1 :: vI t.2.1 :: vI t.2.2.1 :: dd 5 (.own 10000000 :: vB t.2.2.2.1 :: dd 57 []), [(10000000, .root true 67 yp t.2.2.2.2)]⟩)
def yiD : Lp := lpC 4 (unG ywa y5X) @ygS lpN
theorem yox : LF yiC yiD 144 4 Tryz.f144 0 y5X @ygS fun t => t := fun R κ again t => by kernel_rfl
theorem yoy : LK yiC yiD 144 Tryz.f144 0 := lkN (u := (unG ywa y5X)) (yw fun t => by kernel_rfl) yox
theorem ysK : EV yiC yiD 144 Tryz.f144 ymB yr4 yvX ZQ := fun x => by kernel_rfl
def yxV : QF := ⟨144, ZQ, okN (n := 1) Tryz.func144 ⟨yoy, trivial⟩ ysK⟩
abbrev jC : Type := yr7
def jD (k0 : yr7 → Option R) (again : jC → Option R) (t3 : jC) : Option R :=
 Option.bind (bif (decide (t3.1 > (0 : Int))) then if (0 : Int) ≤ (Go.IntKind.wrap .i64 (t3.1 - (1 : Int))) then if (Go.IntKind.wrap .i64 (t3.1 - (1 : Int))) < (List.length t3.2.2.2.2.2 : Int) then some (!(Go.Op.bytesLess (ByteArray.toList ((yc t3.2.2.2.2.2 (Go.IntKind.wrap .i64 (t3.1 - (1 : Int)))).1)) (ByteArray.toList t3.2.1) || (ByteArray.toList ((yc t3.2.2.2.2.2 (Go.IntKind.wrap .i64 (t3.1 - (1 : Int)))).1)) == (ByteArray.toList t3.2.1))) else none else none else some false) fun u1 => bif u1 then if (0 : Int) ≤ (Go.IntKind.wrap .i64 (t3.1 - (1 : Int))) then if (Go.IntKind.wrap .i64 (t3.1 - (1 : Int))) < (List.length t3.2.2.2.2.2 : Int) then if (0 : Int) ≤ t3.1 then if t3.1 < (List.length t3.2.2.2.2.2 : Int) then again ((Go.IntKind.wrap .i64 (t3.1 - (1 : Int))), t3.2.1, t3.2.2.1, t3.2.2.2.1, t3.2.2.2.2.1, (List.set t3.2.2.2.2.2 (Int.toNat t3.1) ((yc t3.2.2.2.2.2 (Go.IntKind.wrap .i64 (t3.1 - (1 : Int)))).1, (yc t3.2.2.2.2.2 (Go.IntKind.wrap .i64 (t3.1 - (1 : Int)))).2.1, (yc t3.2.2.2.2.2 (Go.IntKind.wrap .i64 (t3.1 - (1 : Int)))).2.2.1, (yc t3.2.2.2.2.2 (Go.IntKind.wrap .i64 (t3.1 - (1 : Int)))).2.2.2))) else none else none else none else none else k0 t3
def vD k0 := zL (@jD R k0) Y3
def YO (x : yr8) : Option (List yh) :=
 if (List.length ([] : List yh) + List.length x.1) * 40 < 140737488355328 then if (List.length (([] : List yh) ++ x.1) + List.length ([x.2] : List yh)) * 40 < 140737488355328 then vD (fun x2 => if (0 : Int) ≤ x2.1 then if x2.1 < (List.length x2.2.2.2.2.2 : Int) then some (List.set x2.2.2.2.2.2 (Int.toNat x2.1) (x2.2.1, x2.2.2.1, x2.2.2.2.1, x2.2.2.2.2.1)) else none else none) ((Go.IntKind.wrap .i64 (((List.length ((([] : List yh) ++ x.1) ++ ([x.2] : List yh)) : Nat) : Int) - (1 : Int))), x.2.1, x.2.2.1, x.2.2.2.1, x.2.2.2.2, ((([] : List yh) ++ x.1) ++ ([x.2] : List yh))) else none else none
def yiE : List QF := []
def y5Y (t : yr7) : St := ⟨dd 3 (.box 3 0 :: .dead :: .own 10000000 :: vI t.1 :: dd 37 []), [(3, .box [vS t.2.1, vI t.2.2.1, vI t.2.2.2.1, vB t.2.2.2.2.1]), (10000000, .root true 41 yO t.2.2.2.2.2)]⟩
def ygT : Gk jC := fun κ => jD (fun t => κ (some 0) ⟨dd 3 (.box 3 0 :: .dead :: .own 10000000 :: vI t.1 :: dd 37 []), [(3, .box [vS t.2.1, vI t.2.2.1, vI t.2.2.2.1, vB t.2.2.2.2.1]), (10000000, .root true 41 yO t.2.2.2.2.2)]⟩)
def yiF : Lp := lpC 3 (unG ywb y5Y) @ygT lpN
theorem yoz : LF yiE yiF 145 3 Tryz.f145 0 y5Y @ygT fun t => t := fun R κ again t => by kernel_rfl
theorem yoA : LK yiE yiF 145 Tryz.f145 0 := lkN (u := (unG ywb y5Y)) (yw fun t => by kernel_rfl) yoz
theorem ysL : EV yiE yiF 145 Tryz.f145 ymC yr9 [(.sl 41 yO)] YO := fun x => by kernel_rfl
def yxW : QF := ⟨145, YO, okN (n := 1) Tryz.func145 ⟨yoA, trivial⟩ ysL⟩
def yP (x : ywc) : Option y7L :=
 Option.bind (bif (!x.2.2.2.2.2.2.2.2.2.2.2.2) then some true else Option.bind (yG (x.2.2.2.2.2.2.1, x.2.2.2.2.2.2.2.1, x.2.2.2.2.2.2.2.2.1, x.2.2.2.2.2.2.2.2.2.1, x.2.2.2.2.2.2.2.2.2.2.1, x.2.2.2.2.2.2.2.2.2.2.2.1)) fun r2 => some (!r2)) fun u1 => bif u1 then Option.bind (yk (x.1, x.2.1, x.2.2.1, x.2.2.2.1, x.2.2.2.2.1, x.2.2.2.2.2.1)) fun r3 => some (r3.1, r3.2.1, r3.2.2.1, r3.2.2.2.1, r3.2.2.2.2.1, r3.2.2.2.2.2, (6 : Int)) else some (x.2.2.2.2.2.2.1, x.2.2.2.2.2.2.2.1, x.2.2.2.2.2.2.2.2.1, x.2.2.2.2.2.2.2.2.2.1, x.2.2.2.2.2.2.2.2.2.2.1, x.2.2.2.2.2.2.2.2.2.2.2.1, (0 : Int))
theorem ysM : EV [yiz, ydj] lpN 146 Tryz.f146 ymD ywd y7M yP := fun x => by kernel_rfl
def yki : QF := ⟨146, yP, okN (n := 0) Tryz.func146 trivial ysM⟩
def Ju (x : ykf) : Option y7L :=
 Option.bind (Zf (x.1, x.2.1, x.2.2.1, x.2.2.2.1, x.2.2.2.2.1, x.2.2.2.2.2.1, x.2.2.2.2.2.2.1)) fun r1 => bif (r1 != (0 : Int)) then Option.bind (yk (x.1, x.2.1, x.2.2.1, x.2.2.2.1, x.2.2.2.2.1, x.2.2.2.2.2.1)) fun r2 => some (r2.1, r2.2.1, r2.2.2.1, r2.2.2.2.1, r2.2.2.2.2.1, r2.2.2.2.2.2, r1) else Option.bind (zd (x.1, x.2.1, x.2.2.1, x.2.2.2.1, x.2.2.2.2.1, x.2.2.2.2.2.1, x.2.2.2.2.2.2.1)) fun r3 => bif (decide (r3 ≥ (0 : Int))) then Option.bind (yk (x.1, x.2.1, x.2.2.1, x.2.2.2.1, x.2.2.2.2.1, x.2.2.2.2.2.1)) fun r4 => some (r4.1, r4.2.1, r4.2.2.1, r4.2.2.2.1, r4.2.2.2.2.1, r4.2.2.2.2.2, (3 : Int)) else Option.bind (yy (x.2.2.2.2.2.2.2, (1 : Int), (12 : Int))) fun r5 => bif (!r5) then Option.bind (yk (x.1, x.2.1, x.2.2.1, x.2.2.2.1, x.2.2.2.2.1, x.2.2.2.2.2.1)) fun r6 => some (r6.1, r6.2.1, r6.2.2.1, r6.2.2.2.1, r6.2.2.2.2.1, r6.2.2.2.2.2, (4 : Int)) else Option.bind (yk (x.1, x.2.1, x.2.2.1, x.2.2.2.1, x.2.2.2.2.1, x.2.2.2.2.2.1)) fun r7 => Option.bind (ZQ (x.2.2.1, x.2.2.2.2.2.1, (0 : Int))) fun r8 => Option.bind (YO (x.2.2.2.2.1, x.2.2.2.2.2.2.1, x.2.2.2.2.2.1, x.2.2.2.2.2.2.2, false)) fun r9 => Option.bind (yP (x.1, x.2.1, x.2.2.1, x.2.2.2.1, x.2.2.2.2.1, x.2.2.2.2.2.1, r7.1, r7.2.1, r8.1, r7.2.2.2.1, r9, (Go.IntKind.wrap .i64 (x.2.2.2.2.2.1 + (1 : Int))), r8.2)) fun r10 => some r10
theorem ysN : EV [ydj, y5x, ysI, ygR, yxV, yxW, yki] lpN 110 Tryz.f110 ymE ykg y7M Ju := fun x => by kernel_rfl
def yyZ : QF := ⟨110, Ju, okN (n := 0) Tryz.func110 trivial ysN⟩
def WY (x : yyn) : Option y7L :=
 Option.bind (Zf (x.1, x.2.1, x.2.2.1, x.2.2.2.1, x.2.2.2.2.1, x.2.2.2.2.2.1, x.2.2.2.2.2.2.1)) fun r1 => Option.bind (bif (r1 != (0 : Int)) then some true else Option.bind (Yd x.2.2.2.2.2.2.2.1) fun r3 => some (!r3)) fun u2 => bif u2 then Option.bind (yk (x.1, x.2.1, x.2.2.1, x.2.2.2.1, x.2.2.2.2.1, x.2.2.2.2.2.1)) fun r4 => some (r4.1, r4.2.1, r4.2.2.1, r4.2.2.2.1, r4.2.2.2.2.1, r4.2.2.2.2.2, (1 : Int)) else Option.bind (zd (x.1, x.2.1, x.2.2.1, x.2.2.2.1, x.2.2.2.2.1, x.2.2.2.2.2.1, x.2.2.2.2.2.2.1)) fun r5 => bif (decide (r5 < (0 : Int))) then Option.bind (yk (x.1, x.2.1, x.2.2.1, x.2.2.2.1, x.2.2.2.2.1, x.2.2.2.2.2.1)) fun r6 => some (r6.1, r6.2.1, r6.2.2.1, r6.2.2.2.1, r6.2.2.2.2.1, r6.2.2.2.2.2, (2 : Int)) else Option.bind (zd (x.1, x.2.1, x.2.2.1, x.2.2.2.1, x.2.2.2.2.1, x.2.2.2.2.2.1, x.2.2.2.2.2.2.2.1)) fun r7 => bif (decide (r7 ≥ (0 : Int))) then Option.bind (yk (x.1, x.2.1, x.2.2.1, x.2.2.2.1, x.2.2.2.2.1, x.2.2.2.2.2.1)) fun r8 => some (r8.1, r8.2.1, r8.2.2.1, r8.2.2.2.1, r8.2.2.2.2.1, r8.2.2.2.2.2, (3 : Int)) else Option.bind (yk (x.1, x.2.1, x.2.2.1, x.2.2.2.1, x.2.2.2.2.1, x.2.2.2.2.2.1)) fun r9 => Option.bind (zd (x.1, x.2.1, x.2.2.1, x.2.2.2.1, x.2.2.2.2.1, x.2.2.2.2.2.1, x.2.2.2.2.2.2.1)) fun r10 => if (0 : Int) ≤ r10 then if r10 < (List.length x.2.2.2.2.1 : Int) then Option.bind (ZQ (x.2.2.1, x.2.2.2.2.2.1, (yc x.2.2.2.2.1 r10).2.1)) fun r11 => if (0 : Int) ≤ r10 then if r10 < (List.length x.2.2.2.2.1 : Int) then Option.bind (ZQ (r11.1, (Go.IntKind.wrap .i64 (x.2.2.2.2.2.1 + (1 : Int))), (yc x.2.2.2.2.1 r10).2.1)) fun r12 => if (0 : Int) ≤ r10 then if r10 < (List.length r9.2.2.2.2.1 : Int) then if (0 : Int) ≤ r10 then if r10 < (List.length x.2.2.2.2.1 : Int) then Option.bind (YO ((List.set r9.2.2.2.2.1 (Int.toNat r10) ((yc r9.2.2.2.2.1 r10).1, x.2.2.2.2.2.1, (yc r9.2.2.2.2.1 r10).2.2)), x.2.2.2.2.2.2.2.1, (Go.IntKind.wrap .i64 (x.2.2.2.2.2.1 + (1 : Int))), (yc x.2.2.2.2.1 r10).2.2.1, x.2.2.2.2.2.2.2.2)) fun r13 => Option.bind (bif r11.2 then some r12.2 else some false) fun u14 => Option.bind (yP (x.1, x.2.1, x.2.2.1, x.2.2.2.1, x.2.2.2.2.1, x.2.2.2.2.2.1, r9.1, r9.2.1, r12.1, r9.2.2.2.1, r13, (Go.IntKind.wrap .i64 (x.2.2.2.2.2.1 + (2 : Int))), u14)) fun r15 => some r15 else none else none else none else none else none else none else none else none
theorem ysO : EV [ydj, yqE, ysI, ygR, yxV, yxW, yki] lpN 111 Tryz.f111 ymF yyo y7M WY := fun x => by kernel_rfl
def yz0 : QF := ⟨111, WY, okN (n := 0) Tryz.func111 trivial ysO⟩
def Jv (x : ykE) : Option Int :=
 Option.bind (Zf x) fun r1 => Option.bind (bif (r1 == (0 : Int)) then Option.bind (zd x) fun r3 => some (decide (r3 < (0 : Int))) else some false) fun u2 => bif u2 then some (2 : Int) else some r1
theorem ysP : EV [ysI, ygR] lpN 147 Tryz.f147 ymG ykF [(.int .i64)] Jv := fun x => by kernel_rfl
def yxX : QF := ⟨147, Jv, okN (n := 0) Tryz.func147 trivial ysP⟩
def WZ (x : ykE) : Option y7L :=
 Option.bind (yk (x.1, x.2.1, x.2.2.1, x.2.2.2.1, x.2.2.2.2.1, x.2.2.2.2.2.1)) fun r1 => Option.bind (Jv x) fun r2 => bif (r2 != (0 : Int)) then some (r1.1, r1.2.1, r1.2.2.1, r1.2.2.2.1, r1.2.2.2.2.1, r1.2.2.2.2.2, r2) else Option.bind (zd x) fun r3 => if (0 : Int) ≤ (0 : Int) then if (0 : Int) ≤ r3 then if r3 ≤ (List.length x.2.2.2.2.1 : Int) then if (List.length ([] : List yh) + List.length (List.drop (Int.toNat (0 : Int)) (List.take (Int.toNat r3) x.2.2.2.2.1))) * 40 < 140737488355328 then if (0 : Int) ≤ (Go.IntKind.wrap .i64 (r3 + (1 : Int))) then if (Go.IntKind.wrap .i64 (r3 + (1 : Int))) ≤ (List.length x.2.2.2.2.1 : Int) then if (List.length x.2.2.2.2.1 : Int) ≤ (List.length x.2.2.2.2.1 : Int) then if (List.length (([] : List yh) ++ (List.drop (Int.toNat (0 : Int)) (List.take (Int.toNat r3) x.2.2.2.2.1))) + List.length (List.drop (Int.toNat (Go.IntKind.wrap .i64 (r3 + (1 : Int)))) (List.take (Int.toNat (List.length x.2.2.2.2.1 : Int)) x.2.2.2.2.1))) * 40 < 140737488355328 then Option.bind (yP (x.1, x.2.1, x.2.2.1, x.2.2.2.1, x.2.2.2.2.1, x.2.2.2.2.2.1, r1.1, r1.2.1, r1.2.2.1, r1.2.2.2.1, ((([] : List yh) ++ (List.drop (Int.toNat (0 : Int)) (List.take (Int.toNat r3) x.2.2.2.2.1))) ++ (List.drop (Int.toNat (Go.IntKind.wrap .i64 (r3 + (1 : Int)))) (List.take (Int.toNat (List.length x.2.2.2.2.1 : Int)) x.2.2.2.2.1))), r1.2.2.2.2.2, true)) fun r4 => some r4 else none else none else none else none else none else none else none else none
theorem ysQ : EV [ydj, ygR, yki, yxX] lpN 112 Tryz.f112 ymH ykF y7M WZ := fun x => by kernel_rfl
def yz1 : QF := ⟨112, WZ, okN (n := 0) Tryz.func112 trivial ysQ⟩
def YH (x : ykf) : Option Int :=
 Option.bind (Jv (x.1, x.2.1, x.2.2.1, x.2.2.2.1, x.2.2.2.2.1, x.2.2.2.2.2.1, x.2.2.2.2.2.2.1)) fun r1 => bif (r1 != (0 : Int)) then some r1 else Option.bind (zd (x.1, x.2.1, x.2.2.1, x.2.2.2.1, x.2.2.2.2.1, x.2.2.2.2.2.1, x.2.2.2.2.2.2.1)) fun r2 => if (0 : Int) ≤ r2 then if r2 < (List.length x.2.2.2.2.1 : Int) then bif (yc x.2.2.2.2.1 r2).2.2.2 then some (5 : Int) else Option.bind (zd (x.1, x.2.1, x.2.2.1, x.2.2.2.1, x.2.2.2.2.1, x.2.2.2.2.2.1, x.2.2.2.2.2.2.1)) fun r3 => if (0 : Int) ≤ r3 then if r3 < (List.length x.2.2.2.2.1 : Int) then Option.bind (yy (x.2.2.2.2.2.2.2, (0 : Int), (Go.IntKind.wrap .i64 ((yc x.2.2.2.2.1 r3).2.2.1 - (1 : Int))))) fun r4 => bif (!r4) then some (4 : Int) else some (0 : Int) else none else none else none else none
theorem ysR : EV [y5x, ygR, yxX] lpN 148 Tryz.f148 ymI ykg [(.int .i64)] YH := fun x => by kernel_rfl
def ysS : QF := ⟨148, YH, okN (n := 0) Tryz.func148 trivial ysR⟩
abbrev Jw : Type := ywe
def zz (k0 : yyp → Option R) (k1 : List y8 → Option R) (again : Jw → Option R) (t3 : Jw) : Option R :=
 Option.bind (bif (decide (t3.2.2.1 < (List.length t3.1 : Int))) then Option.bind (Ze t3.1) fun r3 => some r3 else some false) fun u2 => Option.bind (bif u2 then Option.bind (ze t3.2.1) fun r5 => some r5 else some false) fun u4 => bif u4 then if (0 : Int) ≤ t3.2.2.1 then if t3.2.2.1 < (List.length t3.1 : Int) then bif (!((ym t3.1 t3.2.2.1).2.1)) then if (0 : Int) ≤ t3.2.2.1 then if t3.2.2.1 < (List.length t3.2.2.2 : Int) then if (0 : Int) ≤ t3.2.2.1 then if t3.2.2.1 < ((List.length (List.set t3.2.2.2 (Int.toNat t3.2.2.1) ((ym t3.2.2.2 t3.2.2.1).1, true, (ym t3.2.2.2 t3.2.2.1).2.2)) : Nat) : Int) then k0 (t3.2.2.1, true, (List.set (List.set t3.2.2.2 (Int.toNat t3.2.2.1) ((ym t3.2.2.2 t3.2.2.1).1, true, (ym t3.2.2.2 t3.2.2.1).2.2)) (Int.toNat t3.2.2.1) ((ym (List.set t3.2.2.2 (Int.toNat t3.2.2.1) ((ym t3.2.2.2 t3.2.2.1).1, true, (ym t3.2.2.2 t3.2.2.1).2.2)) t3.2.2.1).1, (ym (List.set t3.2.2.2 (Int.toNat t3.2.2.1) ((ym t3.2.2.2 t3.2.2.1).1, true, (ym t3.2.2.2 t3.2.2.1).2.2)) t3.2.2.1).2.1, t3.2.1))) else none else none else none else none else again (t3.1, t3.2.1, (Go.IntKind.wrap .i64 (t3.2.2.1 + (1 : Int))), t3.2.2.2) else none else none else k1 t3.2.2.2
def k6 k0 k1 := zL (@zz R k0 k1) Y3
def zT (x : yk9) : Option ywg :=
 Option.bind (zS x.1) fun r1 => k6 (fun x6 => some (x6.2.2, x6.1, x6.2.1)) (fun x7 => some (x7, (0 : Int), false)) (x.1, x.2, (0 : Int), r1)
def yiG : List QF := [yqF, yst, ysF]
def y5Z (t : ywe) : St := ⟨yW t.1 :: vI t.2.1 :: dd 5 (.own 10000000 :: vI t.2.2.1 :: dd 34 []), [(10000000, .root true 53 ye t.2.2.2)]⟩
def ygU : Gk Jw := fun κ => zz (fun t => κ none ⟨dd 4 (.own 10000000 :: vI t.1 :: vB t.2.1 :: .own 10000000 :: dd 35 []), [(10000000, .root true 53 ye t.2.2)]⟩) (fun t => κ (some 0) ⟨dd 7 (.own 10000000 :: dd 35 []), [(10000000, .root true 53 ye t)]⟩)
def yiH : Lp := lpC 3 (unG ywf y5Z) @ygU lpN
theorem yoB : LF yiG yiH 149 3 Tryz.f149 0 y5Z @ygU fun t => t := fun R κ again t => by kernel_rfl
theorem yoC : LK yiG yiH 149 Tryz.f149 0 := lkN (u := (unG ywf y5Z)) (yw fun t => by kernel_rfl) yoB
theorem ysT : EV yiG yiH 149 Tryz.f149 ymJ yka ywh zT := fun x => by kernel_rfl
def yxY : QF := ⟨149, zT, okN (n := 1) Tryz.func149 ⟨yoC, trivial⟩ ysT⟩
abbrev wj : Type := ywi
def wk (k0 : Int → Option R) (again : wj → Option R) (t3 : wj) : Option R :=
 bif (decide (t3.2.2.2.1 < (List.length t3.2.2.2.2.1 : Int))) then if (0 : Int) ≤ t3.2.2.2.1 then if t3.2.2.2.1 < (List.length t3.2.2.2.2.1 : Int) then Option.bind (Jr (t3.1, t3.2.1)) fun r1 => bif (decide ((zt t3.2.2.2.2.1 t3.2.2.2.1) ≤ r1)) then again (t3.1, t3.2.1, t3.2.2.2.1, (Go.IntKind.wrap .i64 (t3.2.2.2.1 + (1 : Int))), t3.2.2.2.2.1, t3.2.2.2.2.2) else again (t3.1, t3.2.1, t3.2.2.1, (Go.IntKind.wrap .i64 (t3.2.2.2.1 + (1 : Int))), t3.2.2.2.2.1, t3.2.2.2.2.2) else none else none else k0 t3.2.2.1
def qh k0 := zL (@wk R k0) Y3
def jr (x : yqw) : Option Int :=
 qh (fun x2 => some x2) (x.2.2.1, x.2.2.2, (-1 : Int), (0 : Int), x.1, x.2.1)
def yiI : List QF := [yxR]
def y60 (t : ywi) : St := ⟨.dead :: vI t.1 :: vI t.2.1 :: .box 3 0 :: dd 3 (vI t.2.2.1 :: vI t.2.2.2.1 :: dd 18 []), [(3, .box [z9 t.2.2.2.2.1, yA t.2.2.2.2.2])]⟩
def ygV : Gk wj := fun κ => wk (fun t => κ (some 0) ⟨dd 7 (vI t :: dd 19 []), []⟩)
def yiJ : Lp := lpC 3 (unG ywj y60) @ygV lpN
theorem yoD : LF yiI yiJ 181 3 Tryz.f181 0 y60 @ygV fun t => t := fun R κ again t => by kernel_rfl
theorem yoE : LK yiI yiJ 181 Tryz.f181 0 := lkN (u := (unG ywj y60)) (yw fun t => by kernel_rfl) yoD
theorem ysU : EV yiI yiJ 181 Tryz.f181 ymK yqx [(.int .i64)] jr := fun x => by kernel_rfl
def yxZ : QF := ⟨181, jr, okN (n := 1) Tryz.func181 ⟨yoE, trivial⟩ ysU⟩
abbrev vT : Type := ywk
def JX (k0 : yqy → Option R) (k1 : yeb → Option R) (again : vT → Option R) (t2 : vT) : Option R :=
 bif (decide (t2.2.2.2.1 < (List.length t2.1 : Int))) then if (0 : Int) ≤ t2.2.2.2.1 then if t2.2.2.2.1 < (List.length t2.1 : Int) then Option.bind (bif ((y6 t2.1 t2.2.2.2.1).1 == t2.2.1) then if (0 : Int) ≤ t2.2.2.2.1 then if t2.2.2.2.1 < (List.length t2.1 : Int) then some ((y6 t2.1 t2.2.2.2.1).2.1 == t2.2.2.1) else none else none else some false) fun u1 => bif u1 then if (0 : Int) ≤ t2.2.2.2.1 then if t2.2.2.2.1 < (List.length t2.1 : Int) then k0 (true, (y6 t2.1 t2.2.2.2.1).1, (y6 t2.1 t2.2.2.2.1).2.1, (y6 t2.1 t2.2.2.2.1).2.2.1, (y6 t2.1 t2.2.2.2.1).2.2.2.1, (y6 t2.1 t2.2.2.2.1).2.2.2.2) else none else none else again (t2.1, t2.2.1, t2.2.2.1, (Go.IntKind.wrap .i64 (t2.2.2.2.1 + (1 : Int))), t2.2.2.2.2.1, t2.2.2.2.2.2.1, t2.2.2.2.2.2.2.1, t2.2.2.2.2.2.2.2.1, t2.2.2.2.2.2.2.2.2) else none else none else k1 t2.2.2.2.2
def y01 k0 k1 := zL (@JX R k0 k1) Y3
def wL (x : ywm) : Option yce :=
 y01 (fun x2 => some (x2.2.1, x2.2.2.1, x2.2.2.2.1, x2.2.2.2.2.1, x2.2.2.2.2.2, x2.1)) (fun x3 => some ((0 : Int), (0 : Int), (0 : Int), (0 : Int), (0 : Int), false)) (x.1, x.2.1, x.2.2, (0 : Int), (0 : Int), (0 : Int), (0 : Int), (0 : Int), (0 : Int))
def yiK : List QF := []
def y61 (t : ywk) : St := ⟨VK t.1 :: vI t.2.1 :: vI t.2.2.1 :: dd 3 (.box 6 0 :: .dead :: vI t.2.2.2.1 :: dd 27 []), [(6, .box [vI t.2.2.2.2.1, vI t.2.2.2.2.2.1, vI t.2.2.2.2.2.2.1, vI t.2.2.2.2.2.2.2.1, vI t.2.2.2.2.2.2.2.2])]⟩
def ygW : Gk vT := fun κ => JX (fun t => κ none ⟨dd 6 (.box 6 0 :: vB t.1 :: dd 28 []), [(6, .box [vI t.2.1, vI t.2.2.1, vI t.2.2.2.1, vI t.2.2.2.2.1, vI t.2.2.2.2.2])]⟩) (fun t => κ (some 0) ⟨dd 6 (.box 6 0 :: dd 29 []), [(6, .box [vI t.1, vI t.2.1, vI t.2.2.1, vI t.2.2.2.1, vI t.2.2.2.2])]⟩)
def yiL : Lp := lpC 2 (unG ywl y61) @ygW lpN
theorem yoF : LF yiK yiL 200 2 Tryz.f200 0 y61 @ygW fun t => t := fun R κ again t => by kernel_rfl
theorem yoG : LK yiK yiL 200 Tryz.f200 0 := lkN (u := (unG ywl y61)) (yw fun t => by kernel_rfl) yoF
theorem ysV : EV yiK yiL 200 Tryz.f200 ymL ywn ycf wL := fun x => by kernel_rfl
def yy0 : QF := ⟨200, wL, okN (n := 1) Tryz.func200 ⟨yoG, trivial⟩ ysV⟩
abbrev W8 : Type := yqz
def W9 (k0 : yqy → Option R) (k1 : yeb → Option R) (again : W8 → Option R) (t2 : W8) : Option R :=
 bif (decide (t2.2.2.1 ≥ (0 : Int))) then if (0 : Int) ≤ t2.2.2.1 then if t2.2.2.1 < (List.length t2.2.2.2.1 : Int) then Option.bind (wL ((yl t2.2.2.2.1 t2.2.2.1), t2.1, t2.2.1)) fun r1 => Option.bind (bif r1.2.2.2.2.2 then some (r1.2.2.1 == (0 : Int)) else some false) fun u2 => bif u2 then k0 (false, (0 : Int), (0 : Int), (0 : Int), (0 : Int), (0 : Int)) else bif r1.2.2.2.2.2 then k0 (true, r1.1, r1.2.1, r1.2.2.1, r1.2.2.2.1, r1.2.2.2.2.1) else again (t2.1, t2.2.1, (Go.IntKind.wrap .i64 (t2.2.2.1 - (1 : Int))), t2.2.2.2.1, t2.2.2.2.2.1, t2.2.2.2.2.2.1, t2.2.2.2.2.2.2.1, t2.2.2.2.2.2.2.2.1, t2.2.2.2.2.2.2.2.2) else none else none else k1 t2.2.2.2.2
def qP k0 k1 := zL (@W9 R k0 k1) Y3
def Wa (x : yhR) : Option yce :=
 qP (fun x3 => some (x3.2.1, x3.2.2.1, x3.2.2.2.1, x3.2.2.2.2.1, x3.2.2.2.2.2, x3.1)) (fun x4 => some ((0 : Int), (0 : Int), (0 : Int), (0 : Int), (0 : Int), false)) (x.2.1, x.2.2, (Go.IntKind.wrap .i64 ((List.length x.1 : Int) - (1 : Int))), x.1, (0 : Int), (0 : Int), (0 : Int), (0 : Int), (0 : Int))
def yiM : List QF := [yy0]
def y62 (t : yqz) : St := ⟨.dead :: vI t.1 :: vI t.2.1 :: .box 3 0 :: dd 2 (.box 6 0 :: .dead :: vI t.2.2.1 :: dd 31 []), [(3, .box [Yg t.2.2.2.1]), (6, .box [vI t.2.2.2.2.1, vI t.2.2.2.2.2.1, vI t.2.2.2.2.2.2.1, vI t.2.2.2.2.2.2.2.1, vI t.2.2.2.2.2.2.2.2])]⟩
def ygX : Gk W8 := fun κ => W9 (fun t => κ none ⟨dd 6 (.box 6 0 :: vB t.1 :: dd 32 []), [(6, .box [vI t.2.1, vI t.2.2.1, vI t.2.2.2.1, vI t.2.2.2.2.1, vI t.2.2.2.2.2])]⟩) (fun t => κ (some 0) ⟨dd 6 (.box 6 0 :: dd 33 []), [(6, .box [vI t.1, vI t.2.1, vI t.2.2.1, vI t.2.2.2.1, vI t.2.2.2.2])]⟩)
def yiN : Lp := lpC 2 (unG yqA y62) @ygX lpN
theorem yoH : LF yiM yiN 182 2 Tryz.f182 0 y62 @ygX fun t => t := fun R κ again t => by kernel_rfl
theorem yoI : LK yiM yiN 182 Tryz.f182 0 := lkN (u := (unG yqA y62)) (yw fun t => by kernel_rfl) yoH
theorem ysW : EV yiM yiN 182 Tryz.f182 ymM yqB ycf Wa := fun x => by kernel_rfl
def yz2 : QF := ⟨182, Wa, okN (n := 1) Tryz.func182 ⟨yoI, trivial⟩ ysW⟩
def ZR (x : yqw) : Option yce :=
 Option.bind (jr x) fun r1 => Option.bind (yy (r1, (0 : Int), (Go.IntKind.wrap .i64 ((List.length x.2.1 : Int) - (1 : Int))))) fun r2 => bif (!r2) then some ((0 : Int), (0 : Int), (0 : Int), (0 : Int), (0 : Int), false) else if (0 : Int) ≤ r1 then if r1 < (List.length x.2.1 : Int) then Option.bind (Wa ((yd x.2.1 r1), x.2.2.1, x.2.2.2)) fun r3 => some r3 else none else none
theorem ysX : EV [y5x, yxZ, yz2] lpN 166 Tryz.f166 ymN yqx ycf ZR := fun x => by kernel_rfl
def ysY : QF := ⟨166, ZR, okN (n := 0) Tryz.func166 trivial ysX⟩
def yS (x : List y7) : Option (List y9) :=
 bif ((List.length x : Int) == (0 : Int)) then some ([] : List y9) else if (List.length ([] : List y7) + List.length x) * 40 < 140737488355328 then some ([(([] : List y7) ++ x)] : List y9) else none
theorem ysZ : EV [] lpN 188 Tryz.f188 ymO [(.sl 63 yg)] [(.sl 58 yn)] yS := fun x => by kernel_rfl
def yqG : QF := ⟨188, yS, okN (n := 0) Tryz.func188 trivial ysZ⟩
def JY (x : yra) : Option ywo :=
 Option.bind (za x.1) fun r1 => bif (decide ((Go.IntKind.wrap .i64 ((List.length r1 : Int) - (1 : Int))) ≥ (0 : Int))) then if (0 : Int) ≤ (Go.IntKind.wrap .i64 ((List.length r1 : Int) - (1 : Int))) then if (Go.IntKind.wrap .i64 ((List.length r1 : Int) - (1 : Int))) < (List.length r1 : Int) then Option.bind (wL ((yl r1 (Go.IntKind.wrap .i64 ((List.length r1 : Int) - (1 : Int)))), x.2.1, x.2.2.1)) fun r2 => Option.bind (bif (decide ((Go.IntKind.wrap .i64 ((List.length r1 : Int) - (1 : Int))) ≥ (0 : Int))) then if (0 : Int) ≤ (Go.IntKind.wrap .i64 ((List.length r1 : Int) - (1 : Int))) then if (Go.IntKind.wrap .i64 ((List.length r1 : Int) - (1 : Int))) < (List.length r1 : Int) then Option.bind (bif (decide (((List.length (yl r1 (Go.IntKind.wrap .i64 ((List.length r1 : Int) - (1 : Int)))) : Nat) : Int) < (4 : Int))) then some true else some r2.2.2.2.2.2) fun u4 => some u4 else none else none else some false) fun u3 => bif u3 then if (0 : Int) ≤ (Go.IntKind.wrap .i64 ((List.length r1 : Int) - (1 : Int))) then if (Go.IntKind.wrap .i64 ((List.length r1 : Int) - (1 : Int))) < (List.length r1 : Int) then Option.bind (zy ((yl r1 (Go.IntKind.wrap .i64 ((List.length r1 : Int) - (1 : Int)))), x.2.1, x.2.2.1, x.2.2.2.1, x.2.2.2.2.1, x.2.2.2.2.2)) fun r5 => if (0 : Int) ≤ (Go.IntKind.wrap .i64 ((List.length r1 : Int) - (1 : Int))) then if (Go.IntKind.wrap .i64 ((List.length r1 : Int) - (1 : Int))) < (List.length r1 : Int) then Option.bind (zg (List.set r1 (Int.toNat (Go.IntKind.wrap .i64 ((List.length r1 : Int) - (1 : Int)))) r5)) fun r6 => bif r6 then some ((List.set r1 (Int.toNat (Go.IntKind.wrap .i64 ((List.length r1 : Int) - (1 : Int)))) r5), true) else Option.bind (yz x.1) fun r7 => Option.bind (zy (r7, x.2)) fun r8 => Option.bind (zR r8) fun r9 => bif (decide ((List.length r9 : Int) > (8 : Int))) then Option.bind (za x.1) fun r10 => some (r10, false) else Option.bind (yS r9) fun r11 => Option.bind (zg r11) fun r12 => bif (!r12) then Option.bind (za x.1) fun r13 => some (r13, false) else Option.bind (yS r9) fun r14 => some (r14, true) else none else none else none else none else if (List.length r1 + List.length ([([x.2] : List y7)] : List y9)) * 24 < 140737488355328 then Option.bind (zg (r1 ++ ([([x.2] : List y7)] : List y9))) fun r15 => bif r15 then some ((r1 ++ ([([x.2] : List y7)] : List y9)), true) else Option.bind (yz x.1) fun r16 => Option.bind (zy (r16, x.2)) fun r17 => Option.bind (zR r17) fun r18 => bif (decide ((List.length r18 : Int) > (8 : Int))) then Option.bind (za x.1) fun r19 => some (r19, false) else Option.bind (yS r18) fun r20 => Option.bind (zg r20) fun r21 => bif (!r21) then Option.bind (za x.1) fun r22 => some (r22, false) else Option.bind (yS r18) fun r23 => some (r23, true) else none else none else none else Option.bind (bif (decide ((Go.IntKind.wrap .i64 ((List.length r1 : Int) - (1 : Int))) ≥ (0 : Int))) then if (0 : Int) ≤ (Go.IntKind.wrap .i64 ((List.length r1 : Int) - (1 : Int))) then if (Go.IntKind.wrap .i64 ((List.length r1 : Int) - (1 : Int))) < (List.length r1 : Int) then Option.bind (bif (decide (((List.length (yl r1 (Go.IntKind.wrap .i64 ((List.length r1 : Int) - (1 : Int)))) : Nat) : Int) < (4 : Int))) then some true else some false) fun u25 => some u25 else none else none else some false) fun u24 => bif u24 then if (0 : Int) ≤ (Go.IntKind.wrap .i64 ((List.length r1 : Int) - (1 : Int))) then if (Go.IntKind.wrap .i64 ((List.length r1 : Int) - (1 : Int))) < (List.length r1 : Int) then Option.bind (zy ((yl r1 (Go.IntKind.wrap .i64 ((List.length r1 : Int) - (1 : Int)))), x.2.1, x.2.2.1, x.2.2.2.1, x.2.2.2.2.1, x.2.2.2.2.2)) fun r26 => if (0 : Int) ≤ (Go.IntKind.wrap .i64 ((List.length r1 : Int) - (1 : Int))) then if (Go.IntKind.wrap .i64 ((List.length r1 : Int) - (1 : Int))) < (List.length r1 : Int) then Option.bind (zg (List.set r1 (Int.toNat (Go.IntKind.wrap .i64 ((List.length r1 : Int) - (1 : Int)))) r26)) fun r27 => bif r27 then some ((List.set r1 (Int.toNat (Go.IntKind.wrap .i64 ((List.length r1 : Int) - (1 : Int)))) r26), true) else Option.bind (yz x.1) fun r28 => Option.bind (zy (r28, x.2)) fun r29 => Option.bind (zR r29) fun r30 => bif (decide ((List.length r30 : Int) > (8 : Int))) then Option.bind (za x.1) fun r31 => some (r31, false) else Option.bind (yS r30) fun r32 => Option.bind (zg r32) fun r33 => bif (!r33) then Option.bind (za x.1) fun r34 => some (r34, false) else Option.bind (yS r30) fun r35 => some (r35, true) else none else none else none else none else if (List.length r1 + List.length ([([x.2] : List y7)] : List y9)) * 24 < 140737488355328 then Option.bind (zg (r1 ++ ([([x.2] : List y7)] : List y9))) fun r36 => bif r36 then some ((r1 ++ ([([x.2] : List y7)] : List y9)), true) else Option.bind (yz x.1) fun r37 => Option.bind (zy (r37, x.2)) fun r38 => Option.bind (zR r38) fun r39 => bif (decide ((List.length r39 : Int) > (8 : Int))) then Option.bind (za x.1) fun r40 => some (r40, false) else Option.bind (yS r39) fun r41 => Option.bind (zg r41) fun r42 => bif (!r42) then Option.bind (za x.1) fun r43 => some (r43, false) else Option.bind (yS r39) fun r44 => some (r44, true) else none
theorem yt0 : EV [yxU, yxQ, yif, yse, ysh, yqG, yy0] lpN 184 Tryz.f184 ymP yrb ywp JY := fun x => by kernel_rfl
def yz3 : QF := ⟨184, JY, okN (n := 0) Tryz.func184 trivial yt0⟩
def jS (x : yyq) : Option Qz8 :=
 if (0 : Int) ≤ (0 : Int) then if (0 : Int) ≤ x.2.2.1 then if x.2.2.1 ≤ (List.length x.1 : Int) then if (List.length ([] : List yb) + List.length (List.drop (Int.toNat (0 : Int)) (List.take (Int.toNat x.2.2.1) x.1))) * 8 < 140737488355328 then if (List.length (([] : List yb) ++ (List.drop (Int.toNat (0 : Int)) (List.take (Int.toNat x.2.2.1) x.1))) + List.length x.2.2.2.1) * 8 < 140737488355328 then if (0 : Int) ≤ (Go.IntKind.wrap .i64 (x.2.2.1 + (1 : Int))) then if (Go.IntKind.wrap .i64 (x.2.2.1 + (1 : Int))) ≤ (List.length x.1 : Int) then if (List.length x.1 : Int) ≤ (List.length x.1 : Int) then if (List.length ((([] : List yb) ++ (List.drop (Int.toNat (0 : Int)) (List.take (Int.toNat x.2.2.1) x.1))) ++ x.2.2.2.1) + List.length (List.drop (Int.toNat (Go.IntKind.wrap .i64 (x.2.2.1 + (1 : Int)))) (List.take (Int.toNat (List.length x.1 : Int)) x.1))) * 8 < 140737488355328 then if (0 : Int) ≤ (0 : Int) then if (0 : Int) ≤ x.2.2.1 then if x.2.2.1 ≤ (List.length x.2.1 : Int) then if (List.length ([] : List y0) + List.length (List.drop (Int.toNat (0 : Int)) (List.take (Int.toNat x.2.2.1) x.2.1))) * 24 < 140737488355328 then if (List.length (([] : List y0) ++ (List.drop (Int.toNat (0 : Int)) (List.take (Int.toNat x.2.2.1) x.2.1))) + List.length x.2.2.2.2) * 24 < 140737488355328 then if (0 : Int) ≤ (Go.IntKind.wrap .i64 (x.2.2.1 + (1 : Int))) then if (Go.IntKind.wrap .i64 (x.2.2.1 + (1 : Int))) ≤ (List.length x.2.1 : Int) then if (List.length x.2.1 : Int) ≤ (List.length x.2.1 : Int) then if (List.length ((([] : List y0) ++ (List.drop (Int.toNat (0 : Int)) (List.take (Int.toNat x.2.2.1) x.2.1))) ++ x.2.2.2.2) + List.length (List.drop (Int.toNat (Go.IntKind.wrap .i64 (x.2.2.1 + (1 : Int)))) (List.take (Int.toNat (List.length x.2.1 : Int)) x.2.1))) * 24 < 140737488355328 then some ((((([] : List yb) ++ (List.drop (Int.toNat (0 : Int)) (List.take (Int.toNat x.2.2.1) x.1))) ++ x.2.2.2.1) ++ (List.drop (Int.toNat (Go.IntKind.wrap .i64 (x.2.2.1 + (1 : Int)))) (List.take (Int.toNat (List.length x.1 : Int)) x.1))), (((([] : List y0) ++ (List.drop (Int.toNat (0 : Int)) (List.take (Int.toNat x.2.2.1) x.2.1))) ++ x.2.2.2.2) ++ (List.drop (Int.toNat (Go.IntKind.wrap .i64 (x.2.2.1 + (1 : Int)))) (List.take (Int.toNat (List.length x.2.1 : Int)) x.2.1)))) else none else none else none else none else none else none else none else none else none else none else none else none else none else none else none else none else none else none
theorem yt1 : EV [] lpN 185 Tryz.f185 ymQ yyr qz8 jS := fun x => by kernel_rfl
def yz4 : QF := ⟨185, jS, okN (n := 0) Tryz.func185 trivial yt1⟩
abbrev KO : Type := y8x
def Wb (k0 : Int → Option R) (k1 : Unit → Option R) (again : KO → Option R) (t2 : KO) : Option R :=
 bif (decide ((Go.IntKind.wrap .i64 (t2.1 + (1 : Int))) < (List.length t2.2.2 : Int))) then if (0 : Int) ≤ t2.1 then if t2.1 < (List.length t2.2.2 : Int) then Option.bind (yz (yd t2.2.2 t2.1)) fun r1 => if (0 : Int) ≤ (Go.IntKind.wrap .i64 (t2.1 + (1 : Int))) then if (Go.IntKind.wrap .i64 (t2.1 + (1 : Int))) < (List.length t2.2.2 : Int) then Option.bind (yz (yd t2.2.2 (Go.IntKind.wrap .i64 (t2.1 + (1 : Int))))) fun r2 => bif (decide ((Go.IntKind.wrap .i64 ((List.length r1 : Int) + (List.length r2 : Int))) ≤ (6 : Int))) then k0 t2.1 else again ((Go.IntKind.wrap .i64 (t2.1 + (1 : Int))), t2.2.1, t2.2.2) else none else none else none else none else k1 ()
def qQ k0 k1 := zL (@Wb R k0 k1) Y3
def Jx (x : Qz8) : Option Int :=
 qQ (fun x3 => some x3) (fun x4 => some (-1 : Int)) ((0 : Int), x.1, x.2)
def yiO : List QF := [yif]
def y63 (t : y8x) : St := ⟨.dead :: .box 1 0 :: .dead :: vI t.1 :: dd 26 [], [(1, .box [z9 t.2.1, yA t.2.2])]⟩
def ygY : Gk KO := fun κ => Wb (fun t => κ none ⟨dd 2 (vI t :: dd 27 []), []⟩) (fun t => κ (some 0) ⟨dd 30 [], []⟩)
def yiP : Lp := lpC 2 (unG yec y63) @ygY lpN
theorem yoJ : LF yiO yiP 203 2 Tryz.f203 0 y63 @ygY fun t => t := fun R κ again t => by kernel_rfl
theorem yoK : LK yiO yiP 203 Tryz.f203 0 := lkN (u := (unG yec y63)) (yw fun t => by kernel_rfl) yoJ
theorem yt2 : EV yiO yiP 203 Tryz.f203 ymR qz8 [(.int .i64)] Jx := fun x => by kernel_rfl
def yz5 : QF := ⟨203, Jx, okN (n := 1) Tryz.func203 ⟨yoK, trivial⟩ yt2⟩
abbrev KP : Type := y8x
def Wc (k0 : Qz8 → Option R) (again : KP → Option R) (t2 : KP) : Option R :=
 bif (decide (t2.1 ≥ (0 : Int))) then if (0 : Int) ≤ t2.1 then if t2.1 < (List.length t2.2.2 : Int) then Option.bind (yz (yd t2.2.2 t2.1)) fun r2 => if (0 : Int) ≤ (Go.IntKind.wrap .i64 (t2.1 + (1 : Int))) then if (Go.IntKind.wrap .i64 (t2.1 + (1 : Int))) < (List.length t2.2.2 : Int) then Option.bind (yz (yd t2.2.2 (Go.IntKind.wrap .i64 (t2.1 + (1 : Int))))) fun r3 => if (List.length r2 + List.length r3) * 40 < 140737488355328 then if (0 : Int) ≤ (0 : Int) then if (0 : Int) ≤ (Go.IntKind.wrap .i64 (t2.1 + (1 : Int))) then if (Go.IntKind.wrap .i64 (t2.1 + (1 : Int))) ≤ (List.length t2.2.1 : Int) then if (List.length ([] : List yb) + List.length (List.drop (Int.toNat (0 : Int)) (List.take (Int.toNat (Go.IntKind.wrap .i64 (t2.1 + (1 : Int)))) t2.2.1))) * 8 < 140737488355328 then if (0 : Int) ≤ (Go.IntKind.wrap .i64 (t2.1 + (2 : Int))) then if (Go.IntKind.wrap .i64 (t2.1 + (2 : Int))) ≤ (List.length t2.2.1 : Int) then if (List.length t2.2.1 : Int) ≤ (List.length t2.2.1 : Int) then if (List.length (([] : List yb) ++ (List.drop (Int.toNat (0 : Int)) (List.take (Int.toNat (Go.IntKind.wrap .i64 (t2.1 + (1 : Int)))) t2.2.1))) + List.length (List.drop (Int.toNat (Go.IntKind.wrap .i64 (t2.1 + (2 : Int)))) (List.take (Int.toNat (List.length t2.2.1 : Int)) t2.2.1))) * 8 < 140737488355328 then if (0 : Int) ≤ (0 : Int) then if (0 : Int) ≤ t2.1 then if t2.1 ≤ (List.length t2.2.2 : Int) then if (List.length ([] : List y0) + List.length (List.drop (Int.toNat (0 : Int)) (List.take (Int.toNat t2.1) t2.2.2))) * 24 < 140737488355328 then Option.bind (yS (r2 ++ r3)) fun r4 => if (List.length (([] : List y0) ++ (List.drop (Int.toNat (0 : Int)) (List.take (Int.toNat t2.1) t2.2.2))) + List.length ([r4] : List y0)) * 24 < 140737488355328 then if (0 : Int) ≤ (Go.IntKind.wrap .i64 (t2.1 + (2 : Int))) then if (Go.IntKind.wrap .i64 (t2.1 + (2 : Int))) ≤ (List.length t2.2.2 : Int) then if (List.length t2.2.2 : Int) ≤ (List.length t2.2.2 : Int) then if (List.length ((([] : List y0) ++ (List.drop (Int.toNat (0 : Int)) (List.take (Int.toNat t2.1) t2.2.2))) ++ ([r4] : List y0)) + List.length (List.drop (Int.toNat (Go.IntKind.wrap .i64 (t2.1 + (2 : Int)))) (List.take (Int.toNat (List.length t2.2.2 : Int)) t2.2.2))) * 24 < 140737488355328 then Option.bind (Jx (((([] : List yb) ++ (List.drop (Int.toNat (0 : Int)) (List.take (Int.toNat (Go.IntKind.wrap .i64 (t2.1 + (1 : Int)))) t2.2.1))) ++ (List.drop (Int.toNat (Go.IntKind.wrap .i64 (t2.1 + (2 : Int)))) (List.take (Int.toNat (List.length t2.2.1 : Int)) t2.2.1))), (((([] : List y0) ++ (List.drop (Int.toNat (0 : Int)) (List.take (Int.toNat t2.1) t2.2.2))) ++ ([r4] : List y0)) ++ (List.drop (Int.toNat (Go.IntKind.wrap .i64 (t2.1 + (2 : Int)))) (List.take (Int.toNat (List.length t2.2.2 : Int)) t2.2.2))))) fun r5 => again (r5, ((([] : List yb) ++ (List.drop (Int.toNat (0 : Int)) (List.take (Int.toNat (Go.IntKind.wrap .i64 (t2.1 + (1 : Int)))) t2.2.1))) ++ (List.drop (Int.toNat (Go.IntKind.wrap .i64 (t2.1 + (2 : Int)))) (List.take (Int.toNat (List.length t2.2.1 : Int)) t2.2.1))), (((([] : List y0) ++ (List.drop (Int.toNat (0 : Int)) (List.take (Int.toNat t2.1) t2.2.2))) ++ ([r4] : List y0)) ++ (List.drop (Int.toNat (Go.IntKind.wrap .i64 (t2.1 + (2 : Int)))) (List.take (Int.toNat (List.length t2.2.2 : Int)) t2.2.2)))) else none else none else none else none else none else none else none else none else none else none else none else none else none else none else none else none else none else none else none else none else none else none else k0 t2.2
def qR k0 := zL (@Wc R k0) Y3
def YY (x : Qz8) : Option Qz8 :=
 Option.bind (Jx x) fun r1 => qR (fun x6 => some x6) (r1, x)
def yiQ : List QF := [yif, yqG, yz5]
def y64 (t : y8x) : St := ⟨.dead :: .box 1 0 :: .box 2 0 :: vI t.1 :: dd 56 [], [(1, .box [.own 10000000, .own 10000001]), (2, .box [.nils, .nils]), (10000000, .root true 3 yf t.2.1), (10000001, .root true 99 yj t.2.2)]⟩
def ygZ : Gk KP := fun κ => Wc (fun t => κ (some 0) ⟨.dead :: .box 1 0 :: .box 2 0 :: dd 57 [], [(1, .box [.own 10000000, .own 10000001]), (2, .box [.nils, .nils]), (10000000, .root true 3 yf t.1), (10000001, .root true 99 yj t.2)]⟩)
def yiR : Lp := lpC 2 (unG yec y64) @ygZ lpN
theorem yoL : LF yiQ yiR 189 2 Tryz.f189 0 y64 @ygZ fun t => t := fun R κ again t => by kernel_rfl
theorem yoM : LK yiQ yiR 189 Tryz.f189 0 := lkN (u := (unG yec y64)) (yw fun t => by kernel_rfl) yoL
theorem yt3 : EV yiQ yiR 189 Tryz.f189 ymS qz8 qz8 YY := fun x => by kernel_rfl
def yz6 : QF := ⟨189, YY, okN (n := 1) Tryz.func189 ⟨yoM, trivial⟩ yt3⟩
def zP (x : ywq) : Option yws :=
 Option.bind (YX (x.1, x.2.1)) fun r1 => Option.bind (Ye (x.1, x.2.1)) fun r2 => Option.bind (bif (!r2) then some true else Option.bind (wK x.2.2) fun r4 => some (!r4)) fun u3 => bif u3 then some (r1.1, r1.2, false) else Option.bind (jr (x.1, x.2.1, x.2.2.1, x.2.2.2.1)) fun r5 => if (0 : Int) ≤ r5 then if r5 < (List.length x.2.1 : Int) then Option.bind (JY ((yd x.2.1 r5), x.2.2.1, x.2.2.2.1, x.2.2.2.2.1, x.2.2.2.2.2.1, x.2.2.2.2.2.2)) fun r6 => if (0 : Int) ≤ r5 then if r5 < (List.length x.1 : Int) then Option.bind (jS (r1.1, r1.2, r5, ([(zt x.1 r5)] : List yb), ([r6.1] : List y0))) fun r7 => bif (!r6.2) then if (0 : Int) ≤ r5 then if r5 < (List.length x.2.1 : Int) then Option.bind (yz (yd x.2.1 r5)) fun r8 => Option.bind (zy (r8, x.2.2)) fun r9 => Option.bind (zR r9) fun r10 => if (0 : Int) ≤ r5 then if r5 < (List.length x.1 : Int) then if (0 : Int) ≤ (Go.IntKind.wrap .i64 (Int.tdiv (Go.IntKind.wrap .i64 ((List.length r10 : Int) + (1 : Int))) (2 : Int))) then if (Go.IntKind.wrap .i64 (Int.tdiv (Go.IntKind.wrap .i64 ((List.length r10 : Int) + (1 : Int))) (2 : Int))) < (List.length r10 : Int) then Option.bind (Js ((y6 r10 (Go.IntKind.wrap .i64 (Int.tdiv (Go.IntKind.wrap .i64 ((List.length r10 : Int) + (1 : Int))) (2 : Int)))).1, (y6 r10 (Go.IntKind.wrap .i64 (Int.tdiv (Go.IntKind.wrap .i64 ((List.length r10 : Int) + (1 : Int))) (2 : Int)))).2.1, (y6 r10 (Go.IntKind.wrap .i64 (Int.tdiv (Go.IntKind.wrap .i64 ((List.length r10 : Int) + (1 : Int))) (2 : Int)))).2.2.1, (y6 r10 (Go.IntKind.wrap .i64 (Int.tdiv (Go.IntKind.wrap .i64 ((List.length r10 : Int) + (1 : Int))) (2 : Int)))).2.2.2.1, (y6 r10 (Go.IntKind.wrap .i64 (Int.tdiv (Go.IntKind.wrap .i64 ((List.length r10 : Int) + (1 : Int))) (2 : Int)))).2.2.2.2)) fun r11 => if (0 : Int) ≤ (0 : Int) then if (0 : Int) ≤ (Go.IntKind.wrap .i64 (Int.tdiv (Go.IntKind.wrap .i64 ((List.length r10 : Int) + (1 : Int))) (2 : Int))) then if (Go.IntKind.wrap .i64 (Int.tdiv (Go.IntKind.wrap .i64 ((List.length r10 : Int) + (1 : Int))) (2 : Int))) ≤ (List.length r10 : Int) then Option.bind (yS (List.drop (Int.toNat (0 : Int)) (List.take (Int.toNat (Go.IntKind.wrap .i64 (Int.tdiv (Go.IntKind.wrap .i64 ((List.length r10 : Int) + (1 : Int))) (2 : Int)))) r10))) fun r12 => if (0 : Int) ≤ (Go.IntKind.wrap .i64 (Int.tdiv (Go.IntKind.wrap .i64 ((List.length r10 : Int) + (1 : Int))) (2 : Int))) then if (Go.IntKind.wrap .i64 (Int.tdiv (Go.IntKind.wrap .i64 ((List.length r10 : Int) + (1 : Int))) (2 : Int))) ≤ (List.length r10 : Int) then if (List.length r10 : Int) ≤ (List.length r10 : Int) then Option.bind (yS (List.drop (Int.toNat (Go.IntKind.wrap .i64 (Int.tdiv (Go.IntKind.wrap .i64 ((List.length r10 : Int) + (1 : Int))) (2 : Int)))) (List.take (Int.toNat (List.length r10 : Int)) r10))) fun r13 => Option.bind (jS (r1.1, r1.2, r5, ([(zt x.1 r5), r11] : List yb), ([r12, r13] : List y0))) fun r14 => Option.bind (YY r14) fun r15 => Option.bind (Ye r15) fun r16 => bif (!r16) then some (r1.1, r1.2, false) else some (r15.1, r15.2, true) else none else none else none else none else none else none else none else none else none else none else none else none else Option.bind (bif (decide (r5 > (0 : Int))) then Option.bind (yz r6.1) fun r18 => some ((List.length r18 : Int) == (0 : Int)) else some false) fun u17 => bif u17 then Option.bind (jS (r1.1, r1.2, r5, ([] : List yb), ([] : List y0))) fun r19 => Option.bind (YY r19) fun r20 => Option.bind (Ye r20) fun r21 => bif (!r21) then some (r1.1, r1.2, false) else some (r20.1, r20.2, true) else Option.bind (YY r7) fun r22 => Option.bind (Ye r22) fun r23 => bif (!r23) then some (r1.1, r1.2, false) else some (r22.1, r22.2, true) else none else none else none else none
theorem yt4 : EV [yxT, ysD, yif, yxS, yxZ, yxO, yz3, yz4, yse, ysh, yqG, yz6] lpN 167 Tryz.f167 ymT ywr ywt zP := fun x => by kernel_rfl
def yt5 : QF := ⟨167, zP, okN (n := 0) Tryz.func167 trivial yt4⟩
def Zq (x : yk9) : Option (List y8) :=
 Option.bind (zS x.1) fun r1 => Option.bind (Ze x.1) fun r2 => Option.bind (bif r2 then Option.bind (yy (x.2, (0 : Int), (Go.IntKind.wrap .i64 ((List.length x.1 : Int) - (1 : Int))))) fun r4 => some r4 else some false) fun u3 => Option.bind (bif u3 then if (0 : Int) ≤ x.2 then if x.2 < (List.length x.1 : Int) then some ((ym x.1 x.2).2.1) else none else none else some false) fun u5 => bif u5 then if (0 : Int) ≤ x.2 then if x.2 < (List.length x.1 : Int) then if (0 : Int) ≤ x.2 then if x.2 < (List.length r1 : Int) then some (List.set r1 (Int.toNat x.2) ((Int.tmod (Go.IntKind.wrap .i64 ((ym x.1 x.2).1 + (1 : Int))) (1000 : Int)), false, (0 : Int))) else none else none else none else none else some r1
theorem yt6 : EV [y5x, yst, ysF] lpN 176 Tryz.f176 ymU yka [(.sl 53 ye)] Zq := fun x => by kernel_rfl
def yy1 : QF := ⟨176, Zq, okN (n := 0) Tryz.func176 trivial yt6⟩
def JZ (x : yys) : Option Qz9 :=
 Option.bind (bif x.2.2.2.2.2.2.2.2.2.2.2 then some (x.2.2.2.2.2.2.2.2.1 == (1 : Int)) else some false) fun u1 => bif u1 then Option.bind (Zq (x.2.2.2.1, x.2.2.2.2.2.2.2.2.2.1)) fun r2 => some (x.1, x.2.1, x.2.2.1, r2, x.2.2.2.2.1, x.2.2.2.2.2.1) else some (x.1, x.2.1, x.2.2.1, x.2.2.2.1, x.2.2.2.2.1, x.2.2.2.2.2.1)
theorem yt7 : EV [yy1] lpN 168 Tryz.f168 ymV yyt qz9 JZ := fun x => by kernel_rfl
def yz7 : QF := ⟨168, JZ, okN (n := 0) Tryz.func168 trivial yt7⟩
def zA (x : ykG) : Option yf0 :=
 Option.bind (ZR (x.1, x.2.1, x.2.2.2.2.2.2.1, x.2.2.2.2.2.2.2.1)) fun r1 => Option.bind (zP (x.1, x.2.1, x.2.2.2.2.2.2)) fun r2 => bif (!r2.2.2) then some (false, x.1, x.2.1, x.2.2.1, x.2.2.2.1, x.2.2.2.2.1, x.2.2.2.2.2.1) else Option.bind (JZ (r2.1, r2.2.1, x.2.2.1, x.2.2.2.1, x.2.2.2.2.1, x.2.2.2.2.2.1, r1)) fun r3 => some (true, r3)
theorem yt8 : EV [ysY, yt5, yz7] lpN 150 Tryz.f150 ymW ykH ykC zA := fun x => by kernel_rfl
def yt9 : QF := ⟨150, zA, okN (n := 0) Tryz.func150 trivial yt8⟩
def wM (x : ywu) : Option y7L :=
 Option.bind (yk (x.1, x.2.1, x.2.2.1, x.2.2.2.1, x.2.2.2.2.1, x.2.2.2.2.2.1)) fun r1 => Option.bind (YH (x.1, x.2.1, x.2.2.1, x.2.2.2.1, x.2.2.2.2.1, x.2.2.2.2.2.1, x.2.2.2.2.2.2.1, x.2.2.2.2.2.2.2.1)) fun r2 => Option.bind (bif (r2 == (0 : Int)) then Option.bind (ze x.2.2.2.2.2.2.2.2) fun r4 => some (!r4) else some false) fun u3 => bif u3 then bif ((4 : Int) != (0 : Int)) then some (r1.1, r1.2.1, r1.2.2.1, r1.2.2.2.1, r1.2.2.2.2.1, r1.2.2.2.2.2, (4 : Int)) else Option.bind (zT (x.2.2.2.1, x.2.2.2.2.2.2.2.2)) fun r5 => bif r5.2.2 then Option.bind (zd (x.1, x.2.1, x.2.2.1, x.2.2.2.1, x.2.2.2.2.1, x.2.2.2.2.2.1, x.2.2.2.2.2.2.1)) fun r6 => if (0 : Int) ≤ r6 then if r6 < (List.length x.2.2.2.2.1 : Int) then if (0 : Int) ≤ r5.2.1 then if r5.2.1 < (List.length r5.1 : Int) then Option.bind (zA (r1.1, r1.2.1, r1.2.2.1, r5.1, r1.2.2.2.2.1, r1.2.2.2.2.2, x.2.2.2.2.2.2.2.1, (yc x.2.2.2.2.1 r6).2.1, (1 : Int), r5.2.1, (ym r5.1 r5.2.1).1)) fun r7 => Option.bind (yP (x.1, x.2.1, x.2.2.1, x.2.2.2.1, x.2.2.2.2.1, x.2.2.2.2.2.1, r7.2.1, r7.2.2.1, r7.2.2.2.1, r7.2.2.2.2.1, r7.2.2.2.2.2.1, r7.2.2.2.2.2.2, r7.1)) fun r8 => some r8 else none else none else none else none else Option.bind (yP (x.1, x.2.1, x.2.2.1, x.2.2.2.1, x.2.2.2.2.1, x.2.2.2.2.2.1, r1.1, r1.2.1, r1.2.2.1, r5.1, r1.2.2.2.2.1, r1.2.2.2.2.2, false)) fun r9 => some r9 else bif (r2 != (0 : Int)) then some (r1.1, r1.2.1, r1.2.2.1, r1.2.2.2.1, r1.2.2.2.2.1, r1.2.2.2.2.2, r2) else Option.bind (zT (x.2.2.2.1, x.2.2.2.2.2.2.2.2)) fun r10 => bif r10.2.2 then Option.bind (zd (x.1, x.2.1, x.2.2.1, x.2.2.2.1, x.2.2.2.2.1, x.2.2.2.2.2.1, x.2.2.2.2.2.2.1)) fun r11 => if (0 : Int) ≤ r11 then if r11 < (List.length x.2.2.2.2.1 : Int) then if (0 : Int) ≤ r10.2.1 then if r10.2.1 < (List.length r10.1 : Int) then Option.bind (zA (r1.1, r1.2.1, r1.2.2.1, r10.1, r1.2.2.2.2.1, r1.2.2.2.2.2, x.2.2.2.2.2.2.2.1, (yc x.2.2.2.2.1 r11).2.1, (1 : Int), r10.2.1, (ym r10.1 r10.2.1).1)) fun r12 => Option.bind (yP (x.1, x.2.1, x.2.2.1, x.2.2.2.1, x.2.2.2.2.1, x.2.2.2.2.2.1, r12.2.1, r12.2.2.1, r12.2.2.2.1, r12.2.2.2.2.1, r12.2.2.2.2.2.1, r12.2.2.2.2.2.2, r12.1)) fun r13 => some r13 else none else none else none else none else Option.bind (yP (x.1, x.2.1, x.2.2.1, x.2.2.2.1, x.2.2.2.2.1, x.2.2.2.2.2.1, r1.1, r1.2.1, r1.2.2.1, r10.1, r1.2.2.2.2.1, r1.2.2.2.2.2, false)) fun r14 => some r14
theorem yta : EV [ydj, yqF, ygR, yki, ysS, yxY, yt9] lpN 113 Tryz.f113 ymX ywv y7M wM := fun x => by kernel_rfl
def yz8 : QF := ⟨113, wM, okN (n := 0) Tryz.func113 trivial yta⟩
abbrev Wd : Type := yww
def We (k0 : List yb → Option R) (again : Wd → Option R) (t3 : Wd) : Option R :=
 Option.bind (bif (decide (t3.2.1 ≥ (0 : Int))) then some (decide ((List.length t3.2.2 : Int) ≤ (List.length t3.1 : Int))) else some false) fun u2 => bif u2 then if (0 : Int) ≤ t3.2.1 then if t3.2.1 < (List.length t3.1 : Int) then if (List.length t3.2.2 + List.length ([(yK t3.1 t3.2.1).1] : List yb)) * 8 < 140737488355328 then if (0 : Int) ≤ t3.2.1 then if t3.2.1 < (List.length t3.1 : Int) then Option.bind (zF (t3.1, (yK t3.1 t3.2.1).2)) fun r3 => again (t3.1, r3, (t3.2.2 ++ ([(yK t3.1 t3.2.1).1] : List yb))) else none else none else none else none else none else k0 t3.2.2
def qS k0 := zL (@We R k0) Y3
def Jy (x : yed) : Option (List yb) :=
 Option.bind (zF x) fun r1 => qS (fun x4 => some x4) (x.1, r1, ([] : List yb))
def yiS : List QF := [ykh]
def y65 (t : yww) : St := ⟨zl t.1 :: dd 4 (.own 10000000 :: vI t.2.1 :: dd 29 []), [(10000000, .root true 3 yf t.2.2)]⟩
def yh0 : Gk Wd := fun κ => We (fun t => κ (some 0) ⟨dd 5 (.own 10000000 :: dd 30 []), [(10000000, .root true 3 yf t)]⟩)
def yiT : Lp := lpC 3 (unG ywx y65) @yh0 lpN
theorem yoN : LF yiS yiT 190 3 Tryz.f190 0 y65 @yh0 fun t => t := fun R κ again t => by kernel_rfl
theorem yoO : LK yiS yiT 190 Tryz.f190 0 := lkN (u := (unG ywx y65)) (yw fun t => by kernel_rfl) yoN
theorem ytb : EV yiS yiT 190 Tryz.f190 ymY yee [(.sl 3 yf)] Jy := fun x => by kernel_rfl
def yy2 : QF := ⟨190, Jy, okN (n := 1) Tryz.func190 ⟨yoO, trivial⟩ ytb⟩
abbrev KQ : Type := ywy
def jT (k0 : List y7 → Option R) (again : KQ → Option R) (t4 : KQ) : Option R :=
 bif (decide (t4.2.1 < (List.length t4.2.2.2 : Int))) then if (0 : Int) ≤ t4.2.1 then if t4.2.1 < (List.length t4.2.2.2 : Int) then bif ((y6 t4.2.2.2 t4.2.1).1 == t4.1) then if (0 : Int) ≤ t4.2.1 then if t4.2.1 < (List.length t4.2.2.2 : Int) then if (List.length t4.2.2.1 + List.length ([((y6 t4.2.2.2 t4.2.1).1, (y6 t4.2.2.2 t4.2.1).2.1, (y6 t4.2.2.2 t4.2.1).2.2.1, (y6 t4.2.2.2 t4.2.1).2.2.2.1, (y6 t4.2.2.2 t4.2.1).2.2.2.2)] : List y7)) * 40 < 140737488355328 then again (t4.1, (Go.IntKind.wrap .i64 (t4.2.1 + (1 : Int))), (t4.2.2.1 ++ ([((y6 t4.2.2.2 t4.2.1).1, (y6 t4.2.2.2 t4.2.1).2.1, (y6 t4.2.2.2 t4.2.1).2.2.1, (y6 t4.2.2.2 t4.2.1).2.2.2.1, (y6 t4.2.2.2 t4.2.1).2.2.2.2)] : List y7)), t4.2.2.2) else none else none else none else again (t4.1, (Go.IntKind.wrap .i64 (t4.2.1 + (1 : Int))), t4.2.2.1, t4.2.2.2) else none else none else k0 t4.2.2.1
def qT k0 := zL (@jT R k0) Y3
def Wf (x : ykA) : Option (List y7) :=
 Option.bind (yI (x.1, x.2.1)) fun r1 => qT (fun x2 => some x2) (x.2.2, (0 : Int), ([] : List y7), r1)
def yiU : List QF := [yii]
def y66 (t : ywy) : St := ⟨.dead :: vI t.1 :: dd 3 (.own 10000000 :: .own 10000001 :: vI t.2.1 :: dd 24 []), [(10000000, .root true 63 yg t.2.2.1), (10000001, .root true 63 yg t.2.2.2)]⟩
def yh1 : Gk KQ := fun κ => jT (fun t => κ (some 0) ⟨dd 5 (.own 10000000 :: dd 26 []), [(10000000, .root true 63 yg t)]⟩)
def yiV : Lp := lpC 4 (unG ywz y66) @yh1 lpN
theorem yoP : LF yiU yiV 204 4 Tryz.f204 0 y66 @yh1 fun t => t := fun R κ again t => by kernel_rfl
theorem yoQ : LK yiU yiV 204 Tryz.f204 0 := lkN (u := (unG ywz y66)) (yw fun t => by kernel_rfl) yoP
theorem ytc : EV yiU yiV 204 Tryz.f204 ymZ ykB [(.sl 63 yg)] Wf := fun x => by kernel_rfl
def yz9 : QF := ⟨204, Wf, okN (n := 1) Tryz.func204 ⟨yoQ, trivial⟩ ytc⟩
abbrev vU : Type := ywA
def w3 (k0 : Bool → Option R) (k1 : Unit → Option R) (again : vU → Option R) (t2 : vU) : Option R :=
 bif (decide (t2.2.2 < (List.length t2.1 : Int))) then if (0 : Int) ≤ t2.2.2 then if t2.2.2 < (List.length t2.1 : Int) then bif ((zt t2.1 t2.2.2) == t2.2.1) then k0 true else again (t2.1, t2.2.1, (Go.IntKind.wrap .i64 (t2.2.2 + (1 : Int)))) else none else none else k1 ()
def y02 k0 k1 := zL (@w3 R k0 k1) Y3
def kV (x : yrc) : Option Bool :=
 y02 (fun x1 => some x1) (fun x2 => some false) (x.1, x.2, (0 : Int))
def yiW : List QF := []
def y67 (t : ywA) : St := ⟨z9 t.1 :: vI t.2.1 :: dd 3 (vI t.2.2 :: dd 12 []), []⟩
def yh2 : Gk vU := fun κ => w3 (fun t => κ none ⟨dd 4 (vB t :: dd 13 []), []⟩) (fun t => κ (some 0) ⟨dd 18 [], []⟩)
def yiX : Lp := lpC 2 (unG ywB y67) @yh2 lpN
theorem yoR : LF yiW yiX 205 2 Tryz.f205 0 y67 @yh2 fun t => t := fun R κ again t => by kernel_rfl
theorem yoS : LK yiW yiX 205 Tryz.f205 0 := lkN (u := (unG ywB y67)) (yw fun t => by kernel_rfl) yoR
theorem ytd : EV yiW yiX 205 Tryz.f205 yn0 yrd [.bool] kV := fun x => by kernel_rfl
def yza : QF := ⟨205, kV, okN (n := 1) Tryz.func205 ⟨yoS, trivial⟩ ytd⟩
abbrev KR : Type := ywC
def jU (k0 : ywE → Option R) (again : KR → Option R) (t5 : KR) : Option R :=
 bif (decide (t5.2.2.1 < (List.length t5.2.2.2.2.2.2.2.2.2.2.2.2.2 : Int))) then if (0 : Int) ≤ t5.2.2.1 then if t5.2.2.1 < (List.length t5.2.2.2.2.2.2.2.2.2.2.2.2.2 : Int) then Option.bind (kV (t5.1, (y6 t5.2.2.2.2.2.2.2.2.2.2.2.2.2 t5.2.2.1).2.1)) fun r2 => Option.bind (bif r2 then Option.bind (bif (!t5.2.1) then some true else if (0 : Int) ≤ t5.2.2.1 then if t5.2.2.1 < (List.length t5.2.2.2.2.2.2.2.2.2.2.2.2.2 : Int) then some (decide ((y6 t5.2.2.2.2.2.2.2.2.2.2.2.2.2 t5.2.2.1).2.1 > t5.2.2.2.2.2.2.2.2.2.1)) else none else none) fun u4 => some u4 else some false) fun u3 => bif u3 then if (0 : Int) ≤ t5.2.2.1 then if t5.2.2.1 < (List.length t5.2.2.2.2.2.2.2.2.2.2.2.2.2 : Int) then again (t5.1, true, (Go.IntKind.wrap .i64 (t5.2.2.1 + (1 : Int))), t5.2.2.2.1, t5.2.2.2.2.1, t5.2.2.2.2.2.1, t5.2.2.2.2.2.2.1, t5.2.2.2.2.2.2.2.1, (y6 t5.2.2.2.2.2.2.2.2.2.2.2.2.2 t5.2.2.1).1, (y6 t5.2.2.2.2.2.2.2.2.2.2.2.2.2 t5.2.2.1).2.1, (y6 t5.2.2.2.2.2.2.2.2.2.2.2.2.2 t5.2.2.1).2.2.1, (y6 t5.2.2.2.2.2.2.2.2.2.2.2.2.2 t5.2.2.1).2.2.2.1, (y6 t5.2.2.2.2.2.2.2.2.2.2.2.2.2 t5.2.2.1).2.2.2.2, t5.2.2.2.2.2.2.2.2.2.2.2.2.2) else none else none else again (t5.1, t5.2.1, (Go.IntKind.wrap .i64 (t5.2.2.1 + (1 : Int))), t5.2.2.2.1, t5.2.2.2.2.1, t5.2.2.2.2.2.1, t5.2.2.2.2.2.2.1, t5.2.2.2.2.2.2.2.1, t5.2.2.2.2.2.2.2.2.1, t5.2.2.2.2.2.2.2.2.2.1, t5.2.2.2.2.2.2.2.2.2.2.1, t5.2.2.2.2.2.2.2.2.2.2.2.1, t5.2.2.2.2.2.2.2.2.2.2.2.2.1, t5.2.2.2.2.2.2.2.2.2.2.2.2.2) else none else none else k0 (t5.2.1, t5.2.2.2.1, t5.2.2.2.2.1, t5.2.2.2.2.2.1, t5.2.2.2.2.2.2.1, t5.2.2.2.2.2.2.2.1, t5.2.2.2.2.2.2.2.2.1, t5.2.2.2.2.2.2.2.2.2.1, t5.2.2.2.2.2.2.2.2.2.2.1, t5.2.2.2.2.2.2.2.2.2.2.2.1, t5.2.2.2.2.2.2.2.2.2.2.2.2.1)
def qU k0 := zL (@jU R k0) Y3
def ZS (x : ywF) : Option yce :=
 Option.bind (Wf (x.1, x.2.1, x.2.2.1)) fun r1 => qU (fun x5 => some (x5.2.2.2.2.2.2.1, x5.2.2.2.2.2.2.2.1, x5.2.2.2.2.2.2.2.2.1, x5.2.2.2.2.2.2.2.2.2.1, x5.2.2.2.2.2.2.2.2.2.2, x5.1)) (x.2.2.2, false, (0 : Int), (0 : Int), (0 : Int), (0 : Int), (0 : Int), (0 : Int), (0 : Int), (0 : Int), (0 : Int), (0 : Int), (0 : Int), r1)
def yiY : List QF := [yz9, yza]
def y68 (t : ywC) : St := ⟨dd 2 (z9 t.1 :: dd 3 (.box 6 0 :: .dead :: .box 8 0 :: vB t.2.1 :: .own 10000000 :: vI t.2.2.1 :: dd 37 [])), [(6, .box [vI t.2.2.2.1, vI t.2.2.2.2.1, vI t.2.2.2.2.2.1, vI t.2.2.2.2.2.2.1, vI t.2.2.2.2.2.2.2.1]), (8, .box [vI t.2.2.2.2.2.2.2.2.1, vI t.2.2.2.2.2.2.2.2.2.1, vI t.2.2.2.2.2.2.2.2.2.2.1, vI t.2.2.2.2.2.2.2.2.2.2.2.1, vI t.2.2.2.2.2.2.2.2.2.2.2.2.1]), (10000000, .root true 63 yg t.2.2.2.2.2.2.2.2.2.2.2.2.2)]⟩
def yh3 : Gk KR := fun κ => jU (fun t => κ (some 0) ⟨dd 6 (.box 6 0 :: .dead :: .box 8 0 :: vB t.1 :: dd 39 []), [(6, .box [vI t.2.1, vI t.2.2.1, vI t.2.2.2.1, vI t.2.2.2.2.1, vI t.2.2.2.2.2.1]), (8, .box [vI t.2.2.2.2.2.2.1, vI t.2.2.2.2.2.2.2.1, vI t.2.2.2.2.2.2.2.2.1, vI t.2.2.2.2.2.2.2.2.2.1, vI t.2.2.2.2.2.2.2.2.2.2])]⟩)
def yiZ : Lp := lpC 5 (unG ywD y68) @yh3 lpN
theorem yoT : LF yiY yiZ 191 5 Tryz.f191 0 y68 @yh3 fun t => t := fun R κ again t => by kernel_rfl
theorem yoU : LK yiY yiZ 191 Tryz.f191 0 := lkN (u := (unG ywD y68)) (yw fun t => by kernel_rfl) yoT
theorem yte : EV yiY yiZ 191 Tryz.f191 yn1 ywG ycf ZS := fun x => by kernel_rfl
def yy3 : QF := ⟨191, ZS, okN (n := 1) Tryz.func191 ⟨yoU, trivial⟩ yte⟩
def YP (x : yqC) : Option yce :=
 Option.bind (Jy (x.2.2.1, x.2.2.2.2)) fun r1 => bif ((List.length r1 : Int) == (0 : Int)) then some ((0 : Int), (0 : Int), (0 : Int), (0 : Int), (0 : Int), false) else if (0 : Int) ≤ (1 : Int) then if (1 : Int) ≤ (List.length r1 : Int) then if (List.length r1 : Int) ≤ (List.length r1 : Int) then Option.bind (ZS (x.1, x.2.1, x.2.2.2.1, (List.drop (Int.toNat (1 : Int)) (List.take (Int.toNat (List.length r1 : Int)) r1)))) fun r2 => some r2 else none else none else none
theorem ytf : EV [yy2, yy3] lpN 169 Tryz.f169 yn2 yqD ycf YP := fun x => by kernel_rfl
def yy4 : QF := ⟨169, YP, okN (n := 0) Tryz.func169 trivial ytf⟩
def Y6 (x : yre) : Option yf0 :=
 if (0 : Int) ≤ x.2.2.2.2.2.2.1 then if x.2.2.2.2.2.2.1 < (List.length x.2.2.2.2.1 : Int) then Option.bind (YP (x.1, x.2.1, x.2.2.1, x.2.2.2.2.2.2.2, (yc x.2.2.2.2.1 x.2.2.2.2.2.2.1).2.1)) fun r1 => Option.bind (bif r1.2.2.2.2.2 then some (r1.2.2.1 == (1 : Int)) else some false) fun u2 => bif u2 then Option.bind (zA (x.1, x.2.1, x.2.2.1, x.2.2.2.1, x.2.2.2.2.1, x.2.2.2.2.2.1, x.2.2.2.2.2.2.2, (yc x.2.2.2.2.1 x.2.2.2.2.2.2.1).2.1, (2 : Int), (0 : Int), (0 : Int))) fun r3 => some r3 else Option.bind (ZR (x.1, x.2.1, x.2.2.2.2.2.2.2, (yc x.2.2.2.2.1 x.2.2.2.2.2.2.1).2.1)) fun r4 => bif (!r4.2.2.2.2.2) then some (true, x.1, x.2.1, x.2.2.1, x.2.2.2.1, x.2.2.2.2.1, x.2.2.2.2.2.1) else Option.bind (zA (x.1, x.2.1, x.2.2.1, x.2.2.2.1, x.2.2.2.2.1, x.2.2.2.2.2.1, x.2.2.2.2.2.2.2, (yc x.2.2.2.2.1 x.2.2.2.2.2.2.1).2.1, (0 : Int), (0 : Int), (0 : Int))) fun r5 => some r5 else none else none
theorem ytg : EV [yt9, ysY, yy4] lpN 151 Tryz.f151 yn3 yrf ykC Y6 := fun x => by kernel_rfl
def yy5 : QF := ⟨151, Y6, okN (n := 0) Tryz.func151 trivial ytg⟩
def jt (x : ykf) : Option y7L :=
 Option.bind (yk (x.1, x.2.1, x.2.2.1, x.2.2.2.1, x.2.2.2.2.1, x.2.2.2.2.2.1)) fun r1 => Option.bind (YH x) fun r2 => bif (r2 != (0 : Int)) then some (r1.1, r1.2.1, r1.2.2.1, r1.2.2.2.1, r1.2.2.2.2.1, r1.2.2.2.2.2, r2) else Option.bind (zd (x.1, x.2.1, x.2.2.1, x.2.2.2.1, x.2.2.2.2.1, x.2.2.2.2.2.1, x.2.2.2.2.2.2.1)) fun r3 => Option.bind (Y6 (r1.1, r1.2.1, r1.2.2.1, r1.2.2.2.1, r1.2.2.2.2.1, r1.2.2.2.2.2, r3, x.2.2.2.2.2.2.2)) fun r4 => Option.bind (yP (x.1, x.2.1, x.2.2.1, x.2.2.2.1, x.2.2.2.2.1, x.2.2.2.2.2.1, r4.2.1, r4.2.2.1, r4.2.2.2.1, r4.2.2.2.2.1, r4.2.2.2.2.2.1, r4.2.2.2.2.2.2, r4.1)) fun r5 => some r5
theorem yth : EV [ydj, ygR, yki, ysS, yy5] lpN 114 Tryz.f114 yn4 ykg y7M jt := fun x => by kernel_rfl
def yzb : QF := ⟨114, jt, okN (n := 0) Tryz.func114 trivial yth⟩
abbrev wl : Type := ykI ⊕ ykJ
def jh (k0 : yyu → Option R) (k1 : yyv → Option R) (again : wl → Option R) : wl → Option R
 | .inl t10 => Option.bind (bif (decide (t10.2.2.2.1 ≥ t10.1)) then some t10.2.2.1 else some false) fun u15 => bif u15 then Option.bind (Y6 (t10.2.2.2.2.2.2.2.2.2.2.2.2.1, t10.2.2.2.2.2.2.2.2.2.2.2.2.2.1, t10.2.2.2.2.2.2.2.2.2.2.2.2.2.2.1, t10.2.2.2.2.2.2.2.2.2.2.2.2.2.2.2.1, t10.2.2.2.2.2.2.2.2.2.2.2.2.2.2.2.2, t10.2.2.2.2.2.2.2.2.2.2.2.1, t10.2.1, t10.2.2.2.1)) fun r16 => again (Sum.inr (t10.1, t10.2.1, r16.1, (Go.IntKind.wrap .i64 (t10.2.2.2.1 - (1 : Int))), t10.2.2.2.2.1, t10.2.2.2.2.2.1, t10.2.2.2.2.2.2.1, t10.2.2.2.2.2.2.2.1, t10.2.2.2.2.2.2.2.2.1, t10.2.2.2.2.2.2.2.2.2.1, t10.2.2.2.2.2.2.2.2.2.2.1, r16.2.1, r16.2.2.1, r16.2.2.2.1, r16.2.2.2.2.2.2, r16.2.2.2.2.1, r16.2.2.2.2.2.1)) else k0 (t10.1, t10.2.1, t10.2.2.1, t10.2.2.2.2)
 | .inr t10 => Option.bind (bif (decide (t10.2.2.2.1 ≥ t10.1)) then some t10.2.2.1 else some false) fun u17 => bif u17 then Option.bind (Y6 (t10.2.2.2.2.2.2.2.2.2.2.2.1, t10.2.2.2.2.2.2.2.2.2.2.2.2.1, t10.2.2.2.2.2.2.2.2.2.2.2.2.2.1, t10.2.2.2.2.2.2.2.2.2.2.2.2.2.2.2.1, t10.2.2.2.2.2.2.2.2.2.2.2.2.2.2.2.2, t10.2.2.2.2.2.2.2.2.2.2.2.2.2.2.1, t10.2.1, t10.2.2.2.1)) fun r18 => again (Sum.inr (t10.1, t10.2.1, r18.1, (Go.IntKind.wrap .i64 (t10.2.2.2.1 - (1 : Int))), t10.2.2.2.2.1, t10.2.2.2.2.2.1, t10.2.2.2.2.2.2.1, t10.2.2.2.2.2.2.2.1, t10.2.2.2.2.2.2.2.2.1, t10.2.2.2.2.2.2.2.2.2.1, t10.2.2.2.2.2.2.2.2.2.2.1, r18.2.1, r18.2.2.1, r18.2.2.2.1, r18.2.2.2.2.2.2, r18.2.2.2.2.1, r18.2.2.2.2.2.1)) else k1 (t10.1, t10.2.1, t10.2.2.1, t10.2.2.2.2)
def wm k0 k1 := zL (@jh R k0 k1) Y3
def Jz (x : ykf) : Option y7L :=
 Option.bind (yk (x.1, x.2.1, x.2.2.1, x.2.2.2.1, x.2.2.2.2.1, x.2.2.2.2.2.1)) fun r1 => Option.bind (YH (x.1, x.2.1, x.2.2.1, x.2.2.2.1, x.2.2.2.2.1, x.2.2.2.2.2.1, x.2.2.2.2.2.2.1, (0 : Int))) fun r2 => Option.bind (bif (r2 == (0 : Int)) then Option.bind (yy (x.2.2.2.2.2.2.2, (1 : Int), (12 : Int))) fun r4 => some (!r4) else some false) fun u3 => bif u3 then bif ((4 : Int) != (0 : Int)) then some (r1.1, r1.2.1, r1.2.2.1, r1.2.2.2.1, r1.2.2.2.2.1, r1.2.2.2.2.2, (4 : Int)) else Option.bind (zd (x.1, x.2.1, x.2.2.1, x.2.2.2.1, x.2.2.2.2.1, x.2.2.2.2.2.1, x.2.2.2.2.2.2.1)) fun r5 => if (0 : Int) ≤ r5 then if r5 < (List.length x.2.2.2.2.1 : Int) then wm (fun x10 => if (0 : Int) ≤ x10.2.1 then if x10.2.1 < (List.length x10.2.2.2.2.2.2.2.2.2.2.2.2.2.2.2 : Int) then Option.bind (yP (x10.2.2.2.1, x10.2.2.2.2.1, x10.2.2.2.2.2.1, x10.2.2.2.2.2.2.1, x10.2.2.2.2.2.2.2.1, x10.2.2.2.2.2.2.2.2.1, x10.2.2.2.2.2.2.2.2.2.2.2.1, x10.2.2.2.2.2.2.2.2.2.2.2.2.1, x10.2.2.2.2.2.2.2.2.2.2.2.2.2.1, x10.2.2.2.2.2.2.2.2.2.2.2.2.2.2.1, (List.set x10.2.2.2.2.2.2.2.2.2.2.2.2.2.2.2 (Int.toNat x10.2.1) ((yc x10.2.2.2.2.2.2.2.2.2.2.2.2.2.2.2 x10.2.1).1, (yc x10.2.2.2.2.2.2.2.2.2.2.2.2.2.2.2 x10.2.1).2.1, x10.1, (yc x10.2.2.2.2.2.2.2.2.2.2.2.2.2.2.2 x10.2.1).2.2.2)), x10.2.2.2.2.2.2.2.2.2.2.1, x10.2.2.1)) fun r11 => some r11 else none else none) (fun x12 => if (0 : Int) ≤ x12.2.1 then if x12.2.1 < (List.length x12.2.2.2.2.2.2.2.2.2.2.2.2.2.2.2 : Int) then Option.bind (yP (x12.2.2.2.1, x12.2.2.2.2.1, x12.2.2.2.2.2.1, x12.2.2.2.2.2.2.1, x12.2.2.2.2.2.2.2.1, x12.2.2.2.2.2.2.2.2.1, x12.2.2.2.2.2.2.2.2.2.2.1, x12.2.2.2.2.2.2.2.2.2.2.2.1, x12.2.2.2.2.2.2.2.2.2.2.2.2.1, x12.2.2.2.2.2.2.2.2.2.2.2.2.2.2.1, (List.set x12.2.2.2.2.2.2.2.2.2.2.2.2.2.2.2 (Int.toNat x12.2.1) ((yc x12.2.2.2.2.2.2.2.2.2.2.2.2.2.2.2 x12.2.1).1, (yc x12.2.2.2.2.2.2.2.2.2.2.2.2.2.2.2 x12.2.1).2.1, x12.1, (yc x12.2.2.2.2.2.2.2.2.2.2.2.2.2.2.2 x12.2.1).2.2.2)), x12.2.2.2.2.2.2.2.2.2.2.2.2.2.1, x12.2.2.1)) fun r13 => some r13 else none else none) (Sum.inl (x.2.2.2.2.2.2.2, r5, true, (Go.IntKind.wrap .i64 ((yc x.2.2.2.2.1 r5).2.2.1 - (1 : Int))), x.1, x.2.1, x.2.2.1, x.2.2.2.1, x.2.2.2.2.1, x.2.2.2.2.2.1, (0 : Int), r1.2.2.2.2.2, r1.1, r1.2.1, r1.2.2.1, r1.2.2.2.1, r1.2.2.2.2.1)) else none else none else bif (r2 != (0 : Int)) then some (r1.1, r1.2.1, r1.2.2.1, r1.2.2.2.1, r1.2.2.2.2.1, r1.2.2.2.2.2, r2) else Option.bind (zd (x.1, x.2.1, x.2.2.1, x.2.2.2.1, x.2.2.2.2.1, x.2.2.2.2.2.1, x.2.2.2.2.2.2.1)) fun r14 => if (0 : Int) ≤ r14 then if r14 < (List.length x.2.2.2.2.1 : Int) then wm (fun x19 => if (0 : Int) ≤ x19.2.1 then if x19.2.1 < (List.length x19.2.2.2.2.2.2.2.2.2.2.2.2.2.2.2 : Int) then Option.bind (yP (x19.2.2.2.1, x19.2.2.2.2.1, x19.2.2.2.2.2.1, x19.2.2.2.2.2.2.1, x19.2.2.2.2.2.2.2.1, x19.2.2.2.2.2.2.2.2.1, x19.2.2.2.2.2.2.2.2.2.2.2.1, x19.2.2.2.2.2.2.2.2.2.2.2.2.1, x19.2.2.2.2.2.2.2.2.2.2.2.2.2.1, x19.2.2.2.2.2.2.2.2.2.2.2.2.2.2.1, (List.set x19.2.2.2.2.2.2.2.2.2.2.2.2.2.2.2 (Int.toNat x19.2.1) ((yc x19.2.2.2.2.2.2.2.2.2.2.2.2.2.2.2 x19.2.1).1, (yc x19.2.2.2.2.2.2.2.2.2.2.2.2.2.2.2 x19.2.1).2.1, x19.1, (yc x19.2.2.2.2.2.2.2.2.2.2.2.2.2.2.2 x19.2.1).2.2.2)), x19.2.2.2.2.2.2.2.2.2.2.1, x19.2.2.1)) fun r20 => some r20 else none else none) (fun x21 => if (0 : Int) ≤ x21.2.1 then if x21.2.1 < (List.length x21.2.2.2.2.2.2.2.2.2.2.2.2.2.2.2 : Int) then Option.bind (yP (x21.2.2.2.1, x21.2.2.2.2.1, x21.2.2.2.2.2.1, x21.2.2.2.2.2.2.1, x21.2.2.2.2.2.2.2.1, x21.2.2.2.2.2.2.2.2.1, x21.2.2.2.2.2.2.2.2.2.2.1, x21.2.2.2.2.2.2.2.2.2.2.2.1, x21.2.2.2.2.2.2.2.2.2.2.2.2.1, x21.2.2.2.2.2.2.2.2.2.2.2.2.2.2.1, (List.set x21.2.2.2.2.2.2.2.2.2.2.2.2.2.2.2 (Int.toNat x21.2.1) ((yc x21.2.2.2.2.2.2.2.2.2.2.2.2.2.2.2 x21.2.1).1, (yc x21.2.2.2.2.2.2.2.2.2.2.2.2.2.2.2 x21.2.1).2.1, x21.1, (yc x21.2.2.2.2.2.2.2.2.2.2.2.2.2.2.2 x21.2.1).2.2.2)), x21.2.2.2.2.2.2.2.2.2.2.2.2.2.1, x21.2.2.1)) fun r22 => some r22 else none else none) (Sum.inl (x.2.2.2.2.2.2.2, r14, true, (Go.IntKind.wrap .i64 ((yc x.2.2.2.2.1 r14).2.2.1 - (1 : Int))), x.1, x.2.1, x.2.2.1, x.2.2.2.1, x.2.2.2.2.1, x.2.2.2.2.2.1, (0 : Int), r1.2.2.2.2.2, r1.1, r1.2.1, r1.2.2.1, r1.2.2.2.1, r1.2.2.2.2.1)) else none else none
def ydk : List QF := [ydj, y5x, ygR, yki, ysS, yy5]
def y0T (t : ykI) : St := ⟨dd 2 (vI t.1 :: .box 3 0 :: dd 2 (.box 6 0 :: .dead :: .box 8 0 :: .dead :: vI t.2.1 :: vB t.2.2.1 :: vI t.2.2.2.1 :: dd 49 [])), [(3, .box [z9 t.2.2.2.2.1, yA t.2.2.2.2.2.1, zl t.2.2.2.2.2.2.1, yW t.2.2.2.2.2.2.2.1, Y0 t.2.2.2.2.2.2.2.2.1, vI t.2.2.2.2.2.2.2.2.2.1]), (6, .box [.nils, .nils, .nils, .nils, .nils, vI t.2.2.2.2.2.2.2.2.2.2.1]), (8, .box [.own 10000000, .own 10000001, .own 10000002, .own 10000003, .own 10000004, vI t.2.2.2.2.2.2.2.2.2.2.2.1]), (10000000, .root true 3 yf t.2.2.2.2.2.2.2.2.2.2.2.2.1), (10000001, .root true 99 yj t.2.2.2.2.2.2.2.2.2.2.2.2.2.1), (10000002, .root true 67 yp t.2.2.2.2.2.2.2.2.2.2.2.2.2.2.1), (10000003, .root true 53 ye t.2.2.2.2.2.2.2.2.2.2.2.2.2.2.2.1), (10000004, .root true 41 yO t.2.2.2.2.2.2.2.2.2.2.2.2.2.2.2.2)]⟩
theorem ydl : ∀ s t, unG ywH y0T s = some t → y0T t = s := yw fun t => by kernel_rfl
def y0U (t : ykJ) : St := ⟨dd 2 (vI t.1 :: .box 3 0 :: dd 2 (.box 6 0 :: .dead :: .box 8 0 :: .dead :: vI t.2.1 :: vB t.2.2.1 :: vI t.2.2.2.1 :: dd 49 [])), [(3, .box [z9 t.2.2.2.2.1, yA t.2.2.2.2.2.1, zl t.2.2.2.2.2.2.1, yW t.2.2.2.2.2.2.2.1, Y0 t.2.2.2.2.2.2.2.2.1, vI t.2.2.2.2.2.2.2.2.2.1]), (6, .box [.nils, .nils, .nils, .nils, .nils, vI t.2.2.2.2.2.2.2.2.2.2.1]), (8, .box [z9 t.2.2.2.2.2.2.2.2.2.2.2.1, yA t.2.2.2.2.2.2.2.2.2.2.2.2.1, zl t.2.2.2.2.2.2.2.2.2.2.2.2.2.1, .own 10000000, .own 10000001, vI t.2.2.2.2.2.2.2.2.2.2.2.2.2.2.1]), (10000000, .root true 53 ye t.2.2.2.2.2.2.2.2.2.2.2.2.2.2.2.1), (10000001, .root true 41 yO t.2.2.2.2.2.2.2.2.2.2.2.2.2.2.2.2)]⟩
theorem ydm : ∀ s t, unG ywI y0U s = some t → y0U t = s := yw fun t => by kernel_rfl
def y0V : (ykI ⊕ ykJ) → St := Sum.elim y0T y0U
def y3l (s : St) : Option (ykI ⊕ ykJ) := ((unG ywH y0T s).map Sum.inl).or (((unG ywI y0U) s).map Sum.inr)
theorem ydn : ∀ s t, y3l s = some t → y0V t = s := y95 ydl ydm
def y69 : Gk wl := fun κ => jh (fun t => κ (some 0) ⟨dd 2 (vI t.1 :: .box 3 0 :: dd 2 (.box 6 0 :: .dead :: .box 8 0 :: .dead :: vI t.2.1 :: vB t.2.2.1 :: dd 50 [])), [(3, .box [z9 t.2.2.2.1, yA t.2.2.2.2.1, zl t.2.2.2.2.2.1, yW t.2.2.2.2.2.2.1, Y0 t.2.2.2.2.2.2.2.1, vI t.2.2.2.2.2.2.2.2.1]), (6, .box [.nils, .nils, .nils, .nils, .nils, vI t.2.2.2.2.2.2.2.2.2.1]), (8, .box [.own 10000000, .own 10000001, .own 10000002, .own 10000003, .own 10000004, vI t.2.2.2.2.2.2.2.2.2.2.1]), (10000000, .root true 3 yf t.2.2.2.2.2.2.2.2.2.2.2.1), (10000001, .root true 99 yj t.2.2.2.2.2.2.2.2.2.2.2.2.1), (10000002, .root true 67 yp t.2.2.2.2.2.2.2.2.2.2.2.2.2.1), (10000003, .root true 53 ye t.2.2.2.2.2.2.2.2.2.2.2.2.2.2.1), (10000004, .root true 41 yO t.2.2.2.2.2.2.2.2.2.2.2.2.2.2.2)]⟩) (fun t => κ (some 0) ⟨dd 2 (vI t.1 :: .box 3 0 :: dd 2 (.box 6 0 :: .dead :: .box 8 0 :: .dead :: vI t.2.1 :: vB t.2.2.1 :: dd 50 [])), [(3, .box [z9 t.2.2.2.1, yA t.2.2.2.2.1, zl t.2.2.2.2.2.1, yW t.2.2.2.2.2.2.1, Y0 t.2.2.2.2.2.2.2.1, vI t.2.2.2.2.2.2.2.2.1]), (6, .box [.nils, .nils, .nils, .nils, .nils, vI t.2.2.2.2.2.2.2.2.2.1]), (8, .box [z9 t.2.2.2.2.2.2.2.2.2.2.1, yA t.2.2.2.2.2.2.2.2.2.2.2.1, zl t.2.2.2.2.2.2.2.2.2.2.2.2.1, .own 10000000, .own 10000001, vI t.2.2.2.2.2.2.2.2.2.2.2.2.2.1]), (10000000, .root true 53 ye t.2.2.2.2.2.2.2.2.2.2.2.2.2.2.1), (10000001, .root true 41 yO t.2.2.2.2.2.2.2.2.2.2.2.2.2.2.2)]⟩)
def ydo : Lp := lpC 10 y3l @y69 lpN
theorem ydp : LF ydk ydo 115 10 Tryz.f115 0 y0V @y69 fun v : ykI => .inl v := fun R κ again v => by kernel_rfl
theorem ydq : LF ydk ydo 115 10 Tryz.f115 0 y0V @y69 fun v : ykJ => .inr v := fun R κ again v => by kernel_rfl
theorem yj0 : LF ydk ydo 115 10 Tryz.f115 0 y0V @y69 fun t => t := (LC.sum ydp ydq)
theorem yj1 : LK ydk ydo 115 Tryz.f115 0 := lkN (u := y3l) ydn yj0
theorem yti : EV ydk ydo 115 Tryz.f115 yn5 ykg y7M Jz := fun x => by kernel_rfl
def yzc : QF := ⟨115, Jz, okN (n := 1) Tryz.func115 ⟨yj1, trivial⟩ yti⟩
def KS (x : yqC) : Option yce :=
 Option.bind (Jy (x.2.2.1, x.2.2.2.2)) fun r1 => Option.bind (ZS (x.1, x.2.1, x.2.2.2.1, r1)) fun r2 => some r2
theorem ytj : EV [yy2, yy3] lpN 210 Tryz.f210 yn6 yqD ycf KS := fun x => by kernel_rfl
def yzd : QF := ⟨210, KS, okN (n := 0) Tryz.func210 trivial ytj⟩
def KT (x : yyw) : Option Bool :=
 Option.bind (KS (x.1, x.2.1, x.2.2.1, x.2.2.2.1, x.2.2.2.2.2.2.2.2)) fun r1 => Option.bind (bif r1.2.2.2.2.2 then some (r1.2.1 == x.2.2.2.2.1) else some false) fun u2 => some u2
theorem ytk : EV [yzd] lpN 209 Tryz.f209 yn7 yyx [.bool] KT := fun x => by kernel_rfl
def yze : QF := ⟨209, KT, okN (n := 0) Tryz.func209 trivial ytk⟩
abbrev Wg : Type := ywJ
def YZ (k0 : Bool → Option R) (k1 : Unit → Option R) (again : Wg → Option R) (t2 : Wg) : Option R :=
 bif (decide (t2.1 < (List.length t2.2.2.2.2.2.1 : Int))) then if (0 : Int) ≤ t2.1 then if t2.1 < (List.length t2.2.2.2.2.2.1 : Int) then Option.bind (bif (decide ((yc t2.2.2.2.2.2.1 t2.1).2.2.1 > t2.2.2.2.2.2.2.2.1)) then if (0 : Int) ≤ t2.1 then if t2.1 < (List.length t2.2.2.2.2.2.1 : Int) then Option.bind (KT (t2.2.1, t2.2.2.1, t2.2.2.2.1, t2.2.2.2.2.2.2.2.1, t2.2.2.2.2.2.2.2.2.1, t2.2.2.2.2.2.2.2.2.2.1, t2.2.2.2.2.2.2.2.2.2.2.1, t2.2.2.2.2.2.2.2.2.2.2.2, (yc t2.2.2.2.2.2.1 t2.1).2.1)) fun r2 => some r2 else none else none else some false) fun u1 => bif u1 then k0 true else again ((Go.IntKind.wrap .i64 (t2.1 + (1 : Int))), t2.2.1, t2.2.2.1, t2.2.2.2.1, t2.2.2.2.2.1, t2.2.2.2.2.2.1, t2.2.2.2.2.2.2.1, t2.2.2.2.2.2.2.2.1, t2.2.2.2.2.2.2.2.2.1, t2.2.2.2.2.2.2.2.2.2.1, t2.2.2.2.2.2.2.2.2.2.2.1, t2.2.2.2.2.2.2.2.2.2.2.2) else none else none else k1 ()
def vE k0 k1 := zL (@YZ R k0 k1) Y3
def ji (x : ykG) : Option Bool :=
 vE (fun x3 => some x3) (fun x4 => some false) ((0 : Int), x.1, x.2.1, x.2.2.1, x.2.2.2.1, x.2.2.2.2.1, x.2.2.2.2.2.1, x.2.2.2.2.2.2.1, x.2.2.2.2.2.2.2.1, x.2.2.2.2.2.2.2.2.1, x.2.2.2.2.2.2.2.2.2.1, x.2.2.2.2.2.2.2.2.2.2)
def yj2 : List QF := [yze]
def y6a (t : ywJ) : St := ⟨dd 2 (.box 2 0 :: .box 3 0 :: .dead :: vI t.1 :: dd 30 []), [(2, .box [z9 t.2.1, yA t.2.2.1, zl t.2.2.2.1, yW t.2.2.2.2.1, Y0 t.2.2.2.2.2.1, vI t.2.2.2.2.2.2.1]), (3, .box [vI t.2.2.2.2.2.2.2.1, vI t.2.2.2.2.2.2.2.2.1, vI t.2.2.2.2.2.2.2.2.2.1, vI t.2.2.2.2.2.2.2.2.2.2.1, vI t.2.2.2.2.2.2.2.2.2.2.2])]⟩
def yh4 : Gk Wg := fun κ => YZ (fun t => κ none ⟨dd 4 (vB t :: dd 31 []), []⟩) (fun t => κ (some 0) ⟨dd 36 [], []⟩)
def yj3 : Lp := lpC 2 (unG ywK y6a) @yh4 lpN
theorem yoV : LF yj2 yj3 206 2 Tryz.f206 0 y6a @yh4 fun t => t := fun R κ again t => by kernel_rfl
theorem yoW : LK yj2 yj3 206 Tryz.f206 0 := lkN (u := (unG ywK y6a)) (yw fun t => by kernel_rfl) yoV
theorem ytl : EV yj2 yj3 206 Tryz.f206 yn8 ykH [.bool] ji := fun x => by kernel_rfl
def yzf : QF := ⟨206, ji, okN (n := 1) Tryz.func206 ⟨yoW, trivial⟩ ytl⟩
abbrev VM : Type := yrg
def Wh (k0 : Bool → Option R) (k1 : Unit → Option R) (again : VM → Option R) (t2 : VM) : Option R :=
 bif (decide (t2.2.1 < (List.length t2.2.2.2.2.2.2.1 : Int))) then if (0 : Int) ≤ t2.2.1 then if t2.2.1 < (List.length t2.2.2.2.2.2.2.1 : Int) then bif ((yc t2.2.2.2.2.2.2.1 t2.2.1).2.1 == t2.1) then k0 false else again (t2.1, (Go.IntKind.wrap .i64 (t2.2.1 + (1 : Int))), t2.2.2.1, t2.2.2.2.1, t2.2.2.2.2.1, t2.2.2.2.2.2.1, t2.2.2.2.2.2.2.1, t2.2.2.2.2.2.2.2) else none else none else k1 ()
def y0W k0 k1 := zL (@Wh R k0 k1) Y3
def k7 (x : y7L) : Option Bool :=
 y0W (fun x1 => some x1) (fun x2 => some true) (x.2.2.2.2.2.2, (0 : Int), x.1, x.2.1, x.2.2.1, x.2.2.2.1, x.2.2.2.2.1, x.2.2.2.2.2.1)
def yj4 : List QF := []
def y6b (t : yrg) : St := ⟨.dead :: vI t.1 :: .box 2 0 :: dd 2 (vI t.2.1 :: dd 15 []), [(2, .box [z9 t.2.2.1, yA t.2.2.2.1, zl t.2.2.2.2.1, yW t.2.2.2.2.2.1, Y0 t.2.2.2.2.2.2.1, vI t.2.2.2.2.2.2.2])]⟩
def yh5 : Gk VM := fun κ => Wh (fun t => κ none ⟨dd 4 (vB t :: dd 16 []), []⟩) (fun t => κ (some 0) ⟨dd 21 [], []⟩)
def yj5 : Lp := lpC 2 (unG ywL y6b) @yh5 lpN
theorem yoX : LF yj4 yj5 194 2 Tryz.f194 0 y6b @yh5 fun t => t := fun R κ again t => by kernel_rfl
theorem yoY : LK yj4 yj5 194 Tryz.f194 0 := lkN (u := (unG ywL y6b)) (yw fun t => by kernel_rfl) yoX
theorem ytm : EV yj4 yj5 194 Tryz.f194 yn9 y7M [.bool] k7 := fun x => by kernel_rfl
def yy6 : QF := ⟨194, k7, okN (n := 1) Tryz.func194 ⟨yoY, trivial⟩ ytm⟩
def Z0 (x : y7L) : Option Int :=
 Option.bind (ZP (x.2.2.1, x.2.2.2.2.2.2)) fun r1 => Option.bind (k7 x) fun r2 => Option.bind (bif (!r2) then some true else some ((List.length r1 : Int) != (1 : Int))) fun u3 => bif u3 then some (0 : Int) else if (0 : Int) ≤ (0 : Int) then if (0 : Int) < (List.length r1 : Int) then some (zt r1 (0 : Int)) else none else none
theorem ytn : EV [ysv, yy6] lpN 172 Tryz.f172 yna y7M [(.int .i64)] Z0 := fun x => by kernel_rfl
def yy7 : QF := ⟨172, Z0, okN (n := 0) Tryz.func172 trivial ytn⟩
def kF (x : ykG) : Option Bool :=
 Option.bind (Z0 (x.1, x.2.1, x.2.2.1, x.2.2.2.1, x.2.2.2.2.1, x.2.2.2.2.2.1, x.2.2.2.2.2.2.2.1)) fun r1 => bif (r1 == (0 : Int)) then some false else Option.bind (ZR (x.1, x.2.1, x.2.2.2.2.2.2.1, r1)) fun r2 => some (!r2.2.2.2.2.2)
theorem yto : EV [ysY, yy7] lpN 207 Tryz.f207 ynb ykH [.bool] kF := fun x => by kernel_rfl
def yzg : QF := ⟨207, kF, okN (n := 0) Tryz.func207 trivial yto⟩
def Wi (x : yyy) : Option Bool :=
 bif (x.2.2.2.2.2.2.1 == (1 : Int)) then Option.bind (ji (x.1, x.2.1, x.2.2.1, x.2.2.2.1, x.2.2.2.2.1, x.2.2.2.2.2.1, x.2.2.2.2.2.2.2)) fun r1 => some (!r1) else bif (x.2.2.2.2.2.2.1 == (2 : Int)) then Option.bind (YP (x.1, x.2.1, x.2.2.1, x.2.2.2.2.2.2.2.1, x.2.2.2.2.2.2.2.2.1)) fun r2 => Option.bind (bif (x.2.2.2.2.2.2.2.2.2.1 == (2 : Int)) then some (!r2.2.2.2.2.2) else some false) fun u3 => some u3 else Option.bind (kF (x.1, x.2.1, x.2.2.1, x.2.2.2.1, x.2.2.2.2.1, x.2.2.2.2.2.1, x.2.2.2.2.2.2.2)) fun r4 => some r4
theorem ytp : EV [yy4, yzf, yzg] lpN 192 Tryz.f192 ync yyz [.bool] Wi := fun x => by kernel_rfl
def yzh : QF := ⟨192, Wi, okN (n := 0) Tryz.func192 trivial ytp⟩
abbrev KU : Type := yhO
def jV (k0 : yyA → Option R) (k1 : yef → Option R) (again : KU → Option R) (t3 : KU) : Option R :=
 bif (decide (t3.2.1 < (List.length t3.2.2.2.2.2.2.2.2 : Int))) then if (0 : Int) ≤ t3.2.1 then if t3.2.1 < (List.length t3.2.2.2.2.2.2.2.2 : Int) then bif ((y6 t3.2.2.2.2.2.2.2.2 t3.2.1).2.1 == t3.1) then k0 (t3.1, false, t3.2.2.1, t3.2.2.2.1, t3.2.2.2.2.1, t3.2.2.2.2.2.1, t3.2.2.2.2.2.2.1, t3.2.2.2.2.2.2.2.1) else again (t3.1, (Go.IntKind.wrap .i64 (t3.2.1 + (1 : Int))), t3.2.2.1, t3.2.2.2.1, t3.2.2.2.2.1, t3.2.2.2.2.2.1, t3.2.2.2.2.2.2.1, t3.2.2.2.2.2.2.2.1, t3.2.2.2.2.2.2.2.2) else none else none else k1 (t3.1, t3.2.2.1, t3.2.2.2.1, t3.2.2.2.2.1, t3.2.2.2.2.2.1, t3.2.2.2.2.2.2.1, t3.2.2.2.2.2.2.2.1)
def qV k0 k1 := zL (@jV R k0 k1) Y3
def Wj (x : y7L) : Option Bool :=
 Option.bind (yI (x.1, x.2.1)) fun r1 => qV (fun x2 => some x2.2.1) (fun x3 => Option.bind (k7 (x3.2.1, x3.2.2.1, x3.2.2.2.1, x3.2.2.2.2.1, x3.2.2.2.2.2.1, x3.2.2.2.2.2.2, x3.1)) fun r4 => Option.bind (bif r4 then Option.bind (ZP (x3.2.2.2.1, x3.1)) fun r6 => some (decide ((List.length r6 : Int) ≤ (1 : Int))) else some false) fun u5 => some u5) (x.2.2.2.2.2.2, (0 : Int), x.1, x.2.1, x.2.2.1, x.2.2.2.1, x.2.2.2.2.1, x.2.2.2.2.2.1, r1)
def yj6 : List QF := [yii, ysv, yy6]
def y6c (t : yhO) : St := ⟨.dead :: vI t.1 :: .box 2 0 :: dd 2 (.own 10000000 :: vI t.2.1 :: dd 27 []), [(2, .box [z9 t.2.2.1, yA t.2.2.2.1, zl t.2.2.2.2.1, yW t.2.2.2.2.2.1, Y0 t.2.2.2.2.2.2.1, vI t.2.2.2.2.2.2.2.1]), (10000000, .root true 63 yg t.2.2.2.2.2.2.2.2)]⟩
def yh6 : Gk KU := fun κ => jV (fun t => κ none ⟨.dead :: vI t.1 :: .box 2 0 :: .dead :: vB t.2.1 :: dd 29 [], [(2, .box [z9 t.2.2.1, yA t.2.2.2.1, zl t.2.2.2.2.1, yW t.2.2.2.2.2.1, Y0 t.2.2.2.2.2.2.1, vI t.2.2.2.2.2.2.2])]⟩) (fun t => κ (some 0) ⟨.dead :: vI t.1 :: .box 2 0 :: dd 31 [], [(2, .box [z9 t.2.1, yA t.2.2.1, zl t.2.2.2.1, yW t.2.2.2.2.1, Y0 t.2.2.2.2.2.1, vI t.2.2.2.2.2.2])]⟩)
def yj7 : Lp := lpC 3 (unG yke y6c) @yh6 lpN
theorem yoZ : LF yj6 yj7 193 3 Tryz.f193 0 y6c @yh6 fun t => t := fun R κ again t => by kernel_rfl
theorem yp0 : LK yj6 yj7 193 Tryz.f193 0 := lkN (u := (unG yke y6c)) (yw fun t => by kernel_rfl) yoZ
theorem ytq : EV yj6 yj7 193 Tryz.f193 ynd y7M [.bool] Wj := fun x => by kernel_rfl
def yzi : QF := ⟨193, Wj, okN (n := 1) Tryz.func193 ⟨yp0, trivial⟩ ytq⟩
abbrev k8 : Type := yhO
def Zr (k0 : yr6 → Option R) (k1 : yhS → Option R) (again : k8 → Option R) (t8 : k8) : Option R :=
 bif (decide (t8.2.1 < (List.length t8.2.2.2.2.2.2.2.2 : Int))) then if (0 : Int) ≤ t8.2.1 then if t8.2.1 < (List.length t8.2.2.2.2.2.2.2.2 : Int) then Option.bind (Wi (t8.2.2.1, t8.2.2.2.1, t8.2.2.2.2.1, t8.2.2.2.2.2.1, t8.2.2.2.2.2.2.1, t8.2.2.2.2.2.2.2.1, t8.1, (y6 t8.2.2.2.2.2.2.2.2 t8.2.1).1, (y6 t8.2.2.2.2.2.2.2.2 t8.2.1).2.1, (y6 t8.2.2.2.2.2.2.2.2 t8.2.1).2.2.1, (y6 t8.2.2.2.2.2.2.2.2 t8.2.1).2.2.2.1, (y6 t8.2.2.2.2.2.2.2.2 t8.2.1).2.2.2.2)) fun r3 => bif r3 then k0 (t8.1, t8.2.1, t8.1, t8.2.2) else again (t8.1, (Go.IntKind.wrap .i64 (t8.2.1 + (1 : Int))), t8.2.2.1, t8.2.2.2.1, t8.2.2.2.2.1, t8.2.2.2.2.2.1, t8.2.2.2.2.2.2.1, t8.2.2.2.2.2.2.2.1, t8.2.2.2.2.2.2.2.2) else none else none else k1 (t8.1, t8.2.2)
def Vh k0 k1 := zL (@Zr R k0 k1) Y3
abbrev k9 : Type := yhS
def Zs (k0 : yrg → Option R) (k1 : Qz9 → Option R) (again : k9 → Option R) (t5 : k9) : Option R :=
 bif (decide (t5.1 ≤ (3 : Int))) then Vh (fun x4 => k0 (x4.1, x4.2.1, x4.2.2.2.1, x4.2.2.2.2.1, x4.2.2.2.2.2.1, x4.2.2.2.2.2.2.1, x4.2.2.2.2.2.2.2.1, x4.2.2.2.2.2.2.2.2.1)) (fun x5 => again ((Go.IntKind.wrap .i64 (x5.1 + (1 : Int))), x5.2.1, x5.2.2.1, x5.2.2.2.1, x5.2.2.2.2.1, x5.2.2.2.2.2.1, x5.2.2.2.2.2.2.1, x5.2.2.2.2.2.2.2)) (t5.1, (0 : Int), t5.2.1, t5.2.2.1, t5.2.2.2.1, t5.2.2.2.2.1, t5.2.2.2.2.2.1, t5.2.2.2.2.2.2.1, t5.2.2.2.2.2.2.2) else k1 (t5.2.1, t5.2.2.1, t5.2.2.2.1, t5.2.2.2.2.1, t5.2.2.2.2.2.1, t5.2.2.2.2.2.2.1)
def Vi k0 k1 := zL (@Zs R k0 k1) Y3
abbrev Wk : Type := yef
def Z1 (k0 : ygt → Option R) (k1 : Unit → Option R) (again : Wk → Option R) (t13 : Wk) : Option R :=
 bif (decide (t13.1 < (List.length t13.2.2.2.1 : Int))) then if (0 : Int) ≤ t13.1 then if t13.1 < (List.length t13.2.2.2.1 : Int) then Option.bind (Wj (t13.2.1, t13.2.2.1, t13.2.2.2.1, t13.2.2.2.2.1, t13.2.2.2.2.2.1, t13.2.2.2.2.2.2, (yK t13.2.2.2.1 t13.1).1)) fun r8 => bif r8 then k0 ((4 : Int), t13.1) else again ((Go.IntKind.wrap .i64 (t13.1 + (1 : Int))), t13.2.1, t13.2.2.1, t13.2.2.2.1, t13.2.2.2.2.1, t13.2.2.2.2.2.1, t13.2.2.2.2.2.2) else none else none else k1 ()
def vF k0 k1 := zL (@Z1 R k0 k1) Y3
def jW (x : Qz9) : Option ygt :=
 Option.bind (yG x) fun r1 => bif (!r1) then some ((0 : Int), (0 : Int)) else Option.bind (yI (x.1, x.2.1)) fun r2 => Vi (fun x6 => some (x6.1, x6.2.1)) (fun x7 => vF (fun x9 => some x9) (fun x10 => some ((0 : Int), (0 : Int))) ((0 : Int), x7.1, x7.2.1, x7.2.2.1, x7.2.2.2.1, x7.2.2.2.2.1, x7.2.2.2.2.2)) ((1 : Int), x.1, x.2.1, x.2.2.1, x.2.2.2.1, x.2.2.2.2.1, x.2.2.2.2.2, r2)
def y98 : List QF := [yiz, yii, yzh, yzi]
def y6d (t : yhO) : St := ⟨.dead :: .box 1 0 :: dd 2 (.own 10000000 :: vI t.1 :: vI t.2.1 :: dd 42 []), [(1, .box [z9 t.2.2.1, yA t.2.2.2.1, zl t.2.2.2.2.1, yW t.2.2.2.2.2.1, Y0 t.2.2.2.2.2.2.1, vI t.2.2.2.2.2.2.2.1]), (10000000, .root true 63 yg t.2.2.2.2.2.2.2.2)]⟩
def yh7 : Gk k8 := fun κ => Zr (fun t => κ none ⟨.dead :: .box 1 0 :: vI t.1 :: vI t.2.1 :: .own 10000000 :: vI t.2.2.1 :: dd 43 [], [(1, .box [z9 t.2.2.2.1, yA t.2.2.2.2.1, zl t.2.2.2.2.2.1, yW t.2.2.2.2.2.2.1, Y0 t.2.2.2.2.2.2.2.1, vI t.2.2.2.2.2.2.2.2.1]), (10000000, .root true 63 yg t.2.2.2.2.2.2.2.2.2)]⟩) (fun t => κ (some 2) ⟨.dead :: .box 1 0 :: dd 2 (.own 10000000 :: vI t.1 :: dd 43 []), [(1, .box [z9 t.2.1, yA t.2.2.1, zl t.2.2.2.1, yW t.2.2.2.2.1, Y0 t.2.2.2.2.2.1, vI t.2.2.2.2.2.2.1]), (10000000, .root true 63 yg t.2.2.2.2.2.2.2)]⟩)
def y6e (t : yhS) : St := ⟨.dead :: .box 1 0 :: dd 2 (.own 10000000 :: vI t.1 :: dd 43 []), [(1, .box [z9 t.2.1, yA t.2.2.1, zl t.2.2.2.1, yW t.2.2.2.2.1, Y0 t.2.2.2.2.2.1, vI t.2.2.2.2.2.2.1]), (10000000, .root true 63 yg t.2.2.2.2.2.2.2)]⟩
def yh8 : Gk k9 := fun κ => Zs (fun t => κ none ⟨.dead :: .box 1 0 :: vI t.1 :: vI t.2.1 :: dd 45 [], [(1, .box [z9 t.2.2.1, yA t.2.2.2.1, zl t.2.2.2.2.1, yW t.2.2.2.2.2.1, Y0 t.2.2.2.2.2.2.1, vI t.2.2.2.2.2.2.2])]⟩) (fun t => κ (some 0) ⟨.dead :: .box 1 0 :: dd 47 [], [(1, .box [z9 t.1, yA t.2.1, zl t.2.2.1, yW t.2.2.2.1, Y0 t.2.2.2.2.1, vI t.2.2.2.2.2])]⟩)
def y3m (t : yef) : St := ⟨.dead :: .box 1 0 :: dd 5 (vI t.1 :: dd 41 []), [(1, .box [z9 t.2.1, yA t.2.2.1, zl t.2.2.2.1, yW t.2.2.2.2.1, Y0 t.2.2.2.2.2.1, vI t.2.2.2.2.2.2])]⟩
def ydr : Gk Wk := fun κ => Z1 (fun t => κ none ⟨dd 2 (vI t.1 :: vI t.2 :: dd 45 []), []⟩) (fun t => κ (some 4) ⟨dd 49 [], []⟩)
def y99 : Lp := lpC 13 (unG ykb y3m) @ydr (lpC 5 (unG ykK y6e) @yh8 (lpC 8 (unG yke y6d) @yh7 lpN))
theorem yp1 : LF y98 y99 170 8 Tryz.f170 1 y6d @yh7 fun t => t := fun R κ again t => by kernel_rfl
theorem yp2 : LK y98 y99 170 Tryz.f170 1 := lkN (u := (unG yke y6d)) (yw fun t => by kernel_rfl) yp1
theorem yp3 : LF y98 y99 170 5 Tryz.f170 0 y6e @yh8 fun t => t := fun R κ again t => by kernel_rfl
theorem yp4 : LK y98 y99 170 Tryz.f170 0 := lkN (u := (unG ykK y6e)) (yw fun t => by kernel_rfl) yp3
theorem yj8 : LF y98 y99 170 13 Tryz.f170 2 y3m @ydr fun t => t := fun R κ again t => by kernel_rfl
theorem yj9 : LK y98 y99 170 Tryz.f170 2 := lkN (u := (unG ykb y3m)) (yw fun t => by kernel_rfl) yj8
theorem ytr : EV y98 y99 170 Tryz.f170 yne qz9 yhN jW := fun x => by kernel_rfl
def yzj : QF := ⟨170, jW, okN (n := 3) Tryz.func170 ⟨yp4, yp2, yj9, trivial⟩ ytr⟩
def Zg (x : ykG) : Option yf0 :=
 Option.bind (zA (x.1, x.2.1, x.2.2.1, x.2.2.2.1, x.2.2.2.2.1, x.2.2.2.2.2.1, x.2.2.2.2.2.2.1, x.2.2.2.2.2.2.2.1, (0 : Int), (0 : Int), (0 : Int))) fun r1 => some r1
theorem yts : EV [yt9] lpN 171 Tryz.f171 ynf ykH ykC Zg := fun x => by kernel_rfl
def yzk : QF := ⟨171, Zg, okN (n := 0) Tryz.func171 trivial yts⟩
abbrev KV : Type := ykL
def Wl (k0 : List ya → Option R) (again : KV → Option R) (t6 : KV) : Option R :=
 bif (decide (t6.2.2.2.1 < (List.length t6.1 : Int))) then if (0 : Int) ≤ t6.2.2.2.1 then if t6.2.2.2.1 < (List.length t6.1 : Int) then bif ((yK t6.1 t6.2.2.2.1).2 == t6.2.1) then if (0 : Int) ≤ t6.2.2.1 then if t6.2.2.1 < (List.length t6.1 : Int) then bif (t6.2.2.2.1 != t6.2.2.1) then if (List.length t6.2.2.2.2 + List.length ([((yK t6.1 t6.2.2.2.1).1, (yK t6.1 t6.2.2.1).2)] : List ya)) * 16 < 140737488355328 then again (t6.1, t6.2.1, t6.2.2.1, (Go.IntKind.wrap .i64 (t6.2.2.2.1 + (1 : Int))), (t6.2.2.2.2 ++ ([((yK t6.1 t6.2.2.2.1).1, (yK t6.1 t6.2.2.1).2)] : List ya))) else none else again (t6.1, t6.2.1, t6.2.2.1, (Go.IntKind.wrap .i64 (t6.2.2.2.1 + (1 : Int))), t6.2.2.2.2) else none else none else bif (t6.2.2.2.1 != t6.2.2.1) then if (List.length t6.2.2.2.2 + List.length ([((yK t6.1 t6.2.2.2.1).1, (yK t6.1 t6.2.2.2.1).2)] : List ya)) * 16 < 140737488355328 then again (t6.1, t6.2.1, t6.2.2.1, (Go.IntKind.wrap .i64 (t6.2.2.2.1 + (1 : Int))), (t6.2.2.2.2 ++ ([((yK t6.1 t6.2.2.2.1).1, (yK t6.1 t6.2.2.2.1).2)] : List ya))) else none else again (t6.1, t6.2.1, t6.2.2.1, (Go.IntKind.wrap .i64 (t6.2.2.2.1 + (1 : Int))), t6.2.2.2.2) else none else none else k0 t6.2.2.2.2
def qW k0 := zL (@Wl R k0) Y3
def JA (x : yed) : Option yqt :=
 Option.bind (zF x) fun r1 => Option.bind (bif (decide (r1 < (0 : Int))) then some true else Option.bind (YV x.1) fun r3 => some (!r3)) fun u2 => bif u2 then if (List.length ([] : List ya) + List.length x.1) * 16 < 140737488355328 then some ((([] : List ya) ++ x.1), false) else none else qW (fun x4 => some (x4, true)) (x.1, x.2, r1, (0 : Int), ([] : List ya))
def yja : List QF := [ysr, ykh]
def y6f (t : ykL) : St := ⟨zl t.1 :: vI t.2.1 :: dd 4 (vI t.2.2.1 :: .own 10000000 :: vI t.2.2.2.1 :: dd 43 []), [(10000000, .root true 67 yp t.2.2.2.2)]⟩
def yh9 : Gk KV := fun κ => Wl (fun t => κ (some 0) ⟨dd 7 (.own 10000000 :: dd 44 []), [(10000000, .root true 67 yp t)]⟩)
def yjb : Lp := lpC 6 (unG ykM y6f) @yh9 lpN
theorem yp5 : LF yja yjb 173 6 Tryz.f173 0 y6f @yh9 fun t => t := fun R κ again t => by kernel_rfl
theorem yp6 : LK yja yjb 173 Tryz.f173 0 := lkN (u := (unG ykM y6f)) (yw fun t => by kernel_rfl) yp5
theorem ytt : EV yja yjb 173 Tryz.f173 yng yee yvX JA := fun x => by kernel_rfl
def yzl : QF := ⟨173, JA, okN (n := 1) Tryz.func173 ⟨yp6, trivial⟩ ytt⟩
def zY (x : Qz9) : Option yf1 :=
 Option.bind (yk x) fun r1 => Option.bind (jW x) fun r2 => Option.bind (yI (x.1, x.2.1)) fun r3 => bif (r2.1 == (1 : Int)) then bif (r2.1 == (1 : Int)) then if (0 : Int) ≤ r2.2 then if r2.2 < (List.length r3 : Int) then Option.bind (Zg (r1.1, r1.2.1, r1.2.2.1, r1.2.2.2.1, r1.2.2.2.2.1, r1.2.2.2.2.2, (y6 r3 r2.2).1, (y6 r3 r2.2).2.1, (y6 r3 r2.2).2.2.1, (y6 r3 r2.2).2.2.2.1, (y6 r3 r2.2).2.2.2.2)) fun r4 => Option.bind (bif (!r4.1) then some true else Option.bind (yG r4.2) fun r6 => some (!r6)) fun u5 => bif u5 then Option.bind (yk x) fun r7 => some (r7.1, r7.2.1, r7.2.2.1, r7.2.2.2.1, r7.2.2.2.2.1, r7.2.2.2.2.2, false) else some (r4.2.1, r4.2.2.1, r4.2.2.2.1, r4.2.2.2.2.1, r4.2.2.2.2.2.1, r4.2.2.2.2.2.2, true) else none else none else bif (r2.1 == (3 : Int)) then if (0 : Int) ≤ r2.2 then if r2.2 < (List.length r3 : Int) then Option.bind (zP (r1.1, r1.2.1, (y6 r3 r2.2).1, (y6 r3 r2.2).2.1, (0 : Int), (0 : Int), (0 : Int))) fun r8 => Option.bind (Z0 (x.1, x.2.1, x.2.2.1, x.2.2.2.1, x.2.2.2.2.1, x.2.2.2.2.2, (y6 r3 r2.2).2.1)) fun r9 => Option.bind (zP (r8.1, r8.2.1, (y6 r3 r2.2).1, r9, (y6 r3 r2.2).2.2.1, (y6 r3 r2.2).2.2.2.1, (y6 r3 r2.2).2.2.2.2)) fun r10 => Option.bind (bif r8.2.2 then some r10.2.2 else some false) fun u11 => Option.bind (bif (!u11) then some true else Option.bind (yG (r10.1, r10.2.1, r1.2.2)) fun r13 => some (!r13)) fun u12 => bif u12 then Option.bind (yk x) fun r14 => some (r14.1, r14.2.1, r14.2.2.1, r14.2.2.2.1, r14.2.2.2.2.1, r14.2.2.2.2.2, false) else some (r10.1, r10.2.1, r1.2.2.1, r1.2.2.2.1, r1.2.2.2.2.1, r1.2.2.2.2.2, true) else none else none else bif (r2.1 == (4 : Int)) then if (0 : Int) ≤ r2.2 then if r2.2 < (List.length x.2.2.1 : Int) then Option.bind (JA (x.2.2.1, (yK x.2.2.1 r2.2).1)) fun r15 => Option.bind (bif (!r15.2) then some true else Option.bind (yG (r1.1, r1.2.1, r15.1, r1.2.2.2)) fun r17 => some (!r17)) fun u16 => bif u16 then Option.bind (yk x) fun r18 => some (r18.1, r18.2.1, r18.2.2.1, r18.2.2.2.1, r18.2.2.2.2.1, r18.2.2.2.2.2, false) else some (r1.1, r1.2.1, r15.1, r1.2.2.2.1, r1.2.2.2.2.1, r1.2.2.2.2.2, true) else none else none else Option.bind (bif (!(r2.1 != (0 : Int))) then some true else Option.bind (yG r1) fun r20 => some (!r20)) fun u19 => bif u19 then Option.bind (yk x) fun r21 => some (r21.1, r21.2.1, r21.2.2.1, r21.2.2.2.1, r21.2.2.2.2.1, r21.2.2.2.2.2, false) else some (r1.1, r1.2.1, r1.2.2.1, r1.2.2.2.1, r1.2.2.2.2.1, r1.2.2.2.2.2, true) else bif (r2.1 == (2 : Int)) then if (0 : Int) ≤ r2.2 then if r2.2 < (List.length r3 : Int) then Option.bind (Zg (r1.1, r1.2.1, r1.2.2.1, r1.2.2.2.1, r1.2.2.2.2.1, r1.2.2.2.2.2, (y6 r3 r2.2).1, (y6 r3 r2.2).2.1, (y6 r3 r2.2).2.2.1, (y6 r3 r2.2).2.2.2.1, (y6 r3 r2.2).2.2.2.2)) fun r22 => Option.bind (bif (!r22.1) then some true else Option.bind (yG r22.2) fun r24 => some (!r24)) fun u23 => bif u23 then Option.bind (yk x) fun r25 => some (r25.1, r25.2.1, r25.2.2.1, r25.2.2.2.1, r25.2.2.2.2.1, r25.2.2.2.2.2, false) else some (r22.2.1, r22.2.2.1, r22.2.2.2.1, r22.2.2.2.2.1, r22.2.2.2.2.2.1, r22.2.2.2.2.2.2, true) else none else none else bif (r2.1 == (3 : Int)) then if (0 : Int) ≤ r2.2 then if r2.2 < (List.length r3 : Int) then Option.bind (zP (r1.1, r1.2.1, (y6 r3 r2.2).1, (y6 r3 r2.2).2.1, (0 : Int), (0 : Int), (0 : Int))) fun r26 => Option.bind (Z0 (x.1, x.2.1, x.2.2.1, x.2.2.2.1, x.2.2.2.2.1, x.2.2.2.2.2, (y6 r3 r2.2).2.1)) fun r27 => Option.bind (zP (r26.1, r26.2.1, (y6 r3 r2.2).1, r27, (y6 r3 r2.2).2.2.1, (y6 r3 r2.2).2.2.2.1, (y6 r3 r2.2).2.2.2.2)) fun r28 => Option.bind (bif r26.2.2 then some r28.2.2 else some false) fun u29 => Option.bind (bif (!u29) then some true else Option.bind (yG (r28.1, r28.2.1, r1.2.2)) fun r31 => some (!r31)) fun u30 => bif u30 then Option.bind (yk x) fun r32 => some (r32.1, r32.2.1, r32.2.2.1, r32.2.2.2.1, r32.2.2.2.2.1, r32.2.2.2.2.2, false) else some (r28.1, r28.2.1, r1.2.2.1, r1.2.2.2.1, r1.2.2.2.2.1, r1.2.2.2.2.2, true) else none else none else bif (r2.1 == (4 : Int)) then if (0 : Int) ≤ r2.2 then if r2.2 < (List.length x.2.2.1 : Int) then Option.bind (JA (x.2.2.1, (yK x.2.2.1 r2.2).1)) fun r33 => Option.bind (bif (!r33.2) then some true else Option.bind (yG (r1.1, r1.2.1, r33.1, r1.2.2.2)) fun r35 => some (!r35)) fun u34 => bif u34 then Option.bind (yk x) fun r36 => some (r36.1, r36.2.1, r36.2.2.1, r36.2.2.2.1, r36.2.2.2.2.1, r36.2.2.2.2.2, false) else some (r1.1, r1.2.1, r33.1, r1.2.2.2.1, r1.2.2.2.2.1, r1.2.2.2.2.2, true) else none else none else Option.bind (bif (!(r2.1 != (0 : Int))) then some true else Option.bind (yG r1) fun r38 => some (!r38)) fun u37 => bif u37 then Option.bind (yk x) fun r39 => some (r39.1, r39.2.1, r39.2.2.1, r39.2.2.2.1, r39.2.2.2.2.1, r39.2.2.2.2.2, false) else some (r1.1, r1.2.1, r1.2.2.1, r1.2.2.2.1, r1.2.2.2.2.1, r1.2.2.2.2.2, true)
theorem ytu : EV [yiz, ydj, yii, yt5, yzj, yzk, yy7, yzl] lpN 152 Tryz.f152 ynh qz9 yf2 zY := fun x => by kernel_rfl
def yzm : QF := ⟨152, zY, okN (n := 0) Tryz.func152 trivial ytu⟩
def Wm (x : List y9) : Option (List y9) :=
 Option.bind (yz x) fun r1 => Option.bind (yS r1) fun r2 => some r2
theorem ytv : EV [yif, yqG] lpN 195 Tryz.f195 yni [(.sl 58 yn)] [(.sl 58 yn)] Wm := fun x => by kernel_rfl
def yzn : QF := ⟨195, Wm, okN (n := 0) Tryz.func195 trivial ytv⟩
def jX (x : ykA) : Option Qz8 :=
 Option.bind (YX (x.1, x.2.1)) fun r1 => Option.bind (yy (x.2.2, (0 : Int), (Go.IntKind.wrap .i64 ((List.length x.2.1 : Int) - (1 : Int))))) fun r2 => bif r2 then if (0 : Int) ≤ x.2.2 then if x.2.2 < (List.length x.2.1 : Int) then Option.bind (Wm (yd x.2.1 x.2.2)) fun r3 => if (0 : Int) ≤ x.2.2 then if x.2.2 < (List.length r1.2 : Int) then some (r1.1, (List.set r1.2 (Int.toNat x.2.2) r3)) else none else none else none else none else some r1
theorem ytw : EV [y5x, ysD, yzn] lpN 174 Tryz.f174 ynj ykB qz8 jX := fun x => by kernel_rfl
def yzo : QF := ⟨174, jX, okN (n := 0) Tryz.func174 trivial ytw⟩
def Yh (x : y7L) : Option yf1 :=
 Option.bind (yk (x.1, x.2.1, x.2.2.1, x.2.2.2.1, x.2.2.2.2.1, x.2.2.2.2.2.1)) fun r1 => Option.bind (yG (x.1, x.2.1, x.2.2.1, x.2.2.2.1, x.2.2.2.2.1, x.2.2.2.2.2.1)) fun r2 => Option.bind (bif (!r2) then some true else Option.bind (yy (x.2.2.2.2.2.2, (0 : Int), (Go.IntKind.wrap .i64 ((List.length x.2.1 : Int) - (1 : Int))))) fun r4 => some (!r4)) fun u3 => bif u3 then some (r1.1, r1.2.1, r1.2.2.1, r1.2.2.2.1, r1.2.2.2.2.1, r1.2.2.2.2.2, false) else Option.bind (jX (x.1, x.2.1, x.2.2.2.2.2.2)) fun r5 => some (r5.1, r5.2, r1.2.2.1, r1.2.2.2.1, r1.2.2.2.2.1, r1.2.2.2.2.2, true)
theorem ytx : EV [yiz, ydj, y5x, yzo] lpN 153 Tryz.f153 ynk y7M yf2 Yh := fun x => by kernel_rfl
def yzp : QF := ⟨153, Yh, okN (n := 0) Tryz.func153 trivial ytx⟩
abbrev KW : Type := ykN
def jY (k0 : yeb → Option R) (k1 : yeb → Option R) (again : KW → Option R) (t3 : KW) : Option R :=
 bif (decide (t3.2.1 < (List.length t3.2.2.2.2.2.2.2 : Int))) then if (0 : Int) ≤ t3.2.1 then if t3.2.1 < (List.length t3.2.2.2.2.2.2.2 : Int) then Option.bind (bif ((y6 t3.2.2.2.2.2.2.2 t3.2.1).2.2.1 == (1 : Int)) then if (0 : Int) ≤ t3.2.1 then if t3.2.1 < (List.length t3.2.2.2.2.2.2.2 : Int) then some ((y6 t3.2.2.2.2.2.2.2 t3.2.1).2.2.2.1 == t3.1) else none else none else some false) fun u2 => bif u2 then if (0 : Int) ≤ t3.2.1 then if t3.2.1 < (List.length t3.2.2.2.2.2.2.2 : Int) then k0 ((y6 t3.2.2.2.2.2.2.2 t3.2.1).1, (y6 t3.2.2.2.2.2.2.2 t3.2.1).2.1, (y6 t3.2.2.2.2.2.2.2 t3.2.1).2.2.1, (y6 t3.2.2.2.2.2.2.2 t3.2.1).2.2.2.1, (y6 t3.2.2.2.2.2.2.2 t3.2.1).2.2.2.2) else none else none else again (t3.1, (Go.IntKind.wrap .i64 (t3.2.1 + (1 : Int))), t3.2.2.1, t3.2.2.2.1, t3.2.2.2.2.1, t3.2.2.2.2.2.1, t3.2.2.2.2.2.2.1, t3.2.2.2.2.2.2.2) else none else none else k1 (t3.2.2.1, t3.2.2.2.1, t3.2.2.2.2.1, t3.2.2.2.2.2.1, t3.2.2.2.2.2.2.1)
def qX k0 k1 := zL (@jY R k0 k1) Y3
def Wn (x : y7L) : Option yeb :=
 Option.bind (yI (x.1, x.2.1)) fun r1 => qX (fun x3 => some x3) (fun x4 => some ((0 : Int), (0 : Int), (0 : Int), (0 : Int), (0 : Int))) (x.2.2.2.2.2.2, (0 : Int), (0 : Int), (0 : Int), (0 : Int), (0 : Int), (0 : Int), r1)
def yjc : List QF := [yii]
def y6g (t : ykN) : St := ⟨.dead :: vI t.1 :: dd 2 (.box 4 0 :: .own 10000000 :: vI t.2.1 :: dd 29 []), [(4, .box [vI t.2.2.1, vI t.2.2.2.1, vI t.2.2.2.2.1, vI t.2.2.2.2.2.1, vI t.2.2.2.2.2.2.1]), (10000000, .root true 63 yg t.2.2.2.2.2.2.2)]⟩
def yha : Gk KW := fun κ => jY (fun t => κ none ⟨dd 4 (.box 4 0 :: dd 31 []), [(4, .box [vI t.1, vI t.2.1, vI t.2.2.1, vI t.2.2.2.1, vI t.2.2.2.2])]⟩) (fun t => κ (some 0) ⟨dd 4 (.box 4 0 :: dd 31 []), [(4, .box [vI t.1, vI t.2.1, vI t.2.2.1, vI t.2.2.2.1, vI t.2.2.2.2])]⟩)
def yjd : Lp := lpC 3 (unG ykO y6g) @yha lpN
theorem yp7 : LF yjc yjd 175 3 Tryz.f175 0 y6g @yha fun t => t := fun R κ again t => by kernel_rfl
theorem yp8 : LK yjc yjd 175 Tryz.f175 0 := lkN (u := (unG ykO y6g)) (yw fun t => by kernel_rfl) yp7
theorem yty : EV yjc yjd 175 Tryz.f175 ynl y7M vN Wn := fun x => by kernel_rfl
def yzq : QF := ⟨175, Wn, okN (n := 1) Tryz.func175 ⟨yp8, trivial⟩ yty⟩
def Yi (x : y7L) : Option yf1 :=
 Option.bind (yk (x.1, x.2.1, x.2.2.1, x.2.2.2.1, x.2.2.2.2.1, x.2.2.2.2.2.1)) fun r1 => Option.bind (yG (x.1, x.2.1, x.2.2.1, x.2.2.2.1, x.2.2.2.2.1, x.2.2.2.2.2.1)) fun r2 => Option.bind (bif (!r2) then some true else Option.bind (yy (x.2.2.2.2.2.2, (0 : Int), (Go.IntKind.wrap .i64 ((List.length x.2.2.2.1 : Int) - (1 : Int))))) fun r4 => some (!r4)) fun u3 => Option.bind (bif u3 then some true else if (0 : Int) ≤ x.2.2.2.2.2.2 then if x.2.2.2.2.2.2 < (List.length x.2.2.2.1 : Int) then some (!((ym x.2.2.2.1 x.2.2.2.2.2.2).2.1)) else none else none) fun u5 => bif u5 then some (r1.1, r1.2.1, r1.2.2.1, r1.2.2.2.1, r1.2.2.2.2.1, r1.2.2.2.2.2, false) else Option.bind (Wn x) fun r6 => if (0 : Int) ≤ x.2.2.2.2.2.2 then if x.2.2.2.2.2.2 < (List.length x.2.2.2.1 : Int) then Option.bind (zT (x.2.2.2.1, (ym x.2.2.2.1 x.2.2.2.2.2.2).2.2)) fun r7 => Option.bind (bif (!r7.2.2) then some true else some (decide (r7.2.1 > x.2.2.2.2.2.2))) fun u8 => bif u8 then some (r1.1, r1.2.1, r1.2.2.1, r1.2.2.2.1, r1.2.2.2.2.1, r1.2.2.2.2.2, false) else if (0 : Int) ≤ r7.2.1 then if r7.2.1 < (List.length r7.1 : Int) then Option.bind (zP (x.1, x.2.1, r6.1, r6.2.1, r6.2.2.1, r7.2.1, (ym r7.1 r7.2.1).1)) fun r9 => Option.bind (Zq (r7.1, x.2.2.2.2.2.2)) fun r10 => Option.bind (bif (!r9.2.2) then some true else Option.bind (yG (r9.1, r9.2.1, r1.2.2.1, r10, r1.2.2.2.2)) fun r12 => some (!r12)) fun u11 => bif u11 then Option.bind (yk (x.1, x.2.1, x.2.2.1, x.2.2.2.1, x.2.2.2.2.1, x.2.2.2.2.2.1)) fun r13 => some (r13.1, r13.2.1, r13.2.2.1, r13.2.2.2.1, r13.2.2.2.2.1, r13.2.2.2.2.2, false) else some (r9.1, r9.2.1, r1.2.2.1, r10, r1.2.2.2.2.1, r1.2.2.2.2.2, true) else none else none else none else none
theorem ytz : EV [yiz, ydj, y5x, yxY, yt5, yzq, yy1] lpN 154 Tryz.f154 ynm y7M yf2 Yi := fun x => by kernel_rfl
def yzr : QF := ⟨154, Yi, okN (n := 0) Tryz.func154 trivial ytz⟩
def kG (x : yhT) : Option yf1 :=
 bif (x.2.2.2.2.2.2.1 == (7 : Int)) then Option.bind (zY (x.1, x.2.1, x.2.2.1, x.2.2.2.1, x.2.2.2.2.1, x.2.2.2.2.2.1)) fun r1 => some r1 else bif (x.2.2.2.2.2.2.1 == (8 : Int)) then Option.bind (Yh (x.1, x.2.1, x.2.2.1, x.2.2.2.1, x.2.2.2.2.1, x.2.2.2.2.2.1, x.2.2.2.2.2.2.2.2.2.1)) fun r2 => some r2 else Option.bind (Yi (x.1, x.2.1, x.2.2.1, x.2.2.2.1, x.2.2.2.2.1, x.2.2.2.2.2.1, x.2.2.2.2.2.2.2.2.2.1)) fun r3 => some r3
theorem ytA : EV [yzm, yzp, yzr] lpN 116 Tryz.f116 ynn yhU yf2 kG := fun x => by kernel_rfl
def yzs : QF := ⟨116, kG, okN (n := 0) Tryz.func116 trivial ytA⟩
def jZ (x : yhT) : Option y7L :=
 Option.bind (KB x.2.2.2.2.2.2) fun r1 => Option.bind (bif (!r1) then some true else Option.bind (yG (x.1, x.2.1, x.2.2.1, x.2.2.2.1, x.2.2.2.2.1, x.2.2.2.2.2.1)) fun r3 => some (!r3)) fun u2 => bif u2 then Option.bind (yk (x.1, x.2.1, x.2.2.1, x.2.2.2.1, x.2.2.2.2.1, x.2.2.2.2.2.1)) fun r4 => some (r4.1, r4.2.1, r4.2.2.1, r4.2.2.2.1, r4.2.2.2.2.1, r4.2.2.2.2.2, (1 : Int)) else bif (x.2.2.2.2.2.2.1 == (1 : Int)) then Option.bind (Ju (x.1, x.2.1, x.2.2.1, x.2.2.2.1, x.2.2.2.2.1, x.2.2.2.2.2.1, x.2.2.2.2.2.2.2.1, x.2.2.2.2.2.2.2.2.2.1)) fun r5 => some r5 else bif (x.2.2.2.2.2.2.1 == (2 : Int)) then Option.bind (WY (x.1, x.2.1, x.2.2.1, x.2.2.2.1, x.2.2.2.2.1, x.2.2.2.2.2.1, x.2.2.2.2.2.2.2.1, x.2.2.2.2.2.2.2.2.1, (x.2.2.2.2.2.2.2.2.2.2 == (1 : Int)))) fun r6 => some r6 else bif (x.2.2.2.2.2.2.1 == (3 : Int)) then Option.bind (WZ (x.1, x.2.1, x.2.2.1, x.2.2.2.1, x.2.2.2.2.1, x.2.2.2.2.2.1, x.2.2.2.2.2.2.2.1)) fun r7 => some r7 else bif (x.2.2.2.2.2.2.1 == (4 : Int)) then Option.bind (wM (x.1, x.2.1, x.2.2.1, x.2.2.2.1, x.2.2.2.2.1, x.2.2.2.2.2.1, x.2.2.2.2.2.2.2.1, x.2.2.2.2.2.2.2.2.2)) fun r8 => some r8 else bif (x.2.2.2.2.2.2.1 == (5 : Int)) then Option.bind (jt (x.1, x.2.1, x.2.2.1, x.2.2.2.1, x.2.2.2.2.1, x.2.2.2.2.2.1, x.2.2.2.2.2.2.2.1, x.2.2.2.2.2.2.2.2.2.1)) fun r9 => some r9 else bif (x.2.2.2.2.2.2.1 == (6 : Int)) then Option.bind (Jz (x.1, x.2.1, x.2.2.1, x.2.2.2.1, x.2.2.2.2.1, x.2.2.2.2.2.1, x.2.2.2.2.2.2.2.1, x.2.2.2.2.2.2.2.2.2.1)) fun r10 => some r10 else Option.bind (kG x) fun r11 => bif (!r11.2.2.2.2.2.2) then some (r11.1, r11.2.1, r11.2.2.1, r11.2.2.2.1, r11.2.2.2.2.1, r11.2.2.2.2.2.1, (2 : Int)) else some (r11.1, r11.2.1, r11.2.2.1, r11.2.2.2.1, r11.2.2.2.2.1, r11.2.2.2.2.2.1, (0 : Int))
theorem yzt : EV [yyO, yiz, ydj, yyZ, yz0, yz1, yz8, yzb, yzc, yzs] lpN 70 Tryz.f70 ywU yhU y7M jZ := fun x => by kernel_rfl
def q70 : QF := ⟨70, jZ, okN (n := 0) Tryz.func70 trivial yzt⟩
abbrev wo : Type := yd3 ⊕ yd4
def jj (k0 : yrh → Option R) (k1 : yri → Option R) (again : wo → Option R) : wo → Option R
 | .inl t3 => bif (decide (t3.1 > (0 : Int))) then Option.bind (YB (t3.2.1, t3.2.2.1, t3.2.2.2.1)) fun r3 => Option.bind (jZ (t3.2.2.2.2.2.2.1, t3.2.2.2.2.2.2.2.1, t3.2.2.2.2.2.2.2.2.1, t3.2.2.2.2.2.2.2.2.2.1, t3.2.2.2.2.2.2.2.2.2.2, t3.2.2.2.2.2.1, r3.1, r3.2.1, r3.2.2.1, r3.2.2.2.1, r3.2.2.2.2.1)) fun r4 => again (Sum.inr ((Go.IntKind.wrap .i64 (t3.1 - (1 : Int))), r3.2.2.2.2.2.1, r3.2.2.2.2.2.2.1, r3.2.2.2.2.2.2.2, t3.2.2.2.2.1, r4.1, r4.2.1, r4.2.2.1, r4.2.2.2.2.2.1, r4.2.2.2.1, r4.2.2.2.2.1)) else k0 t3.2
 | .inr t3 => bif (decide (t3.1 > (0 : Int))) then Option.bind (YB (t3.2.1, t3.2.2.1, t3.2.2.2.1)) fun r5 => Option.bind (jZ (t3.2.2.2.2.2.1, t3.2.2.2.2.2.2.1, t3.2.2.2.2.2.2.2.1, t3.2.2.2.2.2.2.2.2.2.1, t3.2.2.2.2.2.2.2.2.2.2, t3.2.2.2.2.2.2.2.2.1, r5.1, r5.2.1, r5.2.2.1, r5.2.2.2.1, r5.2.2.2.2.1)) fun r6 => again (Sum.inr ((Go.IntKind.wrap .i64 (t3.1 - (1 : Int))), r5.2.2.2.2.2.1, r5.2.2.2.2.2.2.1, r5.2.2.2.2.2.2.2, t3.2.2.2.2.1, r6.1, r6.2.1, r6.2.2.1, r6.2.2.2.2.2.1, r6.2.2.2.1, r6.2.2.2.2.1)) else k1 t3.2
def qi k0 k1 := zL (@jj R k0 k1) Y3
def w4 (x : Qz3) : Option yrj :=
 Option.bind (kE ()) fun r1 => Option.bind (yt (x.1, x.2.1, x.2.2.1, (Go.IntKind.wrap .i64 (x.2.2.2 + (1 : Int))))) fun r2 => qi (fun x7 => some (x7.2.2.2.2.2.1, x7.2.2.2.2.2.2.1, x7.2.2.2.2.2.2.2.1, x7.2.2.2.2.2.2.2.2.1, x7.2.2.2.2.2.2.2.2.2, x7.2.2.2.2.1, x7.1, x7.2.1, x7.2.2.1)) (fun x8 => some (x8.2.2.2.2.1, x8.2.2.2.2.2.1, x8.2.2.2.2.2.2.1, x8.2.2.2.2.2.2.2.2.1, x8.2.2.2.2.2.2.2.2.2, x8.2.2.2.2.2.2.2.1, x8.1, x8.2.1, x8.2.2.1)) (Sum.inl (r2.1, r2.2.1, r2.2.2.1, r2.2.2.2, (0 : Int), r1.2.2.2.2.2, r1.1, r1.2.1, r1.2.2.1, r1.2.2.2.1, r1.2.2.2.2.1))
def yp9 : List QF := [q35, q68, q69, q70]
def y6h (t : yd3) : St := ⟨.box 900 0 :: dd 3 (.box 4 0 :: .box 5 0 :: vI t.1 :: dd 17 []), [(900, .box [yea t.2.1, vI t.2.2.1, vI t.2.2.2.1]), (4, .box [.nils, .nils, .nils, .nils, .nils, vI t.2.2.2.2.1]), (5, .box [.own 10000000, .own 10000001, .own 10000002, .own 10000003, .own 10000004, vI t.2.2.2.2.2.1]), (10000000, .root true 3 yf t.2.2.2.2.2.2.1), (10000001, .root true 99 yj t.2.2.2.2.2.2.2.1), (10000002, .root true 67 yp t.2.2.2.2.2.2.2.2.1), (10000003, .root true 53 ye t.2.2.2.2.2.2.2.2.2.1), (10000004, .root true 41 yO t.2.2.2.2.2.2.2.2.2.2)]⟩
theorem yje : ∀ s t, unG ykP y6h s = some t → y6h t = s := yw fun t => by kernel_rfl
def y6i (t : yd4) : St := ⟨.box 900 0 :: dd 3 (.box 4 0 :: .box 5 0 :: vI t.1 :: dd 17 []), [(900, .box [yea t.2.1, vI t.2.2.1, vI t.2.2.2.1]), (4, .box [.nils, .nils, .nils, .nils, .nils, vI t.2.2.2.2.1]), (5, .box [z9 t.2.2.2.2.2.1, yA t.2.2.2.2.2.2.1, zl t.2.2.2.2.2.2.2.1, .own 10000000, .own 10000001, vI t.2.2.2.2.2.2.2.2.1]), (10000000, .root true 53 ye t.2.2.2.2.2.2.2.2.2.1), (10000001, .root true 41 yO t.2.2.2.2.2.2.2.2.2.2)]⟩
theorem yjf : ∀ s t, unG ykQ y6i s = some t → y6i t = s := yw fun t => by kernel_rfl
def y6j : (yd3 ⊕ yd4) → St := Sum.elim y6h y6i
def y9a (s : St) : Option (yd3 ⊕ yd4) := ((unG ykP y6h s).map Sum.inl).or (((unG ykQ y6i) s).map Sum.inr)
theorem yjg : ∀ s t, y9a s = some t → y6j t = s := y95 yje yjf
def yff : Gk wo := fun κ => jj (fun t => κ (some 0) ⟨.box 900 0 :: dd 3 (.box 4 0 :: .box 5 0 :: dd 18 []), [(900, .box [yea t.1, vI t.2.1, vI t.2.2.1]), (4, .box [.nils, .nils, .nils, .nils, .nils, vI t.2.2.2.1]), (5, .box [.own 10000000, .own 10000001, .own 10000002, .own 10000003, .own 10000004, vI t.2.2.2.2.1]), (10000000, .root true 3 yf t.2.2.2.2.2.1), (10000001, .root true 99 yj t.2.2.2.2.2.2.1), (10000002, .root true 67 yp t.2.2.2.2.2.2.2.1), (10000003, .root true 53 ye t.2.2.2.2.2.2.2.2.1), (10000004, .root true 41 yO t.2.2.2.2.2.2.2.2.2)]⟩) (fun t => κ (some 0) ⟨.box 900 0 :: dd 3 (.box 4 0 :: .box 5 0 :: dd 18 []), [(900, .box [yea t.1, vI t.2.1, vI t.2.2.1]), (4, .box [.nils, .nils, .nils, .nils, .nils, vI t.2.2.2.1]), (5, .box [z9 t.2.2.2.2.1, yA t.2.2.2.2.2.1, zl t.2.2.2.2.2.2.1, .own 10000000, .own 10000001, vI t.2.2.2.2.2.2.2.1]), (10000000, .root true 53 ye t.2.2.2.2.2.2.2.2.1), (10000001, .root true 41 yO t.2.2.2.2.2.2.2.2.2)]⟩)
def ypa : Lp := lpC 3 y9a @yff lpN
theorem yjh : LF yp9 ypa 33 3 Tryz.f33 0 y6j @yff fun v : yd3 => .inl v := fun R κ again v => by kernel_rfl
theorem yji : LF yp9 ypa 33 3 Tryz.f33 0 y6j @yff fun v : yd4 => .inr v := fun R κ again v => by kernel_rfl
theorem ytB : LF yp9 ypa 33 3 Tryz.f33 0 y6j @yff fun t => t := (LC.sum yjh yji)
theorem ytC : LK yp9 ypa 33 Tryz.f33 0 := lkN (u := y9a) yjg ytB
theorem yzu : EV yp9 ypa 33 Tryz.f33 ywV qz3 yrk w4 := fun x => by kernel_rfl
def q33 : QF := ⟨33, w4, okN (n := 1) Tryz.func33 ⟨ytC, trivial⟩ yzu⟩
def Wo (x : Qz1) : Option Int :=
 bif (decide ((Go.IntKind.wrap .i64 ((3 : Int) + (Go.IntKind.wrap .i64 (Int.tdiv (List.length x.1 : Int) (12 : Int))))) > x.2)) then some x.2 else some (Go.IntKind.wrap .i64 ((3 : Int) + (Go.IntKind.wrap .i64 (Int.tdiv (List.length x.1 : Int) (12 : Int)))))
theorem yzv : EV [] lpN 34 Tryz.f34 ywW qz1 [(.int .i64)] Wo := fun x => by kernel_rfl
def q34 : QF := ⟨34, Wo, okN (n := 0) Tryz.func34 trivial yzv⟩
def J0 (x : List y29) : Option yhT :=
 Option.bind (vz x) fun r1 => Option.bind (Wo (x, (30 : Int))) fun r2 => Option.bind (w4 (r1.1, r1.2.1, r1.2.2, (Go.IntKind.wrap .i64 ((8 : Int) + r2)))) fun r3 => Option.bind (YB r3.2.2.2.2.2.2) fun r4 => some (r3.1, r3.2.1, r3.2.2.1, r3.2.2.2.1, r3.2.2.2.2.1, r3.2.2.2.2.2.1, r4.1, r4.2.1, r4.2.2.1, r4.2.2.2.1, r4.2.2.2.2.1)
theorem ev8 : EV [q32, q33, q34, q35] lpN 8 Tryz.f8 sg8 [(.sl 5 wV)] yhU J0 := fun x => by kernel_rfl
def q8 : QF := ⟨8, J0, okN (n := 0) Tryz.func8 trivial ev8⟩
def yC (x : yqY) : Option Bool :=
 Option.bind (bif (decide (x.1 ≥ x.2.1)) then some (decide (x.1 ≤ x.2.2)) else some false) fun u1 => some u1
theorem yzw : EV [] lpN 47 Tryz.f47 ywX yqZ [.bool] yC := fun x => by kernel_rfl
def q47 : QF := ⟨47, yC, okN (n := 0) Tryz.func47 trivial yzw⟩
def ju (x : yqm) : Option Bool :=
 Option.bind (bif (decide (x.1 < x.2.2.2.2.2.1)) then some true else Option.bind (bif (x.1 == x.2.2.2.2.2.1) then some (decide (x.2.1 < x.2.2.2.2.2.2.1)) else some false) fun u2 => some u2) fun u1 => some u1
theorem ytD : EV [] lpN 157 Tryz.f157 yno yqn [.bool] ju := fun x => by kernel_rfl
def yy8 : QF := ⟨157, ju, okN (n := 0) Tryz.func157 trivial ytD⟩
def Zt (x : yqm) : Option Bool :=
 Option.bind (bif (x.1 == x.2.2.2.2.2.1) then some (x.2.1 == x.2.2.2.2.2.2.1) else some false) fun u1 => some u1
theorem ytE : EV [] lpN 158 Tryz.f158 ynp yqn [.bool] Zt := fun x => by kernel_rfl
def yzx : QF := ⟨158, Zt, okN (n := 0) Tryz.func158 trivial ytE⟩
abbrev Wp : Type := ykR
def YI (k0 : yvN → Option R) (again : Wp → Option R) (t4 : Wp) : Option R :=
 bif (decide (t4.2.2.2.1 < t4.2.2.1)) then if (0 : Int) ≤ t4.2.2.2.1 then if t4.2.2.2.1 < (List.length t4.2.1 : Int) then Option.bind (bif (!t4.1) then Option.bind (ju ((y6 t4.2.1 t4.2.2.2.1).1, (y6 t4.2.1 t4.2.2.2.1).2.1, (y6 t4.2.1 t4.2.2.2.1).2.2.1, (y6 t4.2.1 t4.2.2.2.1).2.2.2.1, (y6 t4.2.1 t4.2.2.2.1).2.2.2.2, t4.2.2.2.2.1, t4.2.2.2.2.2.1, t4.2.2.2.2.2.2.1, t4.2.2.2.2.2.2.2.1, t4.2.2.2.2.2.2.2.2.1)) fun r2 => some (!r2) else some false) fun u1 => bif u1 then if (List.length t4.2.2.2.2.2.2.2.2.2 + List.length ([(t4.2.2.2.2.1, t4.2.2.2.2.2.1, t4.2.2.2.2.2.2.1, t4.2.2.2.2.2.2.2.1, t4.2.2.2.2.2.2.2.2.1)] : List y7)) * 40 < 140737488355328 then Option.bind (Zt ((y6 t4.2.1 t4.2.2.2.1).1, (y6 t4.2.1 t4.2.2.2.1).2.1, (y6 t4.2.1 t4.2.2.2.1).2.2.1, (y6 t4.2.1 t4.2.2.2.1).2.2.2.1, (y6 t4.2.1 t4.2.2.2.1).2.2.2.2, t4.2.2.2.2.1, t4.2.2.2.2.2.1, t4.2.2.2.2.2.2.1, t4.2.2.2.2.2.2.2.1, t4.2.2.2.2.2.2.2.2.1)) fun r3 => bif (!r3) then if (List.length (t4.2.2.2.2.2.2.2.2.2 ++ ([(t4.2.2.2.2.1, t4.2.2.2.2.2.1, t4.2.2.2.2.2.2.1, t4.2.2.2.2.2.2.2.1, t4.2.2.2.2.2.2.2.2.1)] : List y7)) + List.length ([((y6 t4.2.1 t4.2.2.2.1).1, (y6 t4.2.1 t4.2.2.2.1).2.1, (y6 t4.2.1 t4.2.2.2.1).2.2.1, (y6 t4.2.1 t4.2.2.2.1).2.2.2.1, (y6 t4.2.1 t4.2.2.2.1).2.2.2.2)] : List y7)) * 40 < 140737488355328 then again (true, t4.2.1, t4.2.2.1, (Go.IntKind.wrap .i64 (t4.2.2.2.1 + (1 : Int))), t4.2.2.2.2.1, t4.2.2.2.2.2.1, t4.2.2.2.2.2.2.1, t4.2.2.2.2.2.2.2.1, t4.2.2.2.2.2.2.2.2.1, ((t4.2.2.2.2.2.2.2.2.2 ++ ([(t4.2.2.2.2.1, t4.2.2.2.2.2.1, t4.2.2.2.2.2.2.1, t4.2.2.2.2.2.2.2.1, t4.2.2.2.2.2.2.2.2.1)] : List y7)) ++ ([((y6 t4.2.1 t4.2.2.2.1).1, (y6 t4.2.1 t4.2.2.2.1).2.1, (y6 t4.2.1 t4.2.2.2.1).2.2.1, (y6 t4.2.1 t4.2.2.2.1).2.2.2.1, (y6 t4.2.1 t4.2.2.2.1).2.2.2.2)] : List y7))) else none else again (true, t4.2.1, t4.2.2.1, (Go.IntKind.wrap .i64 (t4.2.2.2.1 + (1 : Int))), t4.2.2.2.2.1, t4.2.2.2.2.2.1, t4.2.2.2.2.2.2.1, t4.2.2.2.2.2.2.2.1, t4.2.2.2.2.2.2.2.2.1, (t4.2.2.2.2.2.2.2.2.2 ++ ([(t4.2.2.2.2.1, t4.2.2.2.2.2.1, t4.2.2.2.2.2.2.1, t4.2.2.2.2.2.2.2.1, t4.2.2.2.2.2.2.2.2.1)] : List y7))) else none else Option.bind (Zt ((y6 t4.2.1 t4.2.2.2.1).1, (y6 t4.2.1 t4.2.2.2.1).2.1, (y6 t4.2.1 t4.2.2.2.1).2.2.1, (y6 t4.2.1 t4.2.2.2.1).2.2.2.1, (y6 t4.2.1 t4.2.2.2.1).2.2.2.2, t4.2.2.2.2.1, t4.2.2.2.2.2.1, t4.2.2.2.2.2.2.1, t4.2.2.2.2.2.2.2.1, t4.2.2.2.2.2.2.2.2.1)) fun r4 => bif (!r4) then if (List.length t4.2.2.2.2.2.2.2.2.2 + List.length ([((y6 t4.2.1 t4.2.2.2.1).1, (y6 t4.2.1 t4.2.2.2.1).2.1, (y6 t4.2.1 t4.2.2.2.1).2.2.1, (y6 t4.2.1 t4.2.2.2.1).2.2.2.1, (y6 t4.2.1 t4.2.2.2.1).2.2.2.2)] : List y7)) * 40 < 140737488355328 then again (t4.1, t4.2.1, t4.2.2.1, (Go.IntKind.wrap .i64 (t4.2.2.2.1 + (1 : Int))), t4.2.2.2.2.1, t4.2.2.2.2.2.1, t4.2.2.2.2.2.2.1, t4.2.2.2.2.2.2.2.1, t4.2.2.2.2.2.2.2.2.1, (t4.2.2.2.2.2.2.2.2.2 ++ ([((y6 t4.2.1 t4.2.2.2.1).1, (y6 t4.2.1 t4.2.2.2.1).2.1, (y6 t4.2.1 t4.2.2.2.1).2.2.1, (y6 t4.2.1 t4.2.2.2.1).2.2.2.1, (y6 t4.2.1 t4.2.2.2.1).2.2.2.2)] : List y7))) else none else again (t4.1, t4.2.1, t4.2.2.1, (Go.IntKind.wrap .i64 (t4.2.2.2.1 + (1 : Int))), t4.2.2.2.2.1, t4.2.2.2.2.2.1, t4.2.2.2.2.2.2.1, t4.2.2.2.2.2.2.2.1, t4.2.2.2.2.2.2.2.2.1, t4.2.2.2.2.2.2.2.2.2) else none else none else k0 (t4.1, t4.2.2.2.2)
def KX k0 := zL (@YI R k0) Y3
def ZT (x : yvO) : Option (List y7) :=
 KX (fun x5 => bif (!x5.1) then if (List.length x5.2.2.2.2.2.2 + List.length ([(x5.2.1, x5.2.2.1, x5.2.2.2.1, x5.2.2.2.2.1, x5.2.2.2.2.2.1)] : List y7)) * 40 < 140737488355328 then some (x5.2.2.2.2.2.2 ++ ([(x5.2.1, x5.2.2.1, x5.2.2.2.1, x5.2.2.2.2.1, x5.2.2.2.2.2.1)] : List y7)) else none else some x5.2.2.2.2.2.2) (false, x.1, (List.length x.1 : Int), (0 : Int), x.2.1, x.2.2.1, x.2.2.2.1, x.2.2.2.2.1, x.2.2.2.2.2, ([] : List y7))
def yjj : List QF := [yy8, yzx]
def y6k (t : ykR) : St := ⟨dd 3 (.box 3 0 :: .dead :: .own 10000000 :: vB t.1 :: dd 3 (VK t.2.1 :: vI t.2.2.1 :: vI t.2.2.2.1 :: dd 31 [])), [(3, .box [vI t.2.2.2.2.1, vI t.2.2.2.2.2.1, vI t.2.2.2.2.2.2.1, vI t.2.2.2.2.2.2.2.1, vI t.2.2.2.2.2.2.2.2.1]), (10000000, .root true 63 yg t.2.2.2.2.2.2.2.2.2)]⟩
def yhb : Gk Wp := fun κ => YI (fun t => κ (some 0) ⟨dd 3 (.box 3 0 :: .dead :: .own 10000000 :: vB t.1 :: dd 37 []), [(3, .box [vI t.2.1, vI t.2.2.1, vI t.2.2.2.1, vI t.2.2.2.2.1, vI t.2.2.2.2.2.1]), (10000000, .root true 63 yg t.2.2.2.2.2.2)]⟩)
def yjk : Lp := lpC 4 (unG ykS y6k) @yhb lpN
theorem ypb : LF yjj yjk 125 4 Tryz.f125 0 y6k @yhb fun t => t := fun R κ again t => by kernel_rfl
theorem ypc : LK yjj yjk 125 Tryz.f125 0 := lkN (u := (unG ykS y6k)) (yw fun t => by kernel_rfl) ypb
theorem ytF : EV yjj yjk 125 Tryz.f125 ynq yvP [(.sl 63 yg)] ZT := fun x => by kernel_rfl
def ytG : QF := ⟨125, ZT, okN (n := 1) Tryz.func125 ⟨ypc, trivial⟩ ytF⟩
def zU (x : List y7) : Option (List y7) :=
 if (List.length ([] : List y7) + List.length x) * 40 < 140737488355328 then some (([] : List y7) ++ x) else none
theorem ytH : EV [] lpN 126 Tryz.f126 ynr [(.sl 63 yg)] [(.sl 63 yg)] zU := fun x => by kernel_rfl
def ytI : QF := ⟨126, zU, okN (n := 0) Tryz.func126 trivial ytH⟩
abbrev Wq : Type := yf3
def Z2 (k0 : List y7 → Option R) (again : Wq → Option R) (t3 : Wq) : Option R :=
 bif (decide (t3.2.2.1 < t3.2.1)) then if (0 : Int) ≤ t3.2.2.1 then if t3.2.2.1 < (List.length t3.1 : Int) then Option.bind (ZT (t3.2.2.2, (y6 t3.1 t3.2.2.1).1, (y6 t3.1 t3.2.2.1).2.1, (y6 t3.1 t3.2.2.1).2.2.1, (y6 t3.1 t3.2.2.1).2.2.2.1, (y6 t3.1 t3.2.2.1).2.2.2.2)) fun r2 => again (t3.1, t3.2.1, (Go.IntKind.wrap .i64 (t3.2.2.1 + (1 : Int))), r2) else none else none else k0 t3.2.2.2
def vG k0 := zL (@Z2 R k0) Y3
def YQ (x : yr0) : Option (List y7) :=
 Option.bind (zU x.1) fun r1 => vG (fun x3 => some x3) (x.2, (List.length x.2 : Int), (0 : Int), r1)
def yjl : List QF := [ytG, ytI]
def y6l (t : yf3) : St := ⟨dd 5 (.own 10000000 :: dd 4 (VK t.1 :: vI t.2.1 :: vI t.2.2.1 :: dd 8 [])), [(10000000, .root true 63 yg t.2.2.2)]⟩
def yhc : Gk Wq := fun κ => Z2 (fun t => κ (some 0) ⟨dd 5 (.own 10000000 :: dd 15 []), [(10000000, .root true 63 yg t)]⟩)
def yjm : Lp := lpC 3 (unG yf4 y6l) @yhc lpN
theorem ypd : LF yjl yjm 101 3 Tryz.f101 0 y6l @yhc fun t => t := fun R κ again t => by kernel_rfl
theorem ype : LK yjl yjm 101 Tryz.f101 0 := lkN (u := (unG yf4 y6l)) (yw fun t => by kernel_rfl) ypd
theorem ytJ : EV yjl yjm 101 Tryz.f101 yns yr1 [(.sl 63 yg)] YQ := fun x => by kernel_rfl
def yzy : QF := ⟨101, YQ, okN (n := 1) Tryz.func101 ⟨ype, trivial⟩ ytJ⟩
abbrev VN : Type := yf3
def Wr (k0 : List y7 → Option R) (again : VN → Option R) (t3 : VN) : Option R :=
 bif (decide (t3.2.2.1 < t3.2.1)) then if (0 : Int) ≤ t3.2.2.1 then if t3.2.2.1 < (List.length t3.1 : Int) then bif ((y6 t3.1 t3.2.2.1).2.2.1 != (0 : Int)) then if (List.length t3.2.2.2 + List.length ([((y6 t3.1 t3.2.2.1).1, (y6 t3.1 t3.2.2.1).2.1, (y6 t3.1 t3.2.2.1).2.2.1, (y6 t3.1 t3.2.2.1).2.2.2.1, (y6 t3.1 t3.2.2.1).2.2.2.2)] : List y7)) * 40 < 140737488355328 then again (t3.1, t3.2.1, (Go.IntKind.wrap .i64 (t3.2.2.1 + (1 : Int))), (t3.2.2.2 ++ ([((y6 t3.1 t3.2.2.1).1, (y6 t3.1 t3.2.2.1).2.1, (y6 t3.1 t3.2.2.1).2.2.1, (y6 t3.1 t3.2.2.1).2.2.2.1, (y6 t3.1 t3.2.2.1).2.2.2.2)] : List y7))) else none else again (t3.1, t3.2.1, (Go.IntKind.wrap .i64 (t3.2.2.1 + (1 : Int))), t3.2.2.2) else none else none else k0 t3.2.2.2
def y0X k0 := zL (@Wr R k0) Y3
def J1 (x : List y7) : Option (List y7) :=
 y0X (fun x1 => some x1) (x, (List.length x : Int), (0 : Int), ([] : List y7))
def yjn : List QF := []
def y6m (t : yf3) : St := ⟨dd 3 (.own 10000000 :: dd 3 (VK t.1 :: vI t.2.1 :: vI t.2.2.1 :: dd 12 [])), [(10000000, .root true 63 yg t.2.2.2)]⟩
def yhd : Gk VN := fun κ => Wr (fun t => κ (some 0) ⟨dd 3 (.own 10000000 :: dd 18 []), [(10000000, .root true 63 yg t)]⟩)
def yjo : Lp := lpC 3 (unG yf4 y6m) @yhd lpN
theorem ypf : LF yjn yjo 102 3 Tryz.f102 0 y6m @yhd fun t => t := fun R κ again t => by kernel_rfl
theorem ypg : LK yjn yjo 102 Tryz.f102 0 := lkN (u := (unG yf4 y6m)) (yw fun t => by kernel_rfl) ypf
theorem ytK : EV yjn yjo 102 Tryz.f102 ynt [(.sl 63 yg)] [(.sl 63 yg)] J1 := fun x => by kernel_rfl
def yy9 : QF := ⟨102, J1, okN (n := 1) Tryz.func102 ⟨ypg, trivial⟩ ytK⟩
abbrev ka : Type := ykT
def Zu (k0 : List y7 → Option R) (again : ka → Option R) (t3 : ka) : Option R :=
 bif (decide (t3.2.2.1 < t3.2.1)) then if (0 : Int) ≤ t3.2.2.1 then if t3.2.2.1 < (List.length t3.1 : Int) then Option.bind (YQ (t3.2.2.2, (yl t3.1 t3.2.2.1))) fun r1 => again (t3.1, t3.2.1, (Go.IntKind.wrap .i64 (t3.2.2.1 + (1 : Int))), r1) else none else none else k0 t3.2.2.2
def Vj k0 := zL (@Zu R k0) Y3
def yL (x : List y9) : Option (List y7) :=
 Vj (fun x2 => Option.bind (J1 x2) fun r3 => some r3) (x, (List.length x : Int), (0 : Int), ([] : List y7))
def ytL : List QF := [yzy, yy9]
def y9b (t : ykT) : St := ⟨dd 3 (.own 10000000 :: dd 4 (Yg t.1 :: vI t.2.1 :: vI t.2.2.1 :: dd 9 [])), [(10000000, .root true 63 yg t.2.2.2)]⟩
def yph : Gk ka := fun κ => Zu (fun t => κ (some 0) ⟨dd 3 (.own 10000000 :: dd 16 []), [(10000000, .root true 63 yg t)]⟩)
def ytM : Lp := lpC 3 (unG ykU y9b) @yph lpN
theorem ytN : LF ytL ytM 63 3 Tryz.f63 0 y9b @yph fun t => t := fun R κ again t => by kernel_rfl
theorem ytO : LK ytL ytM 63 Tryz.f63 0 := lkN (u := (unG ykU y9b)) (yw fun t => by kernel_rfl) ytN
theorem yzz : EV ytL ytM 63 Tryz.f63 ywY [(.sl 58 yn)] [(.sl 63 yg)] yL := fun x => by kernel_rfl
def q63 : QF := ⟨63, yL, okN (n := 1) Tryz.func63 ⟨ytO, trivial⟩ yzz⟩
def wN (x : yeb) : Option Bool :=
 Option.bind (yC (x.1, (0 : Int), (15 : Int))) fun r1 => Option.bind (bif (!r1) then some true else Option.bind (yC (x.2.1, (1 : Int), (60 : Int))) fun r3 => some (!r3)) fun u2 => Option.bind (bif u2 then some true else Option.bind (yC (x.2.2.1, (0 : Int), (2 : Int))) fun r5 => some (!r5)) fun u4 => bif u4 then some false else bif (x.2.2.1 != (1 : Int)) then Option.bind (bif (x.2.2.2.1 == (0 : Int)) then some (x.2.2.2.2 == (0 : Int)) else some false) fun u6 => some u6 else Option.bind (yC (x.2.2.2.1, (0 : Int), (23 : Int))) fun r7 => Option.bind (bif r7 then Option.bind (yC (x.2.2.2.2, (0 : Int), (999 : Int))) fun r9 => some r9 else some false) fun u8 => some u8
theorem yzA : EV [q47] lpN 87 Tryz.f87 ywZ vN [.bool] wN := fun x => by kernel_rfl
def q87 : QF := ⟨87, wN, okN (n := 0) Tryz.func87 trivial yzA⟩
abbrev vV : Type := ykV
def w5 (k0 : yvI → Option R) (k1 : List y7 → Option R) (again : vV → Option R) (t2 : vV) : Option R :=
 bif (decide (t2.2.2.2 < t2.2.2.1)) then if (0 : Int) ≤ t2.2.2.2 then if t2.2.2.2 < (List.length t2.2.1 : Int) then Option.bind (wN ((y6 t2.2.1 t2.2.2.2).1, (y6 t2.2.1 t2.2.2.2).2.1, (y6 t2.2.1 t2.2.2.2).2.2.1, (y6 t2.2.1 t2.2.2.2).2.2.2.1, (y6 t2.2.1 t2.2.2.2).2.2.2.2)) fun r1 => Option.bind (bif (!r1) then some true else Option.bind (bif (decide (t2.2.2.2 > (0 : Int))) then if (0 : Int) ≤ (Go.IntKind.wrap .i64 (t2.2.2.2 - (1 : Int))) then if (Go.IntKind.wrap .i64 (t2.2.2.2 - (1 : Int))) < (List.length t2.1 : Int) then Option.bind (ju ((y6 t2.1 (Go.IntKind.wrap .i64 (t2.2.2.2 - (1 : Int)))).1, (y6 t2.1 (Go.IntKind.wrap .i64 (t2.2.2.2 - (1 : Int)))).2.1, (y6 t2.1 (Go.IntKind.wrap .i64 (t2.2.2.2 - (1 : Int)))).2.2.1, (y6 t2.1 (Go.IntKind.wrap .i64 (t2.2.2.2 - (1 : Int)))).2.2.2.1, (y6 t2.1 (Go.IntKind.wrap .i64 (t2.2.2.2 - (1 : Int)))).2.2.2.2, (y6 t2.2.1 t2.2.2.2).1, (y6 t2.2.1 t2.2.2.2).2.1, (y6 t2.2.1 t2.2.2.2).2.2.1, (y6 t2.2.1 t2.2.2.2).2.2.2.1, (y6 t2.2.1 t2.2.2.2).2.2.2.2)) fun r4 => some (!r4) else none else none else some false) fun u3 => some u3) fun u2 => bif u2 then k0 (t2.1, false) else again (t2.1, t2.2.1, t2.2.2.1, (Go.IntKind.wrap .i64 (t2.2.2.2 + (1 : Int)))) else none else none else k1 t2.1
def y03 k0 k1 := zL (@w5 R k0 k1) Y3
def kW (x : List y7) : Option Bool :=
 y03 (fun x5 => some x5.2) (fun x6 => some (decide ((List.length x6 : Int) ≤ (60 : Int)))) (x, x, (List.length x : Int), (0 : Int))
def yjp : List QF := [q87, yy8]
def y6n (t : ykV) : St := ⟨VK t.1 :: dd 4 (VK t.2.1 :: vI t.2.2.1 :: vI t.2.2.2 :: dd 25 []), []⟩
def yhe : Gk vV := fun κ => w5 (fun t => κ none ⟨VK t.1 :: .dead :: vB t.2 :: dd 30 [], []⟩) (fun t => κ (some 0) ⟨VK t :: dd 32 [], []⟩)
def yjq : Lp := lpC 2 (unG ykW y6n) @yhe lpN
theorem ypi : LF yjp yjq 127 2 Tryz.f127 0 y6n @yhe fun t => t := fun R κ again t => by kernel_rfl
theorem ypj : LK yjp yjq 127 Tryz.f127 0 := lkN (u := (unG ykW y6n)) (yw fun t => by kernel_rfl) ypi
theorem ytP : EV yjp yjq 127 Tryz.f127 ynu [(.sl 63 yg)] [.bool] kW := fun x => by kernel_rfl
def yzB : QF := ⟨127, kW, okN (n := 1) Tryz.func127 ⟨ypj, trivial⟩ ytP⟩
abbrev KY : Type := ykX
def J2 (k0 : yrl → Option R) (k1 : ygs → Option R) (again : KY → Option R) (t3 : KY) : Option R :=
 bif (decide (t3.2.2.2.1 < t3.2.2.1)) then if (0 : Int) ≤ t3.2.2.2.1 then if t3.2.2.2.1 < (List.length t3.2.1 : Int) then Option.bind (kW (yl t3.2.1 t3.2.2.2.1)) fun r1 => Option.bind (bif (!r1) then some true else some ((List.length (yl t3.2.1 t3.2.2.2.1) : Int) == (0 : Int))) fun u2 => bif u2 then k0 (false, t3.1, t3.2.2.2.2) else again ((Go.IntKind.wrap .i64 (t3.1 + (List.length (yl t3.2.1 t3.2.2.2.1) : Int))), t3.2.1, t3.2.2.1, (Go.IntKind.wrap .i64 (t3.2.2.2.1 + (1 : Int))), t3.2.2.2.2) else none else none else k1 (t3.1, t3.2.2.2.2)
def qY k0 k1 := zL (@J2 R k0 k1) Y3
def zB (x : List y9) : Option Bool :=
 qY (fun x3 => some x3.1) (fun x4 => Option.bind (bif (decide ((List.length x4.2 : Int) ≤ (3 : Int))) then some (decide (x4.1 ≤ (8 : Int))) else some false) fun u5 => some u5) ((0 : Int), x, (List.length x : Int), (0 : Int), x)
def ytQ : List QF := [yzB]
def y9c (t : ykX) : St := ⟨.dead :: .box 1 0 :: .dead :: vI t.1 :: dd 3 (Yg t.2.1 :: vI t.2.2.1 :: vI t.2.2.2.1 :: dd 24 []), [(1, .box [Yg t.2.2.2.2])]⟩
def ypk : Gk KY := fun κ => J2 (fun t => κ none ⟨.dead :: .box 1 0 :: vB t.1 :: vI t.2.1 :: dd 30 [], [(1, .box [Yg t.2.2])]⟩) (fun t => κ (some 0) ⟨.dead :: .box 1 0 :: .dead :: vI t.1 :: dd 30 [], [(1, .box [Yg t.2])]⟩)
def ytR : Lp := lpC 3 (unG ykY y9c) @ypk lpN
theorem ytS : LF ytQ ytR 95 3 Tryz.f95 0 y9c @ypk fun t => t := fun R κ again t => by kernel_rfl
theorem ytT : LK ytQ ytR 95 Tryz.f95 0 := lkN (u := (unG ykY y9c)) (yw fun t => by kernel_rfl) ytS
theorem yzC : EV ytQ ytR 95 Tryz.f95 yx0 [(.sl 58 yn)] [.bool] zB := fun x => by kernel_rfl
def q95 : QF := ⟨95, zB, okN (n := 1) Tryz.func95 ⟨ytT, trivial⟩ yzC⟩
def Z3 (x : ygt) : Option Int :=
 some (Go.IntKind.wrap .i64 ((Go.IntKind.wrap .i64 ((64 : Int) * x.1)) + x.2))
theorem yzD : EV [] lpN 92 Tryz.f92 yx1 yhN [(.int .i64)] Z3 := fun x => by kernel_rfl
def q92 : QF := ⟨92, Z3, okN (n := 0) Tryz.func92 trivial yzD⟩
abbrev kb : Type := ykZ
def Zv (k0 : yrm → Option R) (k1 : yhV → Option R) (again : kb → Option R) (t5 : kb) : Option R :=
 bif (decide (t5.2.2.2.2.2.2.1 < t5.2.2.2.2.2.1)) then if (0 : Int) ≤ t5.2.2.2.2.2.2.1 then if t5.2.2.2.2.2.2.1 < (List.length t5.2.2.2.2.1 : Int) then Option.bind (Z3 ((y6 t5.2.2.2.2.1 t5.2.2.2.2.2.2.1).1, (y6 t5.2.2.2.2.1 t5.2.2.2.2.2.2.1).2.1)) fun r1 => if (0 : Int) ≤ t5.1 then if t5.1 < (List.length t5.2.2.2.2.2.2.2.1 : Int) then Option.bind (bif (decide (r1 < (zt t5.2.2.2.2.2.2.2.1 t5.1))) then some true else Option.bind (bif (decide ((Go.IntKind.wrap .i64 (t5.1 + (1 : Int))) < (List.length t5.2.2.2.2.2.2.2.1 : Int))) then if (0 : Int) ≤ (Go.IntKind.wrap .i64 (t5.1 + (1 : Int))) then if (Go.IntKind.wrap .i64 (t5.1 + (1 : Int))) < (List.length t5.2.2.2.2.2.2.2.1 : Int) then some (decide (r1 ≥ (zt t5.2.2.2.2.2.2.2.1 (Go.IntKind.wrap .i64 (t5.1 + (1 : Int)))))) else none else none else some false) fun u3 => some u3) fun u2 => bif u2 then k0 (t5.1, false, t5.2.1, t5.2.2.1, t5.2.2.2.1, t5.2.2.2.2.2.2.2) else again (t5.1, t5.2.1, t5.2.2.1, t5.2.2.2.1, t5.2.2.2.2.1, t5.2.2.2.2.2.1, (Go.IntKind.wrap .i64 (t5.2.2.2.2.2.2.1 + (1 : Int))), t5.2.2.2.2.2.2.2.1, t5.2.2.2.2.2.2.2.2) else none else none else none else none else k1 (t5.1, t5.2.1, t5.2.2.1, t5.2.2.2.1, t5.2.2.2.2.2.2.2)
def kc k0 k1 := zL (@Zv R k0 k1) Y3
abbrev ke : Type := yhV
def Zw (k0 : Bool → Option R) (k1 : Unit → Option R) (again : ke → Option R) (t2 : ke) : Option R :=
 bif (decide (t2.2.2.2.1 < t2.2.2.1)) then if (0 : Int) ≤ t2.2.2.2.1 then if t2.2.2.2.1 < (List.length t2.2.1 : Int) then kc (fun x4 => k0 x4.2.1) (fun x5 => again (x5.1, x5.2.1, x5.2.2.1, (Go.IntKind.wrap .i64 (x5.2.2.2.1 + (1 : Int))), x5.2.2.2.2.1, x5.2.2.2.2.2)) (t2.1, t2.2.1, t2.2.2.1, t2.2.2.2.1, (yl t2.2.1 t2.2.2.2.1), (List.length (yl t2.2.1 t2.2.2.2.1) : Int), (0 : Int), t2.2.2.2.2.1, t2.2.2.2.2.2) else none else none else k1 ()
def Vk k0 k1 := zL (@Zw R k0 k1) Y3
def J3 (x : ykA) : Option Bool :=
 if (0 : Int) ≤ x.2.2 then if x.2.2 < (List.length x.2.1 : Int) then Vk (fun x6 => some x6) (fun x7 => some true) (x.2.2, (yd x.2.1 x.2.2), (List.length (yd x.2.1 x.2.2) : Int), (0 : Int), x.1, x.2.1) else none else none
def ypl : List QF := [q92]
def y9d (t : ykZ) : St := ⟨.dead :: vI t.1 :: .box 2 0 :: dd 12 (Yg t.2.1 :: vI t.2.2.1 :: vI t.2.2.2.1 :: dd 3 (VK t.2.2.2.2.1 :: vI t.2.2.2.2.2.1 :: vI t.2.2.2.2.2.2.1 :: dd 35 [])), [(2, .box [z9 t.2.2.2.2.2.2.2.1, yA t.2.2.2.2.2.2.2.2])]⟩
def ypm : Gk kb := fun κ => Zv (fun t => κ none ⟨.dead :: vI t.1 :: .box 2 0 :: .dead :: vB t.2.1 :: dd 10 (Yg t.2.2.1 :: vI t.2.2.2.1 :: vI t.2.2.2.2.1 :: dd 41 []), [(2, .box [z9 t.2.2.2.2.2.1, yA t.2.2.2.2.2.2])]⟩) (fun t => κ (some 2) ⟨.dead :: vI t.1 :: .box 2 0 :: dd 12 (Yg t.2.1 :: vI t.2.2.1 :: vI t.2.2.2.1 :: dd 41 []), [(2, .box [z9 t.2.2.2.2.1, yA t.2.2.2.2.2])]⟩)
def y9e (t : yhV) : St := ⟨.dead :: vI t.1 :: .box 2 0 :: dd 12 (Yg t.2.1 :: vI t.2.2.1 :: vI t.2.2.2.1 :: dd 41 []), [(2, .box [z9 t.2.2.2.2.1, yA t.2.2.2.2.2])]⟩
def ypn : Gk ke := fun κ => Zw (fun t => κ none ⟨dd 4 (vB t :: dd 54 []), []⟩) (fun t => κ (some 0) ⟨dd 59 [], []⟩)
def ypo : Lp := lpC 2 (unG yl1 y9e) @ypn (lpC 5 (unG yl0 y9d) @ypm lpN)
theorem ytU : LF ypl ypo 96 5 Tryz.f96 1 y9d @ypm fun t => t := fun R κ again t => by kernel_rfl
theorem ytV : LK ypl ypo 96 Tryz.f96 1 := lkN (u := (unG yl0 y9d)) (yw fun t => by kernel_rfl) ytU
theorem ytW : LF ypl ypo 96 2 Tryz.f96 0 y9e @ypn fun t => t := fun R κ again t => by kernel_rfl
theorem ytX : LK ypl ypo 96 Tryz.f96 0 := lkN (u := (unG yl1 y9e)) (yw fun t => by kernel_rfl) ytW
theorem yzE : EV ypl ypo 96 Tryz.f96 yx2 ykB [.bool] J3 := fun x => by kernel_rfl
def q96 : QF := ⟨96, J3, okN (n := 2) Tryz.func96 ⟨ytX, ytV, trivial⟩ yzE⟩
abbrev KZ : Type := yl2
def J4 (k0 : yl4 → Option R) (k1 : Int → Option R) (again : KZ → Option R) (t5 : KZ) : Option R :=
 bif (decide (t5.2.2.2.1 < t5.2.2.1)) then if (0 : Int) ≤ t5.2.2.2.1 then if t5.2.2.2.1 < (List.length t5.2.1 : Int) then Option.bind (bif (decide (t5.2.2.2.1 > (0 : Int))) then if (0 : Int) ≤ (Go.IntKind.wrap .i64 (t5.2.2.2.1 - (1 : Int))) then if (Go.IntKind.wrap .i64 (t5.2.2.2.1 - (1 : Int))) < (List.length t5.2.2.2.2.1 : Int) then if (0 : Int) ≤ t5.2.2.2.1 then if t5.2.2.2.1 < (List.length t5.2.2.2.2.1 : Int) then some (decide ((zt t5.2.2.2.2.1 (Go.IntKind.wrap .i64 (t5.2.2.2.1 - (1 : Int)))) ≥ (zt t5.2.2.2.2.1 t5.2.2.2.1))) else none else none else none else none else some false) fun u4 => Option.bind (bif u4 then some true else Option.bind (zB (yd t5.2.1 t5.2.2.2.1)) fun r6 => some (!r6)) fun u5 => Option.bind (bif u5 then some true else Option.bind (J3 (t5.2.2.2.2.1, t5.2.2.2.2.2, t5.2.2.2.1)) fun r8 => some (!r8)) fun u7 => bif u7 then k0 (false, t5.1) else Option.bind (yL (yd t5.2.1 t5.2.2.2.1)) fun r9 => Option.bind (bif (decide (t5.2.2.2.1 > (0 : Int))) then some ((List.length r9 : Int) == (0 : Int)) else some false) fun u10 => bif u10 then k0 (false, t5.1) else again ((Go.IntKind.wrap .i64 (t5.1 + (List.length r9 : Int))), t5.2.1, t5.2.2.1, (Go.IntKind.wrap .i64 (t5.2.2.2.1 + (1 : Int))), t5.2.2.2.2.1, t5.2.2.2.2.2) else none else none else k1 t5.1
def qZ k0 k1 := zL (@J4 R k0 k1) Y3
def Yf (x : Qz8) : Option Bool :=
 Option.bind (yC ((List.length x.2 : Int), (1 : Int), (20 : Int))) fun r1 => Option.bind (bif (!r1) then some true else some ((List.length x.1 : Int) != (List.length x.2 : Int))) fun u2 => Option.bind (bif u2 then some true else if (0 : Int) ≤ (0 : Int) then if (0 : Int) < (List.length x.1 : Int) then some ((zt x.1 (0 : Int)) != (0 : Int)) else none else none) fun u3 => bif u3 then some false else qZ (fun x11 => some x11.1) (fun x12 => some (decide (x12 ≤ (60 : Int)))) ((0 : Int), x.2, (List.length x.2 : Int), (0 : Int), x.1, x.2)
def ytY : List QF := [q47, q63, q95, q96]
def y9f (t : yl2) : St := ⟨.dead :: .box 1 0 :: .dead :: vI t.1 :: dd 25 (yA t.2.1 :: vI t.2.2.1 :: vI t.2.2.2.1 :: dd 46 []), [(1, .box [z9 t.2.2.2.2.1, yA t.2.2.2.2.2])]⟩
def ypp : Gk KZ := fun κ => J4 (fun t => κ none ⟨dd 2 (vB t.1 :: vI t.2 :: dd 74 []), []⟩) (fun t => κ (some 0) ⟨dd 3 (vI t :: dd 74 []), []⟩)
def ytZ : Lp := lpC 5 (unG yl3 y9f) @ypp lpN
theorem yu0 : LF ytY ytZ 53 5 Tryz.f53 0 y9f @ypp fun t => t := fun R κ again t => by kernel_rfl
theorem yu1 : LK ytY ytZ 53 Tryz.f53 0 := lkN (u := (unG yl3 y9f)) (yw fun t => by kernel_rfl) yu0
theorem yzF : EV ytY ytZ 53 Tryz.f53 yx3 qz8 [.bool] Yf := fun x => by kernel_rfl
def q53 : QF := ⟨53, Yf, okN (n := 1) Tryz.func53 ⟨yu1, trivial⟩ yzF⟩
def kH (x : yqY) : Option yl4 :=
 some ((x.1 == x.2.2), x.2.2)
theorem yu2 : EV [] lpN 129 Tryz.f129 ynv yqZ yrn kH := fun x => by kernel_rfl
def yzG : QF := ⟨129, kH, okN (n := 0) Tryz.func129 trivial yu2⟩
abbrev zD : Type := yl5
def yU (k0 : ygt → Option R) (k1 : Int → Option R) (again : zD → Option R) (t2 : zD) : Option R :=
 bif (decide (t2.2.2.1 < t2.2.1)) then if (0 : Int) ≤ t2.2.2.1 then if t2.2.2.1 < (List.length t2.1 : Int) then Option.bind (kH ((yK t2.1 t2.2.2.1).1, (yK t2.1 t2.2.2.1).2, t2.2.2.2)) fun r1 => bif r1.1 then k0 (t2.2.2.1, r1.2) else again (t2.1, t2.2.1, (Go.IntKind.wrap .i64 (t2.2.2.1 + (1 : Int))), r1.2) else none else none else k1 t2.2.2.2
def Yu k0 k1 := zL (@yU R k0 k1) Y3
def z0 (x : yed) : Option ygt :=
 Yu (fun x2 => some x2) (fun x3 => some ((-1 : Int), x3)) (x.1, (List.length x.1 : Int), (0 : Int), x.2)
def y6o : List QF := [yzG]
def y0n (t : yl5) : St := ⟨zl t.1 :: .clo 129 901 :: dd 5 (vI t.2.1 :: vI t.2.2.1 :: dd 10 []), [(901, .box [vI t.2.2.2])]⟩
def y7N : Gk zD := fun κ => yU (fun t => κ none ⟨.dead :: .clo 129 901 :: dd 2 (vI t.1 :: dd 14 []), [(901, .box [vI t.2])]⟩) (fun t => κ (some 0) ⟨.dead :: .clo 129 901 :: dd 17 [], [(901, .box [vI t])]⟩)
def y6p : Lp := lpC 2 (unG yl6 y0n) @y7N lpN
theorem yds : LF y6o y6p 100000 2 Tryz.f128 0 y0n @y7N fun t => t := fun R κ again t => by kernel_rfl
theorem ydt : LK y6o y6p 100000 Tryz.f128 0 := lkN (u := (unG yl6 y0n)) (yw fun t => by kernel_rfl) yds
theorem yfg : EV y6o y6p 100000 Tryz.f128 yaz yee yhN z0 := fun x => by kernel_rfl
def yjr : QF := ⟨100000, z0, okN (n := 1) Tryz.func128 ⟨ydt, trivial⟩ yfg⟩
def Z4 (x : yed) : Option Int :=
 Option.bind (z0 x) fun r1 => some r1.1
theorem yzH : EV [yjr] lpN 97 Tryz.f97 yx4 yee [(.int .i64)] Z4 := fun x => by kernel_rfl
def q97 : QF := ⟨97, Z4, okN (n := 0) Tryz.func97 trivial yzH⟩
abbrev v5 : Type := yl7
def J5 (k0 : yqt → Option R) (k1 : List ya → Option R) (again : v5 → Option R) (t2 : v5) : Option R :=
 bif (decide (t2.2.2.2 < t2.2.2.1)) then if (0 : Int) ≤ t2.2.2.2 then if t2.2.2.2 < (List.length t2.2.1 : Int) then Option.bind (yC ((yK t2.2.1 t2.2.2.2).1, (1 : Int), (60 : Int))) fun r1 => Option.bind (bif (!r1) then some true else Option.bind (bif (decide (t2.2.2.2 > (0 : Int))) then if (0 : Int) ≤ (Go.IntKind.wrap .i64 (t2.2.2.2 - (1 : Int))) then if (Go.IntKind.wrap .i64 (t2.2.2.2 - (1 : Int))) < (List.length t2.1 : Int) then some (decide ((yK t2.1 (Go.IntKind.wrap .i64 (t2.2.2.2 - (1 : Int)))).1 ≥ (yK t2.2.1 t2.2.2.2).1)) else none else none else some false) fun u3 => some u3) fun u2 => Option.bind (bif u2 then some true else Option.bind (bif ((yK t2.2.1 t2.2.2.2).2 != (0 : Int)) then if (0 : Int) ≤ (0 : Int) then if (0 : Int) ≤ t2.2.2.2 then if t2.2.2.2 ≤ (List.length t2.1 : Int) then Option.bind (Z4 ((List.drop (Int.toNat (0 : Int)) (List.take (Int.toNat t2.2.2.2) t2.1)), (yK t2.2.1 t2.2.2.2).2)) fun r6 => some (decide (r6 < (0 : Int))) else none else none else none else some false) fun u5 => some u5) fun u4 => bif u4 then k0 (t2.1, false) else again (t2.1, t2.2.1, t2.2.2.1, (Go.IntKind.wrap .i64 (t2.2.2.2 + (1 : Int)))) else none else none else k1 t2.1
def Q0 k0 k1 := zL (@J5 R k0 k1) Y3
def Ws (x : List ya) : Option Bool :=
 Q0 (fun x7 => some x7.2) (fun x8 => some (decide ((List.length x8 : Int) ≤ (16 : Int)))) (x, x, (List.length x : Int), (0 : Int))
def yu3 : List QF := [q47, q97]
def y9g (t : yl7) : St := ⟨zl t.1 :: dd 4 (zl t.2.1 :: vI t.2.2.1 :: vI t.2.2.2 :: dd 41 []), []⟩
def ypq : Gk v5 := fun κ => J5 (fun t => κ none ⟨zl t.1 :: .dead :: vB t.2 :: dd 46 [], []⟩) (fun t => κ (some 0) ⟨zl t :: dd 48 [], []⟩)
def yu4 : Lp := lpC 2 (unG yl8 y9g) @ypq lpN
theorem yu5 : LF yu3 yu4 54 2 Tryz.f54 0 y9g @ypq fun t => t := fun R κ again t => by kernel_rfl
theorem yu6 : LK yu3 yu4 54 Tryz.f54 0 := lkN (u := (unG yl8 y9g)) (yw fun t => by kernel_rfl) yu5
theorem yzI : EV yu3 yu4 54 Tryz.f54 yx5 [(.sl 67 yp)] [.bool] Ws := fun x => by kernel_rfl
def q54 : QF := ⟨54, Ws, okN (n := 1) Tryz.func54 ⟨yu6, trivial⟩ yzI⟩
def ZU (x : Int) : Option Bool :=
 Option.bind (yC (x, (0 : Int), (65535 : Int))) fun r1 => some r1
theorem yzJ : EV [q47] lpN 38 Tryz.f38 yx6 [(.int .i64)] [.bool] ZU := fun x => by kernel_rfl
def q38 : QF := ⟨38, ZU, okN (n := 0) Tryz.func38 trivial yzJ⟩
abbrev Kb : Type := yl9
def jk (k0 : yvY → Option R) (k1 : List y8 → Option R) (again : Kb → Option R) (t2 : Kb) : Option R :=
 bif (decide (t2.2.2.2 < t2.2.2.1)) then if (0 : Int) ≤ t2.2.2.2 then if t2.2.2.2 < (List.length t2.2.1 : Int) then Option.bind (yC ((ym t2.2.1 t2.2.2.2).1, (0 : Int), (999 : Int))) fun r1 => Option.bind (bif (!r1) then some true else Option.bind (ZU ((ym t2.2.1 t2.2.2.2).2.2)) fun r3 => some (!r3)) fun u2 => Option.bind (bif u2 then some true else Option.bind (bif ((ym t2.2.1 t2.2.2.2).2.2 != (0 : Int)) then some (!((ym t2.2.1 t2.2.2.2).2.1)) else some false) fun u5 => some u5) fun u4 => bif u4 then k0 (t2.1, false) else again (t2.1, t2.2.1, t2.2.2.1, (Go.IntKind.wrap .i64 (t2.2.2.2 + (1 : Int)))) else none else none else k1 t2.1
def qj k0 k1 := zL (@jk R k0 k1) Y3
def Zh (x : List y8) : Option Bool :=
 qj (fun x6 => some x6.2) (fun x7 => some ((List.length x7 : Int) == (24 : Int))) (x, x, (List.length x : Int), (0 : Int))
def yu7 : List QF := [q38, q47]
def y9h (t : yl9) : St := ⟨yW t.1 :: dd 4 (yW t.2.1 :: vI t.2.2.1 :: vI t.2.2.2 :: dd 27 []), []⟩
def ypr : Gk Kb := fun κ => jk (fun t => κ none ⟨yW t.1 :: .dead :: vB t.2 :: dd 32 [], []⟩) (fun t => κ (some 0) ⟨yW t :: dd 34 [], []⟩)
def yu8 : Lp := lpC 2 (unG yla y9h) @ypr lpN
theorem yu9 : LF yu7 yu8 55 2 Tryz.f55 0 y9h @ypr fun t => t := fun R κ again t => by kernel_rfl
theorem yua : LK yu7 yu8 55 Tryz.f55 0 := lkN (u := (unG yla y9h)) (yw fun t => by kernel_rfl) yu9
theorem yzK : EV yu7 yu8 55 Tryz.f55 yx7 [(.sl 53 ye)] [.bool] Zh := fun x => by kernel_rfl
def q55 : QF := ⟨55, Zh, okN (n := 1) Tryz.func55 ⟨yua, trivial⟩ yzK⟩
abbrev v6 : Type := ylb
def J6 (k0 : List yb → Option R) (again : v6 → Option R) (t5 : v6) : Option R :=
 bif (decide (t5.2.2.2.1 < t5.2.2.1)) then if (0 : Int) ≤ t5.2.2.2.1 then if t5.2.2.2.1 < (List.length t5.2.1 : Int) then bif ((yK t5.2.1 t5.2.2.2.1).2 == t5.1) then if (List.length t5.2.2.2.2 + List.length ([(yK t5.2.1 t5.2.2.2.1).1] : List yb)) * 8 < 140737488355328 then again (t5.1, t5.2.1, t5.2.2.1, (Go.IntKind.wrap .i64 (t5.2.2.2.1 + (1 : Int))), (t5.2.2.2.2 ++ ([(yK t5.2.1 t5.2.2.2.1).1] : List yb))) else none else again (t5.1, t5.2.1, t5.2.2.1, (Go.IntKind.wrap .i64 (t5.2.2.2.1 + (1 : Int))), t5.2.2.2.2) else none else none else k0 t5.2.2.2.2
def Q1 k0 := zL (@J6 R k0) Y3
def Wt (x : yed) : Option (List yb) :=
 bif (x.2 == (0 : Int)) then some ([] : List yb) else Q1 (fun x1 => some x1) (x.2, x.1, (List.length x.1 : Int), (0 : Int), ([] : List yb))
def yub : List QF := []
def y9i (t : ylb) : St := ⟨.dead :: vI t.1 :: dd 3 (.own 10000000 :: dd 6 (zl t.2.1 :: vI t.2.2.1 :: vI t.2.2.2.1 :: dd 14 [])), [(10000000, .root true 3 yf t.2.2.2.2)]⟩
def yps : Gk v6 := fun κ => J6 (fun t => κ (some 0) ⟨dd 5 (.own 10000000 :: dd 23 []), [(10000000, .root true 3 yf t)]⟩)
def yuc : Lp := lpC 5 (unG ylc y9i) @yps lpN
theorem yud : LF yub yuc 28 5 Tryz.f28 0 y9i @yps fun t => t := fun R κ again t => by kernel_rfl
theorem yue : LK yub yuc 28 Tryz.f28 0 := lkN (u := (unG ylc y9i)) (yw fun t => by kernel_rfl) yud
theorem yzL : EV yub yuc 28 Tryz.f28 yx8 yee [(.sl 3 yf)] Wt := fun x => by kernel_rfl
def q28 : QF := ⟨28, Wt, okN (n := 1) Tryz.func28 ⟨yue, trivial⟩ yzL⟩
abbrev v7 : Type := yqk
def v8 (k0 : yvG → Option R) (k1 : ByteArray → Option R) (again : v7 → Option R) (t2 : v7) : Option R :=
 bif (decide (t2.2 < ((ByteArray.size t2.1 : Nat) : Int))) then if (0 : Int) ≤ t2.2 then if h1 : Int.toNat t2.2 < ByteArray.size t2.1 then Option.bind (yC ((Go.IntKind.wrap .i64 ((UInt8.toNat (ByteArray.get t2.1 (Int.toNat t2.2) h1) : Nat) : Int)), (97 : Int), (122 : Int))) fun r2 => Option.bind (bif (!r2) then if (0 : Int) ≤ t2.2 then if h4 : Int.toNat t2.2 < ByteArray.size t2.1 then Option.bind (yC ((Go.IntKind.wrap .i64 ((UInt8.toNat (ByteArray.get t2.1 (Int.toNat t2.2) h4) : Nat) : Int)), (48 : Int), (57 : Int))) fun r5 => some (!r5) else none else none else some false) fun u3 => bif u3 then k0 (t2.1, false) else again (t2.1, (Go.IntKind.wrap .i64 (t2.2 + (1 : Int)))) else none else none else k1 t2.1
def Q2 k0 k1 := zL (@v8 R k0 k1) Y3
def JB (x : ByteArray) : Option Bool :=
 Q2 (fun x6 => some x6.2) (fun x7 => Option.bind (yC (((ByteArray.size x7 : Nat) : Int), (1 : Int), (6 : Int))) fun r8 => some r8) (x, (0 : Int))
def yuf : List QF := [q47]
def y9j (t : yqk) : St := ⟨vS t.1 :: dd 2 (vI t.2 :: dd 23 []), []⟩
def ypt : Gk v7 := fun κ => v8 (fun t => κ none ⟨vS t.1 :: .dead :: vB t.2 :: dd 24 [], []⟩) (fun t => κ (some 0) ⟨vS t :: dd 26 [], []⟩)
def yug : Lp := lpC 2 (unG yql y9j) @ypt lpN
theorem yuh : LF yuf yug 76 2 Tryz.f76 0 y9j @ypt fun t => t := fun R κ again t => by kernel_rfl
theorem yui : LK yuf yug 76 Tryz.f76 0 := lkN (u := (unG yql y9j)) (yw fun t => by kernel_rfl) yuh
theorem yzM : EV yuf yug 76 Tryz.f76 yx9 [.str] [.bool] JB := fun x => by kernel_rfl
def q76 : QF := ⟨76, JB, okN (n := 1) Tryz.func76 ⟨yui, trivial⟩ yzM⟩
def Wu (x : yro) : Option yld :=
 some ((x.2.1 == x.2.2.2.2.2.1), x.2.2.2.2.1, x.2.2.2.2.2.1, x.2.2.2.2.2.2.1, x.2.2.2.2.2.2.2)
theorem yzN : EV [] lpN 98 Tryz.f98 yxa yrp yle Wu := fun x => by kernel_rfl
def q98 : QF := ⟨98, Wu, okN (n := 0) Tryz.func98 trivial yzN⟩
abbrev zC : Type := ylf
def yQ (k0 : ylh → Option R) (k1 : yrr → Option R) (again : zC → Option R) (t2 : zC) : Option R :=
 bif (decide (t2.2.2.1 < t2.2.1)) then if (0 : Int) ≤ t2.2.2.1 then if t2.2.2.1 < (List.length t2.1 : Int) then Option.bind (Wu ((yc t2.1 t2.2.2.1).1, (yc t2.1 t2.2.2.1).2.1, (yc t2.1 t2.2.2.1).2.2.1, (yc t2.1 t2.2.2.1).2.2.2, t2.2.2.2.1, t2.2.2.2.2.1, t2.2.2.2.2.2.1, t2.2.2.2.2.2.2)) fun r1 => bif r1.1 then k0 (t2.2.2.1, r1.2) else again (t2.1, t2.2.1, (Go.IntKind.wrap .i64 (t2.2.2.1 + (1 : Int))), r1.2.1, r1.2.2.1, r1.2.2.2.1, r1.2.2.2.2) else none else none else k1 t2.2.2.2
def Yn k0 k1 := zL (@yQ R k0 k1) Y3
def yY (x : yr8) : Option ylh :=
 Yn (fun x2 => some x2) (fun x3 => some ((-1 : Int), x3.1, x3.2.1, x3.2.2.1, x3.2.2.2)) (x.1, (List.length x.1 : Int), (0 : Int), x.2.1, x.2.2.1, x.2.2.2.1, x.2.2.2.2)
def y6q : List QF := [q98]
def y0o (t : ylf) : St := ⟨Y0 t.1 :: .clo 98 901 :: dd 5 (vI t.2.1 :: vI t.2.2.1 :: dd 10 []), [(901, .box [vS t.2.2.2.1, vI t.2.2.2.2.1, vI t.2.2.2.2.2.1, vB t.2.2.2.2.2.2])]⟩
def y7O : Gk zC := fun κ => yQ (fun t => κ none ⟨.dead :: .clo 98 901 :: dd 2 (vI t.1 :: dd 14 []), [(901, .box [vS t.2.1, vI t.2.2.1, vI t.2.2.2.1, vB t.2.2.2.2])]⟩) (fun t => κ (some 0) ⟨.dead :: .clo 98 901 :: dd 17 [], [(901, .box [vS t.1, vI t.2.1, vI t.2.2.1, vB t.2.2.2])]⟩)
def y6r : Lp := lpC 2 (unG ylg y0o) @y7O lpN
theorem ydu : LF y6q y6r 100002 2 Tryz.f103 0 y0o @y7O fun t => t := fun R κ again t => by kernel_rfl
theorem ydv : LK y6q y6r 100002 Tryz.f103 0 := lkN (u := (unG ylg y0o)) (yw fun t => by kernel_rfl) ydu
theorem yfh : EV y6q y6r 100002 Tryz.f103 yaA yr9 yrq yY := fun x => by kernel_rfl
def yjs : QF := ⟨100002, yY, okN (n := 1) Tryz.func103 ⟨ydv, trivial⟩ yfh⟩
def yB (x : yr8) : Option yld :=
 Option.bind (yY x) fun r1 => some ((decide (r1.1 ≥ (0 : Int))), r1.2.1, r1.2.2.1, r1.2.2.2.1, r1.2.2.2.2)
theorem yfi : EV [yjs] lpN 100001 Tryz.f66 yaB yr9 yle yB := fun x => by kernel_rfl
def yjt : QF := ⟨100001, yB, okN (n := 0) Tryz.func66 trivial yfi⟩
abbrev v9 : Type := yli
def J7 (k0 : yf0 → Option R) (k1 : Qz9 → Option R) (again : v9 → Option R) (t2 : v9) : Option R :=
 bif (decide (t2.2.2.1 < t2.2.1)) then if (0 : Int) ≤ t2.2.2.1 then if t2.2.2.1 < (List.length t2.1 : Int) then Option.bind (JB ((yc t2.1 t2.2.2.1).1)) fun r1 => Option.bind (bif (!r1) then some true else Option.bind (bif (decide (t2.2.2.1 > (0 : Int))) then if (0 : Int) ≤ (Go.IntKind.wrap .i64 (t2.2.2.1 - (1 : Int))) then if (Go.IntKind.wrap .i64 (t2.2.2.1 - (1 : Int))) < (List.length t2.2.2.2.2.2.2.2.1 : Int) then some (!Go.Op.bytesLess (ByteArray.toList ((yc t2.2.2.2.2.2.2.2.1 (Go.IntKind.wrap .i64 (t2.2.2.1 - (1 : Int)))).1)) (ByteArray.toList ((yc t2.1 t2.2.2.1).1))) else none else none else some false) fun u3 => some u3) fun u2 => Option.bind (bif u2 then some true else Option.bind (yC ((yc t2.1 t2.2.2.1).2.2.1, (1 : Int), (12 : Int))) fun r5 => some (!r5)) fun u4 => bif u4 then k0 (false, t2.2.2.2) else Option.bind (Z4 (t2.2.2.2.2.2.1, (yc t2.1 t2.2.2.1).2.1)) fun r6 => Option.bind (bif (decide (r6 < (0 : Int))) then some true else Option.bind (Wt (t2.2.2.2.2.2.1, (yc t2.1 t2.2.2.1).2.1)) fun r8 => some (decide ((List.length r8 : Int) > (0 : Int)))) fun u7 => bif u7 then k0 (false, t2.2.2.2) else if (0 : Int) ≤ (0 : Int) then if (0 : Int) ≤ t2.2.2.1 then if t2.2.2.1 ≤ (List.length t2.2.2.2.2.2.2.2.1 : Int) then Option.bind (yB ((List.drop (Int.toNat (0 : Int)) (List.take (Int.toNat t2.2.2.1) t2.2.2.2.2.2.2.2.1)), (yc t2.1 t2.2.2.1).1, (yc t2.1 t2.2.2.1).2.1, (yc t2.1 t2.2.2.1).2.2.1, (yc t2.1 t2.2.2.1).2.2.2)) fun r9 => bif r9.1 then k0 (false, t2.2.2.2) else again (t2.1, t2.2.1, (Go.IntKind.wrap .i64 (t2.2.2.1 + (1 : Int))), t2.2.2.2.1, t2.2.2.2.2.1, t2.2.2.2.2.2.1, t2.2.2.2.2.2.2.1, t2.2.2.2.2.2.2.2.1, t2.2.2.2.2.2.2.2.2) else none else none else none else none else none else k1 t2.2.2.2
def Q3 k0 k1 := zL (@J7 R k0 k1) Y3
def Wv (x : Qz9) : Option Bool :=
 Q3 (fun x10 => some x10.1) (fun x11 => some (decide ((List.length x11.2.2.2.2.1 : Int) ≤ (6 : Int)))) (x.2.2.2.2.1, (List.length x.2.2.2.2.1 : Int), (0 : Int), x.1, x.2.1, x.2.2.1, x.2.2.2.1, x.2.2.2.2.1, x.2.2.2.2.2)
def yuj : List QF := [q28, q47, q76, q97, yjt]
def y9k (t : yli) : St := ⟨.dead :: .box 1 0 :: dd 4 (Y0 t.1 :: vI t.2.1 :: vI t.2.2.1 :: dd 56 []), [(1, .box [z9 t.2.2.2.1, yA t.2.2.2.2.1, zl t.2.2.2.2.2.1, yW t.2.2.2.2.2.2.1, Y0 t.2.2.2.2.2.2.2.1, vI t.2.2.2.2.2.2.2.2])]⟩
def ypu : Gk v9 := fun κ => J7 (fun t => κ none ⟨.dead :: .box 1 0 :: vB t.1 :: dd 62 [], [(1, .box [z9 t.2.1, yA t.2.2.1, zl t.2.2.2.1, yW t.2.2.2.2.1, Y0 t.2.2.2.2.2.1, vI t.2.2.2.2.2.2])]⟩) (fun t => κ (some 0) ⟨.dead :: .box 1 0 :: dd 63 [], [(1, .box [z9 t.1, yA t.2.1, zl t.2.2.1, yW t.2.2.2.1, Y0 t.2.2.2.2.1, vI t.2.2.2.2.2])]⟩)
def yuk : Lp := lpC 2 (unG ylj y9k) @ypu lpN
theorem yul : LF yuj yuk 56 2 Tryz.f56 0 y9k @ypu fun t => t := fun R κ again t => by kernel_rfl
theorem yum : LK yuj yuk 56 Tryz.f56 0 := lkN (u := (unG ylj y9k)) (yw fun t => by kernel_rfl) yul
theorem yzO : EV yuj yuk 56 Tryz.f56 yxb qz9 [.bool] Wv := fun x => by kernel_rfl
def q56 : QF := ⟨56, Wv, okN (n := 1) Tryz.func56 ⟨yum, trivial⟩ yzO⟩
abbrev Ww : Type := ylk
def Z5 (k0 : Int → Option R) (again : Ww → Option R) (t3 : Ww) : Option R :=
 bif (decide (t3.2.2.2 < t3.2.2.1)) then if (0 : Int) ≤ t3.2.2.2 then if t3.2.2.2 < (List.length t3.2.1 : Int) then bif (ym t3.2.1 t3.2.2.2).2.1 then again ((Go.IntKind.wrap .i64 (t3.1 + (1 : Int))), t3.2.1, t3.2.2.1, (Go.IntKind.wrap .i64 (t3.2.2.2 + (1 : Int)))) else again (t3.1, t3.2.1, t3.2.2.1, (Go.IntKind.wrap .i64 (t3.2.2.2 + (1 : Int)))) else none else none else k0 t3.1
def vH k0 := zL (@Z5 R k0) Y3
def jl (x : List y8) : Option Int :=
 vH (fun x1 => some x1) ((0 : Int), x, (List.length x : Int), (0 : Int))
def yun : List QF := []
def y9l (t : ylk) : St := ⟨dd 3 (vI t.1 :: dd 2 (yW t.2.1 :: vI t.2.2.1 :: vI t.2.2.2 :: dd 9 [])), []⟩
def ypv : Gk Ww := fun κ => Z5 (fun t => κ (some 0) ⟨dd 3 (vI t :: dd 14 []), []⟩)
def yuo : Lp := lpC 3 (unG yll y9l) @ypv lpN
theorem yup : LF yun yuo 18 3 Tryz.f18 0 y9l @ypv fun t => t := fun R κ again t => by kernel_rfl
theorem yuq : LK yun yuo 18 Tryz.f18 0 := lkN (u := (unG yll y9l)) (yw fun t => by kernel_rfl) yup
theorem yzP : EV yun yuo 18 Tryz.f18 yxc [(.sl 53 ye)] [(.int .i64)] jl := fun x => by kernel_rfl
def q18 : QF := ⟨18, jl, okN (n := 1) Tryz.func18 ⟨yuq, trivial⟩ yzP⟩
abbrev kf : Type := ylm
def Zx (k0 : List y7 → Option R) (again : kf → Option R) (t3 : kf) : Option R :=
 bif (decide (t3.2.2.1 < t3.2.1)) then if (0 : Int) ≤ t3.2.2.1 then if t3.2.2.1 < (List.length t3.1 : Int) then Option.bind (yL (yd t3.1 t3.2.2.1)) fun r1 => if (List.length t3.2.2.2 + List.length r1) * 40 < 140737488355328 then again (t3.1, t3.2.1, (Go.IntKind.wrap .i64 (t3.2.2.1 + (1 : Int))), (t3.2.2.2 ++ r1)) else none else none else none else k0 t3.2.2.2
def Vl k0 := zL (@Zx R k0) Y3
def Yj (x : Qz8) : Option (List y7) :=
 Vl (fun x2 => some x2) (x.2, (List.length x.2 : Int), (0 : Int), ([] : List y7))
def yur : List QF := [q63]
def y9m (t : ylm) : St := ⟨dd 3 (.own 10000000 :: dd 4 (yA t.1 :: vI t.2.1 :: vI t.2.2.1 :: dd 9 [])), [(10000000, .root true 63 yg t.2.2.2)]⟩
def ypw : Gk kf := fun κ => Zx (fun t => κ (some 0) ⟨dd 3 (.own 10000000 :: dd 16 []), [(10000000, .root true 63 yg t)]⟩)
def yus : Lp := lpC 3 (unG yln y9m) @ypw lpN
theorem yut : LF yur yus 23 3 Tryz.f23 0 y9m @ypw fun t => t := fun R κ again t => by kernel_rfl
theorem yuu : LK yur yus 23 Tryz.f23 0 := lkN (u := (unG yln y9m)) (yw fun t => by kernel_rfl) yut
theorem yzQ : EV yur yus 23 Tryz.f23 yxd qz8 [(.sl 63 yg)] Yj := fun x => by kernel_rfl
def q23 : QF := ⟨23, Yj, okN (n := 1) Tryz.func23 ⟨yuu, trivial⟩ yzQ⟩
def JC (x : ykc) : Option yw3 :=
 Option.bind (yC (x.2.1, (0 : Int), (Go.IntKind.wrap .i64 ((List.length x.1 : Int) - (1 : Int))))) fun r1 => Option.bind (bif (!r1) then some true else if (0 : Int) ≤ x.2.1 then if x.2.1 < (List.length x.1 : Int) then some (!((ym x.1 x.2.1).2.1)) else none else none) fun u2 => Option.bind (bif u2 then some true else if (0 : Int) ≤ x.2.1 then if x.2.1 < (List.length x.1 : Int) then some ((ym x.1 x.2.1).1 != x.2.2) else none else none) fun u3 => bif u3 then some ((0 : Int), false) else if (0 : Int) ≤ x.2.1 then if x.2.1 < (List.length x.1 : Int) then some ((ym x.1 x.2.1).2.2, true) else none else none
theorem yzR : EV [q47] lpN 78 Tryz.f78 yxe ykd yw4 JC := fun x => by kernel_rfl
def q78 : QF := ⟨78, JC, okN (n := 0) Tryz.func78 trivial yzR⟩
abbrev Kc : Type := ylo
def jm (k0 : yr5 → Option R) (k1 : yef → Option R) (again : Kc → Option R) (t4 : Kc) : Option R :=
 bif (decide (t4.2.2.1 < t4.2.1)) then if (0 : Int) ≤ t4.2.2.1 then if t4.2.2.1 < (List.length t4.2.2.2.2.2.2.2.2.2.2 : Int) then Option.bind (Z4 (t4.2.2.2.2.2.1, (y6 t4.2.2.2.2.2.2.2.2.2.2 t4.2.2.1).2.1)) fun r2 => bif (decide (r2 < (0 : Int))) then k0 (false, t4.1, t4.2.2.2.1, t4.2.2.2.2.1, t4.2.2.2.2.2.1, t4.2.2.2.2.2.2.1, t4.2.2.2.2.2.2.2.1, t4.2.2.2.2.2.2.2.2.1) else bif ((y6 t4.2.2.2.2.2.2.2.2.2.2 t4.2.2.1).2.2.1 != (1 : Int)) then again (t4.1, t4.2.1, (Go.IntKind.wrap .i64 (t4.2.2.1 + (1 : Int))), t4.2.2.2.1, t4.2.2.2.2.1, t4.2.2.2.2.2.1, t4.2.2.2.2.2.2.1, t4.2.2.2.2.2.2.2.1, t4.2.2.2.2.2.2.2.2.1, t4.2.2.2.2.2.2.2.2.2.1, t4.2.2.2.2.2.2.2.2.2.2) else Option.bind (JC (t4.2.2.2.2.2.2.1, (y6 t4.2.2.2.2.2.2.2.2.2.2 t4.2.2.1).2.2.2.1, (y6 t4.2.2.2.2.2.2.2.2.2.2 t4.2.2.1).2.2.2.2)) fun r3 => Option.bind (bif (!r3.2) then some true else if (0 : Int) ≤ (y6 t4.2.2.2.2.2.2.2.2.2.2 t4.2.2.1).2.2.2.1 then if (y6 t4.2.2.2.2.2.2.2.2.2.2 t4.2.2.1).2.2.2.1 < (List.length t4.2.2.2.2.2.2.2.2.2.1 : Int) then some (yd2 t4.2.2.2.2.2.2.2.2.2.1 ((y6 t4.2.2.2.2.2.2.2.2.2.2 t4.2.2.1).2.2.2.1)) else none else none) fun u4 => bif u4 then k0 (false, t4.1, t4.2.2.2.1, t4.2.2.2.2.1, t4.2.2.2.2.2.1, t4.2.2.2.2.2.2.1, t4.2.2.2.2.2.2.2.1, t4.2.2.2.2.2.2.2.2.1) else if (0 : Int) ≤ (y6 t4.2.2.2.2.2.2.2.2.2.2 t4.2.2.1).2.2.2.1 then if (y6 t4.2.2.2.2.2.2.2.2.2.2 t4.2.2.1).2.2.2.1 < (List.length t4.2.2.2.2.2.2.2.2.2.1 : Int) then again ((Go.IntKind.wrap .i64 (t4.1 + (1 : Int))), t4.2.1, (Go.IntKind.wrap .i64 (t4.2.2.1 + (1 : Int))), t4.2.2.2.1, t4.2.2.2.2.1, t4.2.2.2.2.2.1, t4.2.2.2.2.2.2.1, t4.2.2.2.2.2.2.2.1, t4.2.2.2.2.2.2.2.2.1, (List.set t4.2.2.2.2.2.2.2.2.2.1 (Int.toNat ((y6 t4.2.2.2.2.2.2.2.2.2.2 t4.2.2.1).2.2.2.1)) true), t4.2.2.2.2.2.2.2.2.2.2) else none else none else none else none else k1 (t4.1, t4.2.2.2.1, t4.2.2.2.2.1, t4.2.2.2.2.2.1, t4.2.2.2.2.2.2.1, t4.2.2.2.2.2.2.2.1, t4.2.2.2.2.2.2.2.2.1)
def qk k0 k1 := zL (@jm R k0 k1) Y3
def w6 (x : Qz9) : Option Bool :=
 if (0 : Int) ≤ (24 : Int) then if (24 : Int) ≤ (24 : Int) then if (24 : Int) * ((1 : Nat) : Int) ≤ 140737488351232 then Option.bind (Yj (x.1, x.2.1)) fun r1 => qk (fun x5 => some x5.1) (fun x6 => Option.bind (jl x6.2.2.2.2.1) fun r7 => some (r7 == x6.1)) ((0 : Int), (List.length r1 : Int), (0 : Int), x.1, x.2.1, x.2.2.1, x.2.2.2.1, x.2.2.2.2.1, x.2.2.2.2.2, (List.replicate (Int.toNat (24 : Int)) yd1), r1) else none else none else none
def yuv : List QF := [q18, q23, q78, q97]
def y9n (t : ylo) : St := ⟨.dead :: .box 1 0 :: .dead :: .own 10000000 :: vI t.1 :: dd 7 (.own 10000001 :: vI t.2.1 :: vI t.2.2.1 :: dd 43 []), [(1, .box [z9 t.2.2.2.1, yA t.2.2.2.2.1, zl t.2.2.2.2.2.1, yW t.2.2.2.2.2.2.1, Y0 t.2.2.2.2.2.2.2.1, vI t.2.2.2.2.2.2.2.2.1]), (10000000, .root true 4 y3j t.2.2.2.2.2.2.2.2.2.1), (10000001, .root true 63 yg t.2.2.2.2.2.2.2.2.2.2)]⟩
def ypx : Gk Kc := fun κ => jm (fun t => κ none ⟨.dead :: .box 1 0 :: vB t.1 :: .dead :: vI t.2.1 :: dd 53 [], [(1, .box [z9 t.2.2.1, yA t.2.2.2.1, zl t.2.2.2.2.1, yW t.2.2.2.2.2.1, Y0 t.2.2.2.2.2.2.1, vI t.2.2.2.2.2.2.2])]⟩) (fun t => κ (some 0) ⟨.dead :: .box 1 0 :: dd 2 (vI t.1 :: dd 53 []), [(1, .box [z9 t.2.1, yA t.2.2.1, zl t.2.2.2.1, yW t.2.2.2.2.1, Y0 t.2.2.2.2.2.1, vI t.2.2.2.2.2.2])]⟩)
def yuw : Lp := lpC 4 (unG ylp y9n) @ypx lpN
theorem yux : LF yuv yuw 57 4 Tryz.f57 0 y9n @ypx fun t => t := fun R κ again t => by kernel_rfl
theorem yuy : LK yuv yuw 57 Tryz.f57 0 := lkN (u := (unG ylp y9n)) (yw fun t => by kernel_rfl) yux
theorem yzS : EV yuv yuw 57 Tryz.f57 yxf qz9 [.bool] w6 := fun x => by kernel_rfl
def q57 : QF := ⟨57, w6, okN (n := 1) Tryz.func57 ⟨yuy, trivial⟩ yzS⟩
abbrev va : Type := ylq
def J8 (k0 : yf0 → Option R) (k1 : Qz9 → Option R) (again : va → Option R) (t4 : va) : Option R :=
 bif (decide (t4.2.2.1 < t4.2.1)) then if (0 : Int) ≤ t4.2.2.1 then if t4.2.2.1 < (List.length t4.1 : Int) then bif (decide ((yK t4.1 t4.2.2.1).1 ≥ t4.2.2.2.2.2.2.2.2)) then k0 (false, t4.2.2.2) else again (t4.1, t4.2.1, (Go.IntKind.wrap .i64 (t4.2.2.1 + (1 : Int))), t4.2.2.2.1, t4.2.2.2.2.1, t4.2.2.2.2.2.1, t4.2.2.2.2.2.2.1, t4.2.2.2.2.2.2.2.1, t4.2.2.2.2.2.2.2.2) else none else none else k1 t4.2.2.2
def Q4 k0 k1 := zL (@J8 R k0 k1) Y3
def ZV (x : Qz9) : Option Bool :=
 Option.bind (Yf (x.1, x.2.1)) fun r1 => Option.bind (bif (!r1) then some true else Option.bind (Ws x.2.2.1) fun r3 => some (!r3)) fun u2 => Option.bind (bif u2 then some true else Option.bind (Zh x.2.2.2.1) fun r5 => some (!r5)) fun u4 => Option.bind (bif u4 then some true else Option.bind (yC (x.2.2.2.2.2, (1 : Int), (61 : Int))) fun r7 => some (!r7)) fun u6 => bif u6 then some false else Q4 (fun x8 => some x8.1) (fun x9 => Option.bind (Wv x9) fun r10 => Option.bind (bif r10 then Option.bind (w6 x9) fun r12 => some r12 else some false) fun u11 => some u11) (x.2.2.1, (List.length x.2.2.1 : Int), (0 : Int), x.1, x.2.1, x.2.2.1, x.2.2.2.1, x.2.2.2.2.1, x.2.2.2.2.2)
def yuz : List QF := [q47, q53, q54, q55, q56, q57]
def y9o (t : ylq) : St := ⟨.dead :: .box 1 0 :: dd 26 (zl t.1 :: vI t.2.1 :: vI t.2.2.1 :: dd 15 []), [(1, .box [z9 t.2.2.2.1, yA t.2.2.2.2.1, zl t.2.2.2.2.2.1, yW t.2.2.2.2.2.2.1, Y0 t.2.2.2.2.2.2.2.1, vI t.2.2.2.2.2.2.2.2])]⟩
def ypy : Gk va := fun κ => J8 (fun t => κ none ⟨.dead :: .box 1 0 :: vB t.1 :: dd 43 [], [(1, .box [z9 t.2.1, yA t.2.2.1, zl t.2.2.2.1, yW t.2.2.2.2.1, Y0 t.2.2.2.2.2.1, vI t.2.2.2.2.2.2])]⟩) (fun t => κ (some 0) ⟨.dead :: .box 1 0 :: dd 44 [], [(1, .box [z9 t.1, yA t.2.1, zl t.2.2.1, yW t.2.2.2.1, Y0 t.2.2.2.2.1, vI t.2.2.2.2.2])]⟩)
def yuA : Lp := lpC 4 (unG ylr y9o) @ypy lpN
theorem yuB : LF yuz yuA 19 4 Tryz.f19 0 y9o @ypy fun t => t := fun R κ again t => by kernel_rfl
theorem yuC : LK yuz yuA 19 Tryz.f19 0 := lkN (u := (unG ylr y9o)) (yw fun t => by kernel_rfl) yuB
theorem yzT : EV yuz yuA 19 Tryz.f19 yxg qz9 [.bool] ZV := fun x => by kernel_rfl
def q19 : QF := ⟨19, ZV, okN (n := 1) Tryz.func19 ⟨yuC, trivial⟩ yzT⟩
def kI (x : yrs) : Option yru :=
 some (((ByteArray.toList x.1) == (ByteArray.toList x.2.2.2.2)), x.2.2.2.2)
theorem yuD : EV [] lpN 117 Tryz.f117 ynw yrt yrv kI := fun x => by kernel_rfl
def yzU : QF := ⟨117, kI, okN (n := 0) Tryz.func117 trivial yuD⟩
abbrev zE : Type := yls
def yV (k0 : ylu → Option R) (k1 : ByteArray → Option R) (again : zE → Option R) (t2 : zE) : Option R :=
 bif (decide (t2.2.2.1 < t2.2.1)) then if (0 : Int) ≤ t2.2.2.1 then if t2.2.2.1 < (List.length t2.1 : Int) then Option.bind (kI ((yc t2.1 t2.2.2.1).1, (yc t2.1 t2.2.2.1).2.1, (yc t2.1 t2.2.2.1).2.2.1, (yc t2.1 t2.2.2.1).2.2.2, t2.2.2.2)) fun r1 => bif r1.1 then k0 (t2.2.2.1, r1.2) else again (t2.1, t2.2.1, (Go.IntKind.wrap .i64 (t2.2.2.1 + (1 : Int))), r1.2) else none else none else k1 t2.2.2.2
def Yv k0 k1 := zL (@yV R k0 k1) Y3
def zh (x : yrx) : Option ylu :=
 Yv (fun x2 => some x2) (fun x3 => some ((-1 : Int), x3)) (x.1, (List.length x.1 : Int), (0 : Int), x.2)
def y6s : List QF := [yzU]
def y0p (t : yls) : St := ⟨Y0 t.1 :: .clo 117 901 :: dd 5 (vI t.2.1 :: vI t.2.2.1 :: dd 10 []), [(901, .box [vS t.2.2.2])]⟩
def y7P : Gk zE := fun κ => yV (fun t => κ none ⟨.dead :: .clo 117 901 :: dd 2 (vI t.1 :: dd 14 []), [(901, .box [vS t.2])]⟩) (fun t => κ (some 0) ⟨.dead :: .clo 117 901 :: dd 17 [], [(901, .box [vS t])]⟩)
def y6t : Lp := lpC 2 (unG ylt y0p) @y7P lpN
theorem ydw : LF y6s y6t 100003 2 Tryz.f103 0 y0p @y7P fun t => t := fun R κ again t => by kernel_rfl
theorem ydx : LK y6s y6t 100003 Tryz.f103 0 := lkN (u := (unG ylt y0p)) (yw fun t => by kernel_rfl) ydw
theorem yfj : EV y6s y6t 100003 Tryz.f103 yaC yry yrw zh := fun x => by kernel_rfl
def yju : QF := ⟨100003, zh, okN (n := 1) Tryz.func103 ⟨ydx, trivial⟩ yfj⟩
def kX (x : ykE) : Option Int :=
 Option.bind (zh (x.2.2.2.2.1, x.2.2.2.2.2.2)) fun r1 => some r1.1
theorem yzV : EV [yju] lpN 75 Tryz.f75 yxh ykF [(.int .i64)] kX := fun x => by kernel_rfl
def q75 : QF := ⟨75, kX, okN (n := 0) Tryz.func75 trivial yzV⟩
def Yq (x : yrz) : Option ygt :=
 Option.bind (kX (x.1, x.2.1, x.2.2.1, x.2.2.2.1, x.2.2.2.2.1, x.2.2.2.2.2.1, x.2.2.2.2.2.2.1)) fun r1 => Option.bind (ZV (x.1, x.2.1, x.2.2.1, x.2.2.2.1, x.2.2.2.2.1, x.2.2.2.2.2.1)) fun r2 => Option.bind (bif (!r2) then some true else Option.bind (JB x.2.2.2.2.2.2.1) fun r4 => some (!r4)) fun u3 => bif u3 then some (r1, (1 : Int)) else bif (decide (r1 < (0 : Int))) then some (r1, (2 : Int)) else Option.bind (bif x.2.2.2.2.2.2.2.2 then if (0 : Int) ≤ r1 then if r1 < (List.length x.2.2.2.2.1 : Int) then some ((yc x.2.2.2.2.1 r1).2.2.2) else none else none else some false) fun u5 => bif u5 then some (r1, (5 : Int)) else if (0 : Int) ≤ r1 then if r1 < (List.length x.2.2.2.2.1 : Int) then Option.bind (yC (x.2.2.2.2.2.2.2.1, (0 : Int), (Go.IntKind.wrap .i64 ((yc x.2.2.2.2.1 r1).2.2.1 - (1 : Int))))) fun r6 => bif (!r6) then some (r1, (4 : Int)) else some (r1, (0 : Int)) else none else none
theorem yzW : EV [q19, q47, q75, q76] lpN 36 Tryz.f36 yxi yrA yhN Yq := fun x => by kernel_rfl
def q36 : QF := ⟨36, Yq, okN (n := 0) Tryz.func36 trivial yzW⟩
abbrev vb : Type := ylv
def J9 (k0 : List y7 → Option R) (again : vb → Option R) (t3 : vb) : Option R :=
 bif (decide (t3.2.2.1 < t3.2.1)) then if (0 : Int) ≤ t3.2.2.1 then if t3.2.2.1 < (List.length t3.2.2.2.2 : Int) then bif ((y6 t3.2.2.2.2 t3.2.2.1).1 == t3.1) then if (List.length t3.2.2.2.1 + List.length ([((y6 t3.2.2.2.2 t3.2.2.1).1, (y6 t3.2.2.2.2 t3.2.2.1).2.1, (y6 t3.2.2.2.2 t3.2.2.1).2.2.1, (y6 t3.2.2.2.2 t3.2.2.1).2.2.2.1, (y6 t3.2.2.2.2 t3.2.2.1).2.2.2.2)] : List y7)) * 40 < 140737488355328 then again (t3.1, t3.2.1, (Go.IntKind.wrap .i64 (t3.2.2.1 + (1 : Int))), (t3.2.2.2.1 ++ ([((y6 t3.2.2.2.2 t3.2.2.1).1, (y6 t3.2.2.2.2 t3.2.2.1).2.1, (y6 t3.2.2.2.2 t3.2.2.1).2.2.1, (y6 t3.2.2.2.2 t3.2.2.1).2.2.2.1, (y6 t3.2.2.2.2 t3.2.2.1).2.2.2.2)] : List y7)), t3.2.2.2.2) else none else again (t3.1, t3.2.1, (Go.IntKind.wrap .i64 (t3.2.2.1 + (1 : Int))), t3.2.2.2.1, t3.2.2.2.2) else none else none else k0 t3.2.2.2.1
def Q5 k0 := zL (@J9 R k0) Y3
def Wx (x : ykA) : Option (List y7) :=
 Option.bind (Yj (x.1, x.2.1)) fun r1 => Q5 (fun x2 => some x2) (x.2.2, (List.length r1 : Int), (0 : Int), ([] : List y7), r1)
def yjv : List QF := [q23]
def y6u (t : ylv) : St := ⟨.dead :: vI t.1 :: dd 3 (.own 10000000 :: dd 4 (.own 10000001 :: vI t.2.1 :: vI t.2.2.1 :: dd 13 [])), [(10000000, .root true 63 yg t.2.2.2.1), (10000001, .root true 63 yg t.2.2.2.2)]⟩
def yhf : Gk vb := fun κ => J9 (fun t => κ (some 0) ⟨dd 5 (.own 10000000 :: dd 20 []), [(10000000, .root true 63 yg t)]⟩)
def yjw : Lp := lpC 3 (unG ylw y6u) @yhf lpN
theorem ypz : LF yjv yjw 155 3 Tryz.f155 0 y6u @yhf fun t => t := fun R κ again t => by kernel_rfl
theorem ypA : LK yjv yjw 155 Tryz.f155 0 := lkN (u := (unG ylw y6u)) (yw fun t => by kernel_rfl) ypz
theorem yuE : EV yjv yjw 155 Tryz.f155 ynx ykB [(.sl 63 yg)] Wx := fun x => by kernel_rfl
def yzX : QF := ⟨155, Wx, okN (n := 1) Tryz.func155 ⟨ypA, trivial⟩ yuE⟩
abbrev JL : Type := ylx
def Yw (k0 : Int → Option R) (k1 : Unit → Option R) (again : JL → Option R) (t2 : JL) : Option R :=
 bif (decide (t2.2.2.2 < t2.2.2.1)) then if (0 : Int) ≤ t2.2.2.2 then if t2.2.2.2 < (List.length t2.1 : Int) then bif (t2.2.1 == (zt t2.1 t2.2.2.2)) then k0 t2.2.2.2 else again (t2.1, t2.2.1, t2.2.2.1, (Go.IntKind.wrap .i64 (t2.2.2.2 + (1 : Int)))) else none else none else k1 ()
def Ki k0 k1 := zL (@Yw R k0 k1) Y3
def Z6 (x : yrc) : Option Int :=
 Ki (fun x1 => some x1) (fun x2 => some (-1 : Int)) (x.1, x.2, (List.length x.1 : Int), (0 : Int))
def yjx : List QF := []
def y6v (t : ylx) : St := ⟨z9 t.1 :: vI t.2.1 :: dd 5 (vI t.2.2.1 :: vI t.2.2.2 :: dd 10 []), []⟩
def yhg : Gk JL := fun κ => Yw (fun t => κ none ⟨dd 4 (vI t :: dd 14 []), []⟩) (fun t => κ (some 0) ⟨dd 19 [], []⟩)
def yjy : Lp := lpC 2 (unG yly y6v) @yhg lpN
theorem ypB : LF yjx yjy 177 2 Tryz.f177 0 y6v @yhg fun t => t := fun R κ again t => by kernel_rfl
theorem ypC : LK yjx yjy 177 Tryz.f177 0 := lkN (u := (unG yly y6v)) (yw fun t => by kernel_rfl) ypB
theorem yuF : EV yjx yjy 177 Tryz.f177 yny yrd [(.int .i64)] Z6 := fun x => by kernel_rfl
def yzY : QF := ⟨177, Z6, okN (n := 1) Tryz.func177 ⟨ypC, trivial⟩ yuF⟩
def Yk (x : yrc) : Option Bool :=
 Option.bind (Z6 x) fun r1 => some (decide (r1 ≥ (0 : Int)))
theorem yuG : EV [yzY] lpN 156 Tryz.f156 ynz yrd [.bool] Yk := fun x => by kernel_rfl
def yzZ : QF := ⟨156, Yk, okN (n := 0) Tryz.func156 trivial yuG⟩
abbrev vc : Type := ylz
def Ja (k0 : ywE → Option R) (again : vc → Option R) (t3 : vc) : Option R :=
 bif (decide (t3.2.2.2.1 < t3.2.2.1)) then if (0 : Int) ≤ t3.2.2.2.1 then if t3.2.2.2.1 < (List.length t3.2.2.2.2.2.2.2.2.2.2.2.2.2.2 : Int) then Option.bind (Yk (t3.1, (y6 t3.2.2.2.2.2.2.2.2.2.2.2.2.2.2 t3.2.2.2.1).2.1)) fun r2 => Option.bind (bif r2 then Option.bind (bif (!t3.2.1) then some true else some (decide ((y6 t3.2.2.2.2.2.2.2.2.2.2.2.2.2.2 t3.2.2.2.1).2.1 > t3.2.2.2.2.2.2.2.2.2.2.1))) fun u4 => some u4 else some false) fun u3 => bif u3 then again (t3.1, true, t3.2.2.1, (Go.IntKind.wrap .i64 (t3.2.2.2.1 + (1 : Int))), t3.2.2.2.2.1, t3.2.2.2.2.2.1, t3.2.2.2.2.2.2.1, t3.2.2.2.2.2.2.2.1, t3.2.2.2.2.2.2.2.2.1, (y6 t3.2.2.2.2.2.2.2.2.2.2.2.2.2.2 t3.2.2.2.1).1, (y6 t3.2.2.2.2.2.2.2.2.2.2.2.2.2.2 t3.2.2.2.1).2.1, (y6 t3.2.2.2.2.2.2.2.2.2.2.2.2.2.2 t3.2.2.2.1).2.2.1, (y6 t3.2.2.2.2.2.2.2.2.2.2.2.2.2.2 t3.2.2.2.1).2.2.2.1, (y6 t3.2.2.2.2.2.2.2.2.2.2.2.2.2.2 t3.2.2.2.1).2.2.2.2, t3.2.2.2.2.2.2.2.2.2.2.2.2.2.2) else again (t3.1, t3.2.1, t3.2.2.1, (Go.IntKind.wrap .i64 (t3.2.2.2.1 + (1 : Int))), t3.2.2.2.2.1, t3.2.2.2.2.2.1, t3.2.2.2.2.2.2.1, t3.2.2.2.2.2.2.2.1, t3.2.2.2.2.2.2.2.2.1, t3.2.2.2.2.2.2.2.2.2.1, t3.2.2.2.2.2.2.2.2.2.2.1, t3.2.2.2.2.2.2.2.2.2.2.2.1, t3.2.2.2.2.2.2.2.2.2.2.2.2.1, t3.2.2.2.2.2.2.2.2.2.2.2.2.2.1, t3.2.2.2.2.2.2.2.2.2.2.2.2.2.2) else none else none else k0 (t3.2.1, t3.2.2.2.2.1, t3.2.2.2.2.2.1, t3.2.2.2.2.2.2.1, t3.2.2.2.2.2.2.2.1, t3.2.2.2.2.2.2.2.2.1, t3.2.2.2.2.2.2.2.2.2.1, t3.2.2.2.2.2.2.2.2.2.2.1, t3.2.2.2.2.2.2.2.2.2.2.2.1, t3.2.2.2.2.2.2.2.2.2.2.2.2.1, t3.2.2.2.2.2.2.2.2.2.2.2.2.2.1)
def Q6 k0 := zL (@Ja R k0) Y3
def ZW (x : ywF) : Option yce :=
 Option.bind (Wx (x.1, x.2.1, x.2.2.1)) fun r1 => Q6 (fun x5 => some (x5.2.2.2.2.2.2.1, x5.2.2.2.2.2.2.2.1, x5.2.2.2.2.2.2.2.2.1, x5.2.2.2.2.2.2.2.2.2.1, x5.2.2.2.2.2.2.2.2.2.2, x5.1)) (x.2.2.2, false, (List.length r1 : Int), (0 : Int), (0 : Int), (0 : Int), (0 : Int), (0 : Int), (0 : Int), (0 : Int), (0 : Int), (0 : Int), (0 : Int), (0 : Int), r1)
def yjz : List QF := [yzX, yzZ]
def y6w (t : ylz) : St := ⟨dd 2 (z9 t.1 :: dd 3 (.box 6 0 :: .dead :: .box 8 0 :: vB t.2.1 :: dd 5 (.own 10000000 :: vI t.2.2.1 :: vI t.2.2.2.1 :: dd 22 []))), [(6, .box [vI t.2.2.2.2.1, vI t.2.2.2.2.2.1, vI t.2.2.2.2.2.2.1, vI t.2.2.2.2.2.2.2.1, vI t.2.2.2.2.2.2.2.2.1]), (8, .box [vI t.2.2.2.2.2.2.2.2.2.1, vI t.2.2.2.2.2.2.2.2.2.2.1, vI t.2.2.2.2.2.2.2.2.2.2.2.1, vI t.2.2.2.2.2.2.2.2.2.2.2.2.1, vI t.2.2.2.2.2.2.2.2.2.2.2.2.2.1]), (10000000, .root true 63 yg t.2.2.2.2.2.2.2.2.2.2.2.2.2.2)]⟩
def yhh : Gk vc := fun κ => Ja (fun t => κ (some 0) ⟨dd 6 (.box 6 0 :: .dead :: .box 8 0 :: vB t.1 :: dd 30 []), [(6, .box [vI t.2.1, vI t.2.2.1, vI t.2.2.2.1, vI t.2.2.2.2.1, vI t.2.2.2.2.2.1]), (8, .box [vI t.2.2.2.2.2.2.1, vI t.2.2.2.2.2.2.2.1, vI t.2.2.2.2.2.2.2.2.1, vI t.2.2.2.2.2.2.2.2.2.1, vI t.2.2.2.2.2.2.2.2.2.2])]⟩)
def yjA : Lp := lpC 3 (unG ylA y6w) @yhh lpN
theorem ypD : LF yjz yjA 118 3 Tryz.f118 0 y6w @yhh fun t => t := fun R κ again t => by kernel_rfl
theorem ypE : LK yjz yjA 118 Tryz.f118 0 := lkN (u := (unG ylA y6w)) (yw fun t => by kernel_rfl) ypD
theorem yuH : EV yjz yjA 118 Tryz.f118 ynA ywG ycf ZW := fun x => by kernel_rfl
def yya : QF := ⟨118, ZW, okN (n := 1) Tryz.func118 ⟨ypE, trivial⟩ yuH⟩
abbrev Wy : Type := ylB
def Wz (k0 : List yb → Option R) (again : Wy → Option R) (t3 : Wy) : Option R :=
 bif (decide (t3.2.2.2.1 < t3.2.2.1)) then Option.bind (Z4 (t3.1, t3.2.1)) fun r1 => bif (decide (r1 < (0 : Int))) then k0 t3.2.2.2.2 else if (List.length t3.2.2.2.2 + List.length ([t3.2.1] : List yb)) * 8 < 140737488355328 then if (0 : Int) ≤ r1 then if r1 < (List.length t3.1 : Int) then again (t3.1, (yK t3.1 r1).2, t3.2.2.1, (Go.IntKind.wrap .i64 (t3.2.2.2.1 + (1 : Int))), (t3.2.2.2.2 ++ ([t3.2.1] : List yb))) else none else none else none else k0 t3.2.2.2.2
def Q7 k0 := zL (@Wz R k0) Y3
def JD (x : yed) : Option (List yb) :=
 Q7 (fun x2 => some x2) (x.1, x.2, (Go.IntKind.wrap .i64 ((List.length x.1 : Int) + (1 : Int))), (0 : Int), ([] : List yb))
def yjB : List QF := [q97]
def y6x (t : ylB) : St := ⟨zl t.1 :: vI t.2.1 :: dd 3 (.own 10000000 :: dd 4 (vI t.2.2.1 :: vI t.2.2.2.1 :: dd 17 [])), [(10000000, .root true 3 yf t.2.2.2.2)]⟩
def yhi : Gk Wy := fun κ => Wz (fun t => κ (some 0) ⟨dd 5 (.own 10000000 :: dd 23 []), [(10000000, .root true 3 yf t)]⟩)
def yjC : Lp := lpC 3 (unG ylC y6x) @yhi lpN
theorem ypF : LF yjB yjC 119 3 Tryz.f119 0 y6x @yhi fun t => t := fun R κ again t => by kernel_rfl
theorem ypG : LK yjB yjC 119 Tryz.f119 0 := lkN (u := (unG ylC y6x)) (yw fun t => by kernel_rfl) ypF
theorem yuI : EV yjB yjC 119 Tryz.f119 ynB yee [(.sl 3 yf)] JD := fun x => by kernel_rfl
def yyb : QF := ⟨119, JD, okN (n := 1) Tryz.func119 ⟨ypG, trivial⟩ yuI⟩
def vd (x : yqC) : Option yce :=
 Option.bind (JD (x.2.2.1, x.2.2.2.2)) fun r1 => Option.bind (ZW (x.1, x.2.1, x.2.2.2.1, r1)) fun r2 => some r2
theorem yA0 : EV [yya, yyb] lpN 77 Tryz.f77 yxj yqD ycf vd := fun x => by kernel_rfl
def q77 : QF := ⟨77, vd, okN (n := 0) Tryz.func77 trivial yA0⟩
def w7 (x : yre) : Option Int :=
 Option.bind (yC (x.2.2.2.2.2.2.1, (0 : Int), (Go.IntKind.wrap .i64 ((List.length x.2.2.2.2.1 : Int) - (1 : Int))))) fun r1 => Option.bind (bif (!r1) then some true else if (0 : Int) ≤ x.2.2.2.2.2.2.1 then if x.2.2.2.2.2.2.1 < (List.length x.2.2.2.2.1 : Int) then Option.bind (yC (x.2.2.2.2.2.2.2, (0 : Int), (Go.IntKind.wrap .i64 ((yc x.2.2.2.2.1 x.2.2.2.2.2.2.1).2.2.1 - (1 : Int))))) fun r3 => some (!r3) else none else none) fun u2 => bif u2 then some (0 : Int) else if (0 : Int) ≤ x.2.2.2.2.2.2.1 then if x.2.2.2.2.2.2.1 < (List.length x.2.2.2.2.1 : Int) then Option.bind (vd (x.1, x.2.1, x.2.2.1, x.2.2.2.2.2.2.2, (yc x.2.2.2.2.1 x.2.2.2.2.2.2.1).2.1)) fun r4 => Option.bind (bif (!r4.2.2.2.2.2) then some true else some (r4.2.2.1 != (1 : Int))) fun u5 => bif u5 then some (0 : Int) else Option.bind (JC (x.2.2.2.1, r4.2.2.2.1, r4.2.2.2.2.1)) fun r6 => some r6.1 else none else none
theorem yA1 : EV [q47, q77, q78] lpN 37 Tryz.f37 yxk yrf [(.int .i64)] w7 := fun x => by kernel_rfl
def q37 : QF := ⟨37, w7, okN (n := 0) Tryz.func37 trivial yA1⟩
def Y7 (x : ykf) : Option ygt :=
 Option.bind (Yq (x.1, x.2.1, x.2.2.1, x.2.2.2.1, x.2.2.2.2.1, x.2.2.2.2.2.1, x.2.2.2.2.2.2.1, x.2.2.2.2.2.2.2, false)) fun r1 => bif (r1.2 != (0 : Int)) then some ((0 : Int), r1.2) else Option.bind (w7 (x.1, x.2.1, x.2.2.1, x.2.2.2.1, x.2.2.2.2.1, x.2.2.2.2.2.1, r1.1, x.2.2.2.2.2.2.2)) fun r2 => some (r2, (0 : Int))
theorem ev9 : EV [q36, q37] lpN 9 Tryz.f9 sg9 ykg yhN Y7 := fun x => by kernel_rfl
def q9 : QF := ⟨9, Y7, okN (n := 0) Tryz.func9 trivial ev9⟩
def w8 (x : Qz1) : Option Int :=
 bif (decide (x.2 < (List.length x.1 : Int))) then if (0 : Int) ≤ x.2 then if x.2 < (List.length x.1 : Int) then some (Go.IntKind.wrap .i64 (yeY x.1 x.2)) else none else none else some (Int.tmod (Go.IntKind.wrap .i64 ((Go.IntKind.wrap .i64 (x.2 * (31 : Int))) + (Go.IntKind.wrap .i64 ((List.length x.1 : Int) * (7 : Int))))) (256 : Int))
theorem yA2 : EV [] lpN 10 Tryz.f10 yxl qz1 [(.int .i64)] w8 := fun x => by kernel_rfl
def q10 : QF := ⟨10, w8, okN (n := 0) Tryz.func10 trivial yA2⟩
def Zy (x : List yb) : Option (List yb) :=
 if (List.length ([] : List yb) + List.length x) * 8 < 140737488355328 then some (([] : List yb) ++ x) else none
theorem yuJ : EV [] lpN 120 Tryz.f120 ynC [(.sl 3 yf)] [(.sl 3 yf)] Zy := fun x => by kernel_rfl
def yyc : QF := ⟨120, Zy, okN (n := 0) Tryz.func120 trivial yuJ⟩
abbrev kg : Type := yhR ⊕ yd5
def Y8 (k0 : Unit → Option R) (k1 : List y9 → Option R) (again : kg → Option R) : kg → Option R
 | .inl t3 => bif (decide (t3.2.2 < t3.2.1)) then if (0 : Int) ≤ t3.2.2 then if t3.2.2 < (List.length t3.1 : Int) then Option.bind (zU (yl t3.1 t3.2.2)) fun r1 => if List.length ([r1] : List y9) * 24 < 140737488355328 then again (Sum.inr (t3.1, t3.2.1, (Go.IntKind.wrap .i64 (t3.2.2 + (1 : Int))), ([r1] : List y9))) else none else none else none else k0 ()
 | .inr t3 => bif (decide (t3.2.2.1 < t3.2.1)) then if (0 : Int) ≤ t3.2.2.1 then if t3.2.2.1 < (List.length t3.1 : Int) then Option.bind (zU (yl t3.1 t3.2.2.1)) fun r2 => if (List.length t3.2.2.2 + List.length ([r2] : List y9)) * 24 < 140737488355328 then again (Sum.inr (t3.1, t3.2.1, (Go.IntKind.wrap .i64 (t3.2.2.1 + (1 : Int))), (t3.2.2.2 ++ ([r2] : List y9)))) else none else none else none else k1 t3.2.2.2
def Vm k0 k1 := zL (@Y8 R k0 k1) Y3
def zu (x : List y9) : Option (List y9) :=
 Vm (fun x3 => some ([] : List y9)) (fun x4 => some x4) (Sum.inl (x, (List.length x : Int), (0 : Int)))
def ydy : List QF := [ytI]
def y2E (t : yhR) : St := ⟨dd 2 (.box 2 0 :: .box 3 0 :: dd 4 (Yg t.1 :: vI t.2.1 :: vI t.2.2 :: dd 12 [])), [(2, .box [.nils]), (3, .box [.nils])]⟩
theorem yfk : ∀ s t, unG yqB y2E s = some t → y2E t = s := yw fun t => by kernel_rfl
def y2F (t : yd5) : St := ⟨dd 2 (.box 2 0 :: .box 3 0 :: dd 4 (Yg t.1 :: vI t.2.1 :: vI t.2.2.1 :: dd 12 [])), [(2, .box [.nils]), (3, .box [.own 10000000]), (10000000, .root true 58 yn t.2.2.2)]⟩
theorem yfl : ∀ s t, unG ylD y2F s = some t → y2F t = s := yw fun t => by kernel_rfl
def y2G : (yhR ⊕ yd5) → St := Sum.elim y2E y2F
def y6y (s : St) : Option (yhR ⊕ yd5) := ((unG yqB y2E s).map Sum.inl).or (((unG ylD y2F) s).map Sum.inr)
theorem yfm : ∀ s t, y6y s = some t → y2G t = s := y95 yfk yfl
def yaF : Gk kg := fun κ => Y8 (fun t => κ (some 0) ⟨dd 2 (.box 2 0 :: .box 3 0 :: dd 19 []), [(2, .box [.nils]), (3, .box [.nils])]⟩) (fun t => κ (some 0) ⟨dd 2 (.box 2 0 :: .box 3 0 :: dd 19 []), [(2, .box [.nils]), (3, .box [.own 10000000]), (10000000, .root true 58 yn t)]⟩)
def ydz : Lp := lpC 3 y6y @yaF lpN
theorem yfn : LF ydy ydz 121 3 Tryz.f121 0 y2G @yaF fun v : yhR => .inl v := fun R κ again v => by kernel_rfl
theorem yfo : LF ydy ydz 121 3 Tryz.f121 0 y2G @yaF fun v : yd5 => .inr v := fun R κ again v => by kernel_rfl
theorem ypH : LF ydy ydz 121 3 Tryz.f121 0 y2G @yaF fun t => t := (LC.sum yfn yfo)
theorem ypI : LK ydy ydz 121 Tryz.f121 0 := lkN (u := y6y) yfm ypH
theorem yuK : EV ydy ydz 121 Tryz.f121 ynD [(.sl 58 yn)] [(.sl 58 yn)] zu := fun x => by kernel_rfl
def yyd : QF := ⟨121, zu, okN (n := 1) Tryz.func121 ⟨ypI, trivial⟩ yuK⟩
abbrev kh : Type := yd6 ⊕ yd7
def Y9 (k0 : List yb → Option R) (k1 : Qz8 → Option R) (again : kh → Option R) : kh → Option R
 | .inl t3 => bif (decide (t3.2.2.1 < t3.2.1)) then if (0 : Int) ≤ t3.2.2.1 then if t3.2.2.1 < (List.length t3.1 : Int) then Option.bind (zu (yd t3.1 t3.2.2.1)) fun r2 => if List.length ([r2] : List y0) * 24 < 140737488355328 then again (Sum.inr (t3.1, t3.2.1, (Go.IntKind.wrap .i64 (t3.2.2.1 + (1 : Int))), t3.2.2.2, ([r2] : List y0))) else none else none else none else k0 t3.2.2.2
 | .inr t3 => bif (decide (t3.2.2.1 < t3.2.1)) then if (0 : Int) ≤ t3.2.2.1 then if t3.2.2.1 < (List.length t3.1 : Int) then Option.bind (zu (yd t3.1 t3.2.2.1)) fun r3 => if (List.length t3.2.2.2.2 + List.length ([r3] : List y0)) * 24 < 140737488355328 then again (Sum.inr (t3.1, t3.2.1, (Go.IntKind.wrap .i64 (t3.2.2.1 + (1 : Int))), t3.2.2.2.1, (t3.2.2.2.2 ++ ([r3] : List y0)))) else none else none else none else k1 t3.2.2.2
def Vn k0 k1 := zL (@Y9 R k0 k1) Y3
def zv (x : Qz8) : Option Qz8 :=
 Option.bind (Zy x.1) fun r1 => Vn (fun x4 => some (x4, ([] : List y0))) (fun x5 => some x5) (Sum.inl (x.2, (List.length x.2 : Int), (0 : Int), r1))
def ypJ : List QF := [yyc, yyd]
def y6z (t : yd6) : St := ⟨dd 2 (.box 2 0 :: .box 3 0 :: dd 7 (yA t.1 :: vI t.2.1 :: vI t.2.2.1 :: dd 12 [])), [(2, .box [.nils, .nils]), (3, .box [.own 10000000, .nils]), (10000000, .root true 3 yf t.2.2.2)]⟩
theorem yjD : ∀ s t, unG ylE y6z s = some t → y6z t = s := yw fun t => by kernel_rfl
def y6A (t : yd7) : St := ⟨dd 2 (.box 2 0 :: .box 3 0 :: dd 7 (yA t.1 :: vI t.2.1 :: vI t.2.2.1 :: dd 12 [])), [(2, .box [.nils, .nils]), (3, .box [.own 10000000, .own 10000001]), (10000000, .root true 3 yf t.2.2.2.1), (10000001, .root true 99 yj t.2.2.2.2)]⟩
theorem yjE : ∀ s t, unG ylF y6A s = some t → y6A t = s := yw fun t => by kernel_rfl
def y6B : (yd6 ⊕ yd7) → St := Sum.elim y6z y6A
def y9p (s : St) : Option (yd6 ⊕ yd7) := ((unG ylE y6z s).map Sum.inl).or (((unG ylF y6A) s).map Sum.inr)
theorem yjF : ∀ s t, y9p s = some t → y6B t = s := y95 yjD yjE
def yfp : Gk kh := fun κ => Y9 (fun t => κ (some 0) ⟨dd 2 (.box 2 0 :: .box 3 0 :: dd 22 []), [(2, .box [.nils, .nils]), (3, .box [.own 10000000, .nils]), (10000000, .root true 3 yf t)]⟩) (fun t => κ (some 0) ⟨dd 2 (.box 2 0 :: .box 3 0 :: dd 22 []), [(2, .box [.nils, .nils]), (3, .box [.own 10000000, .own 10000001]), (10000000, .root true 3 yf t.1), (10000001, .root true 99 yj t.2)]⟩)
def ypK : Lp := lpC 3 y9p @yfp lpN
theorem yjG : LF ypJ ypK 79 3 Tryz.f79 0 y6B @yfp fun v : yd6 => .inl v := fun R κ again v => by kernel_rfl
theorem yjH : LF ypJ ypK 79 3 Tryz.f79 0 y6B @yfp fun v : yd7 => .inr v := fun R κ again v => by kernel_rfl
theorem yuL : LF ypJ ypK 79 3 Tryz.f79 0 y6B @yfp fun t => t := (LC.sum yjG yjH)
theorem yuM : LK ypJ ypK 79 Tryz.f79 0 := lkN (u := y9p) yjF yuL
theorem yA3 : EV ypJ ypK 79 Tryz.f79 yxm qz8 qz8 zv := fun x => by kernel_rfl
def q79 : QF := ⟨79, zv, okN (n := 1) Tryz.func79 ⟨yuM, trivial⟩ yA3⟩
def WA (x : List ya) : Option (List ya) :=
 if (List.length ([] : List ya) + List.length x) * 16 < 140737488355328 then some (([] : List ya) ++ x) else none
theorem yA4 : EV [] lpN 80 Tryz.f80 yxn [(.sl 67 yp)] [(.sl 67 yp)] WA := fun x => by kernel_rfl
def q80 : QF := ⟨80, WA, okN (n := 0) Tryz.func80 trivial yA4⟩
end
end Go.Proofs.YtjllpipmaejeoaaGreat.XR
