/- What functions compute, and that they do; part 0 of U; by a program (dec.py). No condition. -/
import Derived.Test.YtjllpipmaejeoaaGreatXU
set_option linter.all false
namespace Go.Proofs.YtjllpipmaejeoaaGreat.XU
open Go.Proofs.YtjllpipmaejeoaaGreat.R
set_option maxRecDepth 100000
noncomputable section
variable {R : Type}
def y0d (x : List y2D) : Option Bool :=
 some (decide ((List.length x : Int) > (1048576 : Int)))
theorem ev7 : EV [] lpN 7 Tryz.f7 sg7 [(.sl 5 W9)] [.bool] y0d := fun x => by kernel_rfl
def q7 : QF := ⟨7, y0d, okN (n := 0) Tryz.func7 trivial ev7⟩
abbrev Vi : Type := Qz0
def kX (k0 : Qz1 → Option R) (again : Vi → Option R) (t3 : Vi) : Option R :=
 Option.bind (bif (decide (t3.2.2 < (List.length t3.1 : Int))) then some (decide (t3.2.2 < (4000 : Int))) else some false) fun u1 => bif u1 then if (0 : Int) ≤ t3.2.2 then if t3.2.2 < (List.length t3.1 : Int) then again (t3.1, (Go.bits .and .i64 (Go.IntKind.wrap .i64 ((Go.IntKind.wrap .i64 ((Go.IntKind.wrap .i64 (t3.2.1 * (137 : Int))) + (Go.IntKind.wrap .i64 (ygh t3.1 t3.2.2)))) + (11 : Int))) (1073741823 : Int)), (Go.IntKind.wrap .i64 (t3.2.2 + (1 : Int)))) else none else none else k0 (t3.1, t3.2.1)
def y4V k0 := zL (@kX R k0) Y4
def V7 (x : List y2D) : Option Qz0 :=
 y4V (fun x2 => some (x2.1, (0 : Int), x2.2)) (x, (Go.IntKind.wrap .i64 ((941941 : Int) + (List.length x : Int))), (0 : Int))
def ytX : List QF := []
def yaa (t : Qz0) : St := ⟨ygi t.1 :: dd 2 (vI t.2.1 :: vI t.2.2 :: dd 27 []), []⟩
def ypx : Gk Vi := fun κ => kX (fun t => κ (some 0) ⟨ygi t.1 :: dd 2 (vI t.2 :: dd 28 []), []⟩)
def ytY : Lp := lpC 3 (unG qz0 yaa) @ypx lpN
theorem ytZ : LF ytX ytY 32 3 Tryz.f32 0 yaa @ypx fun t => t := fun R κ again t => by kernel_rfl
theorem yu0 : LK ytX ytY 32 Tryz.f32 0 := lkN (u := (unG qz0 yaa)) (yt fun t => by kernel_rfl) ytZ
theorem yAT : EV ytX ytY 32 Tryz.f32 yz0 [(.sl 5 W9)] qz0 V7 := fun x => by kernel_rfl
def q32 : QF := ⟨32, V7, okN (n := 1) Tryz.func32 ⟨yu0, trivial⟩ yAT⟩
def YX (x : Qz0) : Option Qz2 :=
 bif (decide (x.2.1 < (List.length x.1 : Int))) then if (0 : Int) ≤ x.2.1 then if x.2.1 < (List.length x.1 : Int) then some ((Go.bits .and .i64 (Go.IntKind.wrap .i64 ((Go.bits .and .i64 (Go.bits .xor .i64 (Int.fdiv (Go.IntKind.wrap .i64 ((Go.IntKind.wrap .i64 (x.2.2 * (6364136223846793005 : Int))) + (1442695040888963407 : Int))) (2 ^ (min (Int.toNat (33 : Int)) (Go.IntKind.bits .i64)))) (Int.fdiv (Go.IntKind.wrap .i64 ((Go.IntKind.wrap .i64 (x.2.2 * (6364136223846793005 : Int))) + (1442695040888963407 : Int))) (2 ^ (min (Int.toNat (47 : Int)) (Go.IntKind.bits .i64))))) (255 : Int)) + (Go.IntKind.wrap .i64 (ygh x.1 x.2.1)))) (255 : Int)), x.1, (Go.IntKind.wrap .i64 (x.2.1 + (1 : Int))), (Go.IntKind.wrap .i64 ((Go.IntKind.wrap .i64 (x.2.2 * (6364136223846793005 : Int))) + (1442695040888963407 : Int)))) else none else none else some ((Go.bits .and .i64 (Go.bits .xor .i64 (Int.fdiv (Go.IntKind.wrap .i64 ((Go.IntKind.wrap .i64 (x.2.2 * (6364136223846793005 : Int))) + (1442695040888963407 : Int))) (2 ^ (min (Int.toNat (33 : Int)) (Go.IntKind.bits .i64)))) (Int.fdiv (Go.IntKind.wrap .i64 ((Go.IntKind.wrap .i64 (x.2.2 * (6364136223846793005 : Int))) + (1442695040888963407 : Int))) (2 ^ (min (Int.toNat (47 : Int)) (Go.IntKind.bits .i64))))) (255 : Int)), x.1, x.2.1, (Go.IntKind.wrap .i64 ((Go.IntKind.wrap .i64 (x.2.2 * (6364136223846793005 : Int))) + (1442695040888963407 : Int))))
theorem yu1 : EV [] lpN 106 Tryz.f106 ynP qz0 qz2 YX := fun x => by kernel_rfl
def yAU : QF := ⟨106, YX, okN (n := 0) Tryz.func106 trivial yu1⟩
def yy (x : Qz3) : Option Qz2 :=
 bif (decide (x.2.2.2 ≤ (0 : Int))) then some ((0 : Int), x.1, x.2.1, x.2.2.1) else bif (decide (x.2.2.2 ≤ (256 : Int))) then Option.bind (YX (x.1, x.2.1, x.2.2.1)) fun r1 => if x.2.2.2 = 0 then none else some ((Int.tmod r1.1 x.2.2.2), r1.2.1, r1.2.2.1, r1.2.2.2) else Option.bind (YX (x.1, x.2.1, x.2.2.1)) fun r2 => Option.bind (YX r2.2) fun r3 => Option.bind (YX r3.2) fun r4 => if x.2.2.2 = 0 then none else some ((Int.tmod (Go.IntKind.wrap .i64 ((Go.IntKind.wrap .i64 ((Go.IntKind.wrap .i64 (r2.1 * (65536 : Int))) + (Go.IntKind.wrap .i64 (r3.1 * (256 : Int))))) + r4.1)) x.2.2.2), r4.2.1, r4.2.2.1, r4.2.2.2)
theorem yAV : EV [yAU] lpN 69 Tryz.f69 yz1 qz3 qz2 yy := fun x => by kernel_rfl
def q69 : QF := ⟨69, yy, okN (n := 0) Tryz.func69 trivial yAV⟩
def zt (x : Qz4) : Option Qz2 :=
 Option.bind (yy (x.1, x.2.1, x.2.2.1, (List.length x.2.2.2 : Int))) fun r1 => if (0 : Int) ≤ r1.1 then if r1.1 < (List.length x.2.2.2 : Int) then some ((zu x.2.2.2 r1.1), r1.2.1, r1.2.2.1, r1.2.2.2) else none else none
theorem yAW : EV [q69] lpN 71 Tryz.f71 yz2 qz4 qz2 zt := fun x => by kernel_rfl
def q71 : QF := ⟨71, zt, okN (n := 0) Tryz.func71 trivial yAW⟩
def wY (x : Qz5) : Option Qz6 :=
 Option.bind (yy (x.1, x.2.1, x.2.2.1, (List.length x.2.2.2 : Int))) fun r1 => if (0 : Int) ≤ r1.1 then if r1.1 < (List.length x.2.2.2 : Int) then some ((yeh x.2.2.2 r1.1), r1.2.1, r1.2.2.1, r1.2.2.2) else none else none
theorem yAX : EV [q69] lpN 72 Tryz.f72 yz3 qz5 qz6 wY := fun x => by kernel_rfl
def q72 : QF := ⟨72, wY, okN (n := 0) Tryz.func72 trivial yAX⟩
def Yy (x : Qz0) : Option Qz6 :=
 Option.bind (wY (x.1, x.2.1, x.2.2, ([{ data := #[97] }, { data := #[98] }, { data := #[99] }, { data := #[100] }, { data := #[101, 53] }] : List y0c))) fun r1 => some r1
theorem yAY : EV [q72] lpN 73 Tryz.f73 yz4 qz0 qz6 Yy := fun x => by kernel_rfl
def q73 : QF := ⟨73, Yy, okN (n := 0) Tryz.func73 trivial yAY⟩
def Yz (x : Qz0) : Option Qz2 :=
 Option.bind (yy (x.1, x.2.1, x.2.2, (200 : Int))) fun r1 => Option.bind (zt (r1.2.1, r1.2.2.1, r1.2.2.2, ([(0 : Int), (1 : Int), (2 : Int), (7 : Int), (65535 : Int), (Go.IntKind.wrap .i64 ((1 : Int) + r1.1))] : List yb))) fun r2 => some r2
theorem yAZ : EV [q69, q71] lpN 74 Tryz.f74 yz5 qz0 qz2 Yz := fun x => by kernel_rfl
def q74 : QF := ⟨74, Yz, okN (n := 0) Tryz.func74 trivial yAZ⟩
def YC (x : Qz0) : Option Qz7 :=
 Option.bind (zt (x.1, x.2.1, x.2.2, ([(1 : Int), (1 : Int), (1 : Int), (2 : Int), (2 : Int), (3 : Int), (4 : Int), (4 : Int), (4 : Int), (4 : Int), (4 : Int), (4 : Int), (5 : Int), (6 : Int), (7 : Int), (7 : Int), (8 : Int), (9 : Int)] : List yb))) fun r1 => bif (decide (r1.1 < (7 : Int))) then Option.bind (wY (r1.2.1, r1.2.2.1, r1.2.2.2, ([{ data := #[97] }, { data := #[97] }, { data := #[98] }, { data := #[99] }, { data := #[100] }] : List y0c))) fun r2 => bif (r1.1 == (1 : Int)) then bif (r1.1 == (1 : Int)) then Option.bind (zt (r2.2.1, r2.2.2.1, r2.2.2.2, ([(1 : Int), (3 : Int), (4 : Int), (12 : Int), (5 : Int)] : List yb))) fun r3 => some (r1.1, r2.1, (⟨#[]⟩ : ByteArray), r3.1, (0 : Int), r3.2.1, r3.2.2.1, r3.2.2.2) else bif (r1.1 == (2 : Int)) then Option.bind (Yy r2.2) fun r4 => Option.bind (zt (r4.2.1, r4.2.2.1, r4.2.2.2, ([(0 : Int), (0 : Int), (0 : Int), (1 : Int)] : List yb))) fun r5 => some (r1.1, r2.1, r4.1, (0 : Int), r5.1, r5.2.1, r5.2.2.1, r5.2.2.2) else bif (r1.1 == (4 : Int)) then Option.bind (yy (r2.2.1, r2.2.2.1, r2.2.2.2, (5 : Int))) fun r6 => Option.bind (Yz r6.2) fun r7 => some (r1.1, r2.1, (⟨#[]⟩ : ByteArray), r6.1, r7.1, r7.2.1, r7.2.2.1, r7.2.2.2) else bif (r1.1 == (5 : Int)) then Option.bind (yy (r2.2.1, r2.2.2.1, r2.2.2.2, (5 : Int))) fun r8 => some (r1.1, r2.1, (⟨#[]⟩ : ByteArray), r8.1, (0 : Int), r8.2.1, r8.2.2.1, r8.2.2.2) else bif (r1.1 == (8 : Int)) then bif (r1.1 == (8 : Int)) then Option.bind (yy (r2.2.1, r2.2.2.1, r2.2.2.2, (6 : Int))) fun r9 => some (r1.1, r2.1, (⟨#[]⟩ : ByteArray), r9.1, (0 : Int), r9.2.1, r9.2.2.1, r9.2.2.2) else some (r1.1, r2.1, (⟨#[]⟩ : ByteArray), (0 : Int), (0 : Int), r2.2.1, r2.2.2.1, r2.2.2.2) else bif (r1.1 == (9 : Int)) then Option.bind (yy (r2.2.1, r2.2.2.1, r2.2.2.2, (6 : Int))) fun r10 => some (r1.1, r2.1, (⟨#[]⟩ : ByteArray), r10.1, (0 : Int), r10.2.1, r10.2.2.1, r10.2.2.2) else some (r1.1, r2.1, (⟨#[]⟩ : ByteArray), (0 : Int), (0 : Int), r2.2.1, r2.2.2.1, r2.2.2.2) else bif (r1.1 == (6 : Int)) then Option.bind (zt (r2.2.1, r2.2.2.1, r2.2.2.2, ([(1 : Int), (3 : Int), (4 : Int), (12 : Int), (5 : Int)] : List yb))) fun r11 => some (r1.1, r2.1, (⟨#[]⟩ : ByteArray), r11.1, (0 : Int), r11.2.1, r11.2.2.1, r11.2.2.2) else bif (r1.1 == (2 : Int)) then Option.bind (Yy r2.2) fun r12 => Option.bind (zt (r12.2.1, r12.2.2.1, r12.2.2.2, ([(0 : Int), (0 : Int), (0 : Int), (1 : Int)] : List yb))) fun r13 => some (r1.1, r2.1, r12.1, (0 : Int), r13.1, r13.2.1, r13.2.2.1, r13.2.2.2) else bif (r1.1 == (4 : Int)) then Option.bind (yy (r2.2.1, r2.2.2.1, r2.2.2.2, (5 : Int))) fun r14 => Option.bind (Yz r14.2) fun r15 => some (r1.1, r2.1, (⟨#[]⟩ : ByteArray), r14.1, r15.1, r15.2.1, r15.2.2.1, r15.2.2.2) else bif (r1.1 == (5 : Int)) then Option.bind (yy (r2.2.1, r2.2.2.1, r2.2.2.2, (5 : Int))) fun r16 => some (r1.1, r2.1, (⟨#[]⟩ : ByteArray), r16.1, (0 : Int), r16.2.1, r16.2.2.1, r16.2.2.2) else bif (r1.1 == (8 : Int)) then bif (r1.1 == (8 : Int)) then Option.bind (yy (r2.2.1, r2.2.2.1, r2.2.2.2, (6 : Int))) fun r17 => some (r1.1, r2.1, (⟨#[]⟩ : ByteArray), r17.1, (0 : Int), r17.2.1, r17.2.2.1, r17.2.2.2) else some (r1.1, r2.1, (⟨#[]⟩ : ByteArray), (0 : Int), (0 : Int), r2.2.1, r2.2.2.1, r2.2.2.2) else bif (r1.1 == (9 : Int)) then Option.bind (yy (r2.2.1, r2.2.2.1, r2.2.2.2, (6 : Int))) fun r18 => some (r1.1, r2.1, (⟨#[]⟩ : ByteArray), r18.1, (0 : Int), r18.2.1, r18.2.2.1, r18.2.2.2) else some (r1.1, r2.1, (⟨#[]⟩ : ByteArray), (0 : Int), (0 : Int), r2.2.1, r2.2.2.1, r2.2.2.2) else bif (r1.1 == (1 : Int)) then bif (r1.1 == (1 : Int)) then Option.bind (zt (r1.2.1, r1.2.2.1, r1.2.2.2, ([(1 : Int), (3 : Int), (4 : Int), (12 : Int), (5 : Int)] : List yb))) fun r19 => some (r1.1, (⟨#[]⟩ : ByteArray), (⟨#[]⟩ : ByteArray), r19.1, (0 : Int), r19.2.1, r19.2.2.1, r19.2.2.2) else bif (r1.1 == (2 : Int)) then Option.bind (Yy r1.2) fun r20 => Option.bind (zt (r20.2.1, r20.2.2.1, r20.2.2.2, ([(0 : Int), (0 : Int), (0 : Int), (1 : Int)] : List yb))) fun r21 => some (r1.1, (⟨#[]⟩ : ByteArray), r20.1, (0 : Int), r21.1, r21.2.1, r21.2.2.1, r21.2.2.2) else bif (r1.1 == (4 : Int)) then Option.bind (yy (r1.2.1, r1.2.2.1, r1.2.2.2, (5 : Int))) fun r22 => Option.bind (Yz r22.2) fun r23 => some (r1.1, (⟨#[]⟩ : ByteArray), (⟨#[]⟩ : ByteArray), r22.1, r23.1, r23.2.1, r23.2.2.1, r23.2.2.2) else bif (r1.1 == (5 : Int)) then Option.bind (yy (r1.2.1, r1.2.2.1, r1.2.2.2, (5 : Int))) fun r24 => some (r1.1, (⟨#[]⟩ : ByteArray), (⟨#[]⟩ : ByteArray), r24.1, (0 : Int), r24.2.1, r24.2.2.1, r24.2.2.2) else bif (r1.1 == (8 : Int)) then bif (r1.1 == (8 : Int)) then Option.bind (yy (r1.2.1, r1.2.2.1, r1.2.2.2, (6 : Int))) fun r25 => some (r1.1, (⟨#[]⟩ : ByteArray), (⟨#[]⟩ : ByteArray), r25.1, (0 : Int), r25.2.1, r25.2.2.1, r25.2.2.2) else some (r1.1, (⟨#[]⟩ : ByteArray), (⟨#[]⟩ : ByteArray), (0 : Int), (0 : Int), r1.2.1, r1.2.2.1, r1.2.2.2) else bif (r1.1 == (9 : Int)) then Option.bind (yy (r1.2.1, r1.2.2.1, r1.2.2.2, (6 : Int))) fun r26 => some (r1.1, (⟨#[]⟩ : ByteArray), (⟨#[]⟩ : ByteArray), r26.1, (0 : Int), r26.2.1, r26.2.2.1, r26.2.2.2) else some (r1.1, (⟨#[]⟩ : ByteArray), (⟨#[]⟩ : ByteArray), (0 : Int), (0 : Int), r1.2.1, r1.2.2.1, r1.2.2.2) else bif (r1.1 == (6 : Int)) then Option.bind (zt (r1.2.1, r1.2.2.1, r1.2.2.2, ([(1 : Int), (3 : Int), (4 : Int), (12 : Int), (5 : Int)] : List yb))) fun r27 => some (r1.1, (⟨#[]⟩ : ByteArray), (⟨#[]⟩ : ByteArray), r27.1, (0 : Int), r27.2.1, r27.2.2.1, r27.2.2.2) else bif (r1.1 == (2 : Int)) then Option.bind (Yy r1.2) fun r28 => Option.bind (zt (r28.2.1, r28.2.2.1, r28.2.2.2, ([(0 : Int), (0 : Int), (0 : Int), (1 : Int)] : List yb))) fun r29 => some (r1.1, (⟨#[]⟩ : ByteArray), r28.1, (0 : Int), r29.1, r29.2.1, r29.2.2.1, r29.2.2.2) else bif (r1.1 == (4 : Int)) then Option.bind (yy (r1.2.1, r1.2.2.1, r1.2.2.2, (5 : Int))) fun r30 => Option.bind (Yz r30.2) fun r31 => some (r1.1, (⟨#[]⟩ : ByteArray), (⟨#[]⟩ : ByteArray), r30.1, r31.1, r31.2.1, r31.2.2.1, r31.2.2.2) else bif (r1.1 == (5 : Int)) then Option.bind (yy (r1.2.1, r1.2.2.1, r1.2.2.2, (5 : Int))) fun r32 => some (r1.1, (⟨#[]⟩ : ByteArray), (⟨#[]⟩ : ByteArray), r32.1, (0 : Int), r32.2.1, r32.2.2.1, r32.2.2.2) else bif (r1.1 == (8 : Int)) then bif (r1.1 == (8 : Int)) then Option.bind (yy (r1.2.1, r1.2.2.1, r1.2.2.2, (6 : Int))) fun r33 => some (r1.1, (⟨#[]⟩ : ByteArray), (⟨#[]⟩ : ByteArray), r33.1, (0 : Int), r33.2.1, r33.2.2.1, r33.2.2.2) else some (r1.1, (⟨#[]⟩ : ByteArray), (⟨#[]⟩ : ByteArray), (0 : Int), (0 : Int), r1.2.1, r1.2.2.1, r1.2.2.2) else bif (r1.1 == (9 : Int)) then Option.bind (yy (r1.2.1, r1.2.2.1, r1.2.2.2, (6 : Int))) fun r34 => some (r1.1, (⟨#[]⟩ : ByteArray), (⟨#[]⟩ : ByteArray), r34.1, (0 : Int), r34.2.1, r34.2.2.1, r34.2.2.2) else some (r1.1, (⟨#[]⟩ : ByteArray), (⟨#[]⟩ : ByteArray), (0 : Int), (0 : Int), r1.2.1, r1.2.2.1, r1.2.2.2)
theorem yB0 : EV [q69, q71, q72, q73, q74] lpN 35 Tryz.f35 yz6 qz0 qz7 YC := fun x => by kernel_rfl
def q35 : QF := ⟨35, YC, okN (n := 0) Tryz.func35 trivial yB0⟩
def kY (x : Unit) : Option Qz8 :=
 some (([(0 : Int)] : List yb), ([([] : List y9)] : List y0))
theorem yu2 : EV [] lpN 104 Tryz.f104 ynQ [] qz8 kY := fun x => by kernel_rfl
def yB1 : QF := ⟨104, kY, okN (n := 0) Tryz.func104 trivial yu2⟩
def Wa (x : Unit) : Option (List y7) :=
 if (0 : Int) ≤ (24 : Int) then if (24 : Int) ≤ (24 : Int) then if (24 : Int) * ((24 : Nat) : Int) ≤ 140737488351232 then some (List.replicate (Int.toNat (24 : Int)) yo) else none else none else none
theorem yu3 : EV [] lpN 105 Tryz.f105 ynR [] [(.sl 53 yc)] Wa := fun x => by kernel_rfl
def yB2 : QF := ⟨105, Wa, okN (n := 0) Tryz.func105 trivial yu3⟩
def kZ (x : Unit) : Option Qz9 :=
 Option.bind (kY ()) fun r1 => Option.bind (Wa ()) fun r2 => some (r1.1, r1.2, ([] : List ya), r2, ([] : List ye), (1 : Int))
theorem yB3 : EV [yB1, yB2] lpN 68 Tryz.f68 yz7 [] qz9 kZ := fun x => by kernel_rfl
def q68 : QF := ⟨68, kZ, okN (n := 0) Tryz.func68 trivial yB3⟩
def yC (x : ysX) : Option Bool :=
 Option.bind (bif (decide (x.1 ≥ x.2.1)) then some (decide (x.1 ≤ x.2.2)) else some false) fun u1 => some u1
theorem yu4 : EV [] lpN 132 Tryz.f132 ynS ysY [.bool] yC := fun x => by kernel_rfl
def y6j : QF := ⟨132, yC, okN (n := 0) Tryz.func132 trivial yu4⟩
abbrev v7 : Type := ysl
def v8 (k0 : yxU → Option R) (k1 : ByteArray → Option R) (again : v7 → Option R) (t2 : v7) : Option R :=
 bif (decide (t2.2 < ((ByteArray.size t2.1 : Nat) : Int))) then if (0 : Int) ≤ t2.2 then if h1 : Int.toNat t2.2 < ByteArray.size t2.1 then Option.bind (yC ((Go.IntKind.wrap .i64 ((UInt8.toNat (ByteArray.get t2.1 (Int.toNat t2.2) h1) : Nat) : Int)), (97 : Int), (122 : Int))) fun r2 => Option.bind (bif (!r2) then if (0 : Int) ≤ t2.2 then if h4 : Int.toNat t2.2 < ByteArray.size t2.1 then Option.bind (yC ((Go.IntKind.wrap .i64 ((UInt8.toNat (ByteArray.get t2.1 (Int.toNat t2.2) h4) : Nat) : Int)), (48 : Int), (57 : Int))) fun r5 => some (!r5) else none else none else some false) fun u3 => bif u3 then k0 (t2.1, false) else again (t2.1, (Go.IntKind.wrap .i64 (t2.2 + (1 : Int)))) else none else none else k1 t2.1
def Qg k0 k1 := zL (@v8 R k0 k1) Y4
def Yf (x : ByteArray) : Option Bool :=
 Qg (fun x6 => some x6.2) (fun x7 => Option.bind (yC (((ByteArray.size x7 : Nat) : Int), (1 : Int), (6 : Int))) fun r8 => some r8) (x, (0 : Int))
def yjl : List QF := [y6j]
def y6k (t : ysl) : St := ⟨vS t.1 :: dd 2 (vI t.2 :: dd 23 []), []⟩
def yhV : Gk v7 := fun κ => v8 (fun t => κ none ⟨vS t.1 :: .dead :: vB t.2 :: dd 24 [], []⟩) (fun t => κ (some 0) ⟨vS t :: dd 26 [], []⟩)
def yjm : Lp := lpC 2 (unG ysm y6k) @yhV lpN
theorem ypy : LF yjl yjm 131 2 Tryz.f131 0 y6k @yhV fun t => t := fun R κ again t => by kernel_rfl
theorem ypz : LK yjl yjm 131 Tryz.f131 0 := lkN (u := (unG ysm y6k)) (yt fun t => by kernel_rfl) ypy
theorem yu5 : EV yjl yjm 131 Tryz.f131 ynT [.str] [.bool] Yf := fun x => by kernel_rfl
def ysD : QF := ⟨131, Yf, okN (n := 1) Tryz.func131 ⟨ypz, trivial⟩ yu5⟩
def zo (x : Int) : Option Bool :=
 Option.bind (yC (x, (0 : Int), (65535 : Int))) fun r1 => some r1
theorem yu6 : EV [y6j] lpN 133 Tryz.f133 ynU [(.int .i64)] [.bool] zo := fun x => by kernel_rfl
def ysE : QF := ⟨133, zo, okN (n := 0) Tryz.func133 trivial yu6⟩
def YD (x : yxV) : Option Bool :=
 bif (x.1 == (2 : Int)) then Option.bind (bif (x.2.2.2.1 == (0 : Int)) then Option.bind (yC (x.2.2.2.2, (0 : Int), (1 : Int))) fun r2 => some r2 else some false) fun u1 => some u1 else bif (x.1 == (3 : Int)) then bif (x.1 == (3 : Int)) then Option.bind (bif (x.2.2.2.1 == (0 : Int)) then some (x.2.2.2.2 == (0 : Int)) else some false) fun u3 => some u3 else bif (x.1 == (4 : Int)) then some true else some (x.2.2.2.2 == (0 : Int)) else bif (x.1 == (7 : Int)) then Option.bind (bif (x.2.2.2.1 == (0 : Int)) then some (x.2.2.2.2 == (0 : Int)) else some false) fun u4 => some u4 else bif (x.1 == (4 : Int)) then some true else some (x.2.2.2.2 == (0 : Int))
theorem yu7 : EV [y6j] lpN 134 Tryz.f134 ynV yhR [.bool] YD := fun x => by kernel_rfl
def yB4 : QF := ⟨134, YD, okN (n := 0) Tryz.func134 trivial yu7⟩
def v9 (x : yxV) : Option Bool :=
 Option.bind (Yf x.2.1) fun r1 => bif (decide (x.1 ≥ (7 : Int))) then bif (x.1 == (2 : Int)) then Option.bind (Yf x.2.2.1) fun r2 => Option.bind (yC (x.1, (1 : Int), (9 : Int))) fun r3 => Option.bind (bif r3 then some ((ByteArray.toList x.2.1) == (ByteArray.toList ({ data := #[] }))) else some false) fun u4 => Option.bind (bif u4 then some r2 else some false) fun u5 => Option.bind (bif u5 then Option.bind (zo x.2.2.2.1) fun r7 => some r7 else some false) fun u6 => Option.bind (bif u6 then Option.bind (zo x.2.2.2.2) fun r9 => some r9 else some false) fun u8 => Option.bind (bif u8 then Option.bind (YD x) fun r11 => some r11 else some false) fun u10 => some u10 else Option.bind (yC (x.1, (1 : Int), (9 : Int))) fun r12 => Option.bind (bif r12 then some ((ByteArray.toList x.2.1) == (ByteArray.toList ({ data := #[] }))) else some false) fun u13 => Option.bind (bif u13 then some ((ByteArray.toList x.2.2.1) == (ByteArray.toList ({ data := #[] }))) else some false) fun u14 => Option.bind (bif u14 then Option.bind (zo x.2.2.2.1) fun r16 => some r16 else some false) fun u15 => Option.bind (bif u15 then Option.bind (zo x.2.2.2.2) fun r18 => some r18 else some false) fun u17 => Option.bind (bif u17 then Option.bind (YD x) fun r20 => some r20 else some false) fun u19 => some u19 else bif (x.1 == (2 : Int)) then Option.bind (Yf x.2.2.1) fun r21 => Option.bind (yC (x.1, (1 : Int), (9 : Int))) fun r22 => Option.bind (bif r22 then some r1 else some false) fun u23 => Option.bind (bif u23 then some r21 else some false) fun u24 => Option.bind (bif u24 then Option.bind (zo x.2.2.2.1) fun r26 => some r26 else some false) fun u25 => Option.bind (bif u25 then Option.bind (zo x.2.2.2.2) fun r28 => some r28 else some false) fun u27 => Option.bind (bif u27 then Option.bind (YD x) fun r30 => some r30 else some false) fun u29 => some u29 else Option.bind (yC (x.1, (1 : Int), (9 : Int))) fun r31 => Option.bind (bif r31 then some r1 else some false) fun u32 => Option.bind (bif u32 then some ((ByteArray.toList x.2.2.1) == (ByteArray.toList ({ data := #[] }))) else some false) fun u33 => Option.bind (bif u33 then Option.bind (zo x.2.2.2.1) fun r35 => some r35 else some false) fun u34 => Option.bind (bif u34 then Option.bind (zo x.2.2.2.2) fun r37 => some r37 else some false) fun u36 => Option.bind (bif u36 then Option.bind (YD x) fun r39 => some r39 else some false) fun u38 => some u38
theorem yu8 : EV [ysD, y6j, ysE, yB4] lpN 107 Tryz.f107 ynW yhR [.bool] v9 := fun x => by kernel_rfl
def yB5 : QF := ⟨107, v9, okN (n := 0) Tryz.func107 trivial yu8⟩
def wZ (x : ygk) : Option Bool :=
 Option.bind (yC (x.1, (0 : Int), (15 : Int))) fun r1 => Option.bind (bif (!r1) then some true else Option.bind (yC (x.2.1, (1 : Int), (60 : Int))) fun r3 => some (!r3)) fun u2 => Option.bind (bif u2 then some true else Option.bind (yC (x.2.2.1, (0 : Int), (2 : Int))) fun r5 => some (!r5)) fun u4 => bif u4 then some false else bif (x.2.2.1 == (1 : Int)) then Option.bind (yC (x.2.2.2.1, (0 : Int), (23 : Int))) fun r6 => Option.bind (bif r6 then Option.bind (yC (x.2.2.2.2, (0 : Int), (999 : Int))) fun r8 => some r8 else some false) fun u7 => some u7 else Option.bind (bif (x.2.2.2.1 == (0 : Int)) then some (x.2.2.2.2 == (0 : Int)) else some false) fun u9 => some u9
theorem yu9 : EV [y6j] lpN 183 Tryz.f183 ynX qt [.bool] wZ := fun x => by kernel_rfl
def yA3 : QF := ⟨183, wZ, okN (n := 0) Tryz.func183 trivial yu9⟩
def jx (x : ysn) : Option Bool :=
 bif (x.1 != x.2.2.2.2.2.1) then some (decide (x.1 < x.2.2.2.2.2.1)) else some (decide (x.2.1 < x.2.2.2.2.2.2.1))
theorem yua : EV [] lpN 201 Tryz.f201 ynY yso [.bool] jx := fun x => by kernel_rfl
def yA4 : QF := ⟨201, jx, okN (n := 0) Tryz.func201 trivial yua⟩
abbrev Kq : Type := ysp
def je (k0 : Bool → Option R) (k1 : Unit → Option R) (again : Kq → Option R) (t2 : Kq) : Option R :=
 bif (decide (t2.2 < (List.length t2.1 : Int))) then if (0 : Int) ≤ (Go.IntKind.wrap .i64 (t2.2 - (1 : Int))) then if (Go.IntKind.wrap .i64 (t2.2 - (1 : Int))) < (List.length t2.1 : Int) then if (0 : Int) ≤ t2.2 then if t2.2 < (List.length t2.1 : Int) then Option.bind (jx ((y6 t2.1 (Go.IntKind.wrap .i64 (t2.2 - (1 : Int)))).1, (y6 t2.1 (Go.IntKind.wrap .i64 (t2.2 - (1 : Int)))).2.1, (y6 t2.1 (Go.IntKind.wrap .i64 (t2.2 - (1 : Int)))).2.2.1, (y6 t2.1 (Go.IntKind.wrap .i64 (t2.2 - (1 : Int)))).2.2.2.1, (y6 t2.1 (Go.IntKind.wrap .i64 (t2.2 - (1 : Int)))).2.2.2.2, (y6 t2.1 t2.2).1, (y6 t2.1 t2.2).2.1, (y6 t2.1 t2.2).2.2.1, (y6 t2.1 t2.2).2.2.2.1, (y6 t2.1 t2.2).2.2.2.2)) fun r1 => bif (!r1) then k0 false else again (t2.1, (Go.IntKind.wrap .i64 (t2.2 + (1 : Int)))) else none else none else none else none else k1 ()
def qO k0 k1 := zL (@je R k0 k1) Y4
def wd (x : List y8) : Option Bool :=
 qO (fun x2 => some x2) (fun x3 => some true) (x, (1 : Int))
def yjn : List QF := [yA4]
def y6l (t : ysp) : St := ⟨qs t.1 :: dd 2 (vI t.2 :: dd 17 []), []⟩
def yhW : Gk Kq := fun κ => je (fun t => κ none ⟨dd 2 (vB t :: dd 18 []), []⟩) (fun t => κ (some 0) ⟨dd 21 [], []⟩)
def yjo : Lp := lpC 2 (unG ysq y6l) @yhW lpN
theorem ypA : LF yjn yjo 208 2 Tryz.f208 0 y6l @yhW fun t => t := fun R κ again t => by kernel_rfl
theorem ypB : LK yjn yjo 208 Tryz.f208 0 := lkN (u := (unG ysq y6l)) (yt fun t => by kernel_rfl) ypA
theorem yub : EV yjn yjo 208 Tryz.f208 ynZ [(.sl 63 yi)] [.bool] wd := fun x => by kernel_rfl
def yB6 : QF := ⟨208, wd, okN (n := 1) Tryz.func208 ⟨ypB, trivial⟩ yub⟩
abbrev Vj : Type := ysp
def we (k0 : yxW → Option R) (k1 : List y8 → Option R) (again : Vj → Option R) (t2 : Vj) : Option R :=
 bif (decide (t2.2 < (List.length t2.1 : Int))) then if (0 : Int) ≤ t2.2 then if t2.2 < (List.length t2.1 : Int) then Option.bind (wZ ((y6 t2.1 t2.2).1, (y6 t2.1 t2.2).2.1, (y6 t2.1 t2.2).2.2.1, (y6 t2.1 t2.2).2.2.2.1, (y6 t2.1 t2.2).2.2.2.2)) fun r1 => bif (!r1) then k0 (t2.1, false) else again (t2.1, (Go.IntKind.wrap .i64 (t2.2 + (1 : Int)))) else none else none else k1 t2.1
def y0A k0 k1 := zL (@we R k0 k1) Y4
def Kd (x : List y8) : Option Bool :=
 y0A (fun x2 => some x2.2) (fun x3 => Option.bind (wd x3) fun r4 => Option.bind (bif r4 then some (decide ((List.length x3 : Int) ≤ (60 : Int))) else some false) fun u5 => some u5) (x, (0 : Int))
def yjp : List QF := [yA3, yB6]
def y6m (t : ysp) : St := ⟨qs t.1 :: dd 2 (vI t.2 :: dd 19 []), []⟩
def yhX : Gk Vj := fun κ => we (fun t => κ none ⟨qs t.1 :: .dead :: vB t.2 :: dd 20 [], []⟩) (fun t => κ (some 0) ⟨qs t :: dd 22 [], []⟩)
def yjq : Lp := lpC 2 (unG ysq y6m) @yhX lpN
theorem ypC : LF yjp yjq 196 2 Tryz.f196 0 y6m @yhX fun t => t := fun R κ again t => by kernel_rfl
theorem ypD : LK yjp yjq 196 Tryz.f196 0 := lkN (u := (unG ysq y6m)) (yt fun t => by kernel_rfl) ypC
theorem yuc : EV yjp yjq 196 Tryz.f196 yo0 [(.sl 63 yi)] [.bool] Kd := fun x => by kernel_rfl
def yB7 : QF := ⟨196, Kd, okN (n := 1) Tryz.func196 ⟨ypD, trivial⟩ yuc⟩
abbrev Kr : Type := yxX
def jg (k0 : Int → Option R) (again : Kr → Option R) (t3 : Kr) : Option R :=
 bif (decide (t3.2.1 < (List.length t3.2.2 : Int))) then if (0 : Int) ≤ t3.2.1 then if t3.2.1 < (List.length t3.2.2 : Int) then again ((Go.IntKind.wrap .i64 (t3.1 + (List.length (yq t3.2.2 t3.2.1) : Int))), (Go.IntKind.wrap .i64 (t3.2.1 + (1 : Int))), t3.2.2) else none else none else k0 t3.1
def qP k0 := zL (@jg R k0) Y4
def wg (x : List y9) : Option Int :=
 qP (fun x1 => some x1) ((0 : Int), (0 : Int), x)
def yjr : List QF := []
def y6n (t : yxX) : St := ⟨.dead :: .box 1 0 :: .dead :: vI t.1 :: vI t.2.1 :: dd 16 [], [(1, .box [Yr t.2.2])]⟩
def yhY : Gk Kr := fun κ => jg (fun t => κ (some 0) ⟨dd 3 (vI t :: dd 17 []), []⟩)
def yjs : Lp := lpC 3 (unG yxY y6n) @yhY lpN
theorem ypE : LF yjr yjs 197 3 Tryz.f197 0 y6n @yhY fun t => t := fun R κ again t => by kernel_rfl
theorem ypF : LK yjr yjs 197 Tryz.f197 0 := lkN (u := (unG yxY y6n)) (yt fun t => by kernel_rfl) ypE
theorem yud : EV yjr yjs 197 Tryz.f197 yo1 [(.sl 58 yp)] [(.int .i64)] wg := fun x => by kernel_rfl
def yB8 : QF := ⟨197, wg, okN (n := 1) Tryz.func197 ⟨ypF, trivial⟩ yud⟩
abbrev va : Type := yhS
def jS (k0 : yAv → Option R) (k1 : List y9 → Option R) (again : va → Option R) (t2 : va) : Option R :=
 bif (decide (t2.1 < (List.length t2.2 : Int))) then if (0 : Int) ≤ t2.1 then if t2.1 < (List.length t2.2 : Int) then Option.bind (Kd (yq t2.2 t2.1)) fun r1 => Option.bind (bif (!r1) then some true else if (0 : Int) ≤ t2.1 then if t2.1 < (List.length t2.2 : Int) then some ((List.length (yq t2.2 t2.1) : Int) == (0 : Int)) else none else none) fun u2 => bif u2 then k0 (false, t2.2) else again ((Go.IntKind.wrap .i64 (t2.1 + (1 : Int))), t2.2) else none else none else k1 t2.2
def Qh k0 k1 := zL (@jS R k0 k1) Y4
def zp (x : List y9) : Option Bool :=
 Qh (fun x3 => some x3.1) (fun x4 => Option.bind (bif (decide ((List.length x4 : Int) ≤ (3 : Int))) then Option.bind (wg x4) fun r6 => some (decide (r6 ≤ (8 : Int))) else some false) fun u5 => some u5) ((0 : Int), x)
def yjt : List QF := [yB7, yB8]
def y6o (t : yhS) : St := ⟨.dead :: .box 1 0 :: .dead :: vI t.1 :: dd 32 [], [(1, .box [Yr t.2])]⟩
def yhZ : Gk va := fun κ => jS (fun t => κ none ⟨.dead :: .box 1 0 :: vB t.1 :: dd 33 [], [(1, .box [Yr t.2])]⟩) (fun t => κ (some 0) ⟨.dead :: .box 1 0 :: dd 34 [], [(1, .box [Yr t])]⟩)
def yju : Lp := lpC 2 (unG ysr y6o) @yhZ lpN
theorem ypG : LF yjt yju 178 2 Tryz.f178 0 y6o @yhZ fun t => t := fun R κ again t => by kernel_rfl
theorem ypH : LK yjt yju 178 Tryz.f178 0 := lkN (u := (unG ysr y6o)) (yt fun t => by kernel_rfl) ypG
theorem yue : EV yjt yju 178 Tryz.f178 yo2 [(.sl 58 yp)] [.bool] zp := fun x => by kernel_rfl
def yA5 : QF := ⟨178, zp, okN (n := 1) Tryz.func178 ⟨ypH, trivial⟩ yue⟩
abbrev qu : Type := yss
def Wb (k0 : List y8 → Option R) (again : qu → Option R) (t3 : qu) : Option R :=
 bif (decide (t3.2.1 < (List.length t3.1 : Int))) then if (0 : Int) ≤ t3.2.1 then if t3.2.1 < (List.length t3.1 : Int) then bif ((y6 t3.1 t3.2.1).2.2.1 != (0 : Int)) then if (0 : Int) ≤ t3.2.1 then if t3.2.1 < (List.length t3.1 : Int) then if (List.length t3.2.2 + List.length ([((y6 t3.1 t3.2.1).1, (y6 t3.1 t3.2.1).2.1, (y6 t3.1 t3.2.1).2.2.1, (y6 t3.1 t3.2.1).2.2.2.1, (y6 t3.1 t3.2.1).2.2.2.2)] : List y8)) * 40 < 140737488355328 then again (t3.1, (Go.IntKind.wrap .i64 (t3.2.1 + (1 : Int))), (t3.2.2 ++ ([((y6 t3.1 t3.2.1).1, (y6 t3.1 t3.2.1).2.1, (y6 t3.1 t3.2.1).2.2.1, (y6 t3.1 t3.2.1).2.2.2.1, (y6 t3.1 t3.2.1).2.2.2.2)] : List y8))) else none else none else none else again (t3.1, (Go.IntKind.wrap .i64 (t3.2.1 + (1 : Int))), t3.2.2) else none else none else k0 t3.2.2
def y1p k0 := zL (@Wb R k0) Y4
def zW (x : List y8) : Option (List y8) :=
 y1p (fun x1 => some x1) (x, (0 : Int), ([] : List y8))
def yjv : List QF := []
def y6p (t : yss) : St := ⟨qs t.1 :: dd 2 (.own 10000000 :: vI t.2.1 :: dd 21 []), [(10000000, .root true 63 yi t.2.2)]⟩
def yi0 : Gk qu := fun κ => Wb (fun t => κ (some 0) ⟨dd 3 (.own 10000000 :: dd 22 []), [(10000000, .root true 63 yi t)]⟩)
def yjw : Lp := lpC 3 (unG yst y6p) @yi0 lpN
theorem ypI : LF yjv yjw 186 3 Tryz.f186 0 y6p @yi0 fun t => t := fun R κ again t => by kernel_rfl
theorem ypJ : LK yjv yjw 186 Tryz.f186 0 := lkN (u := (unG yst y6p)) (yt fun t => by kernel_rfl) ypI
theorem yuf : EV yjv yjw 186 Tryz.f186 yo3 [(.sl 63 yi)] [(.sl 63 yi)] zW := fun x => by kernel_rfl
def yug : QF := ⟨186, zW, okN (n := 1) Tryz.func186 ⟨ypJ, trivial⟩ yuf⟩
def Zx (x : ysn) : Option Bool :=
 Option.bind (bif (x.1 == x.2.2.2.2.2.1) then some (x.2.1 == x.2.2.2.2.2.2.1) else some false) fun u1 => some u1
theorem yuh : EV [] lpN 202 Tryz.f202 yo4 yso [.bool] Zx := fun x => by kernel_rfl
def yB9 : QF := ⟨202, Zx, okN (n := 0) Tryz.func202 trivial yuh⟩
abbrev Wc : Type := yxZ
def YF (k0 : yy1 → Option R) (again : Wc → Option R) (t4 : Wc) : Option R :=
 bif (decide (t4.2.2.1 < (List.length t4.1 : Int))) then Option.bind (bif (!t4.2.1) then if (0 : Int) ≤ t4.2.2.1 then if t4.2.2.1 < (List.length t4.1 : Int) then Option.bind (jx ((y6 t4.1 t4.2.2.1).1, (y6 t4.1 t4.2.2.1).2.1, (y6 t4.1 t4.2.2.1).2.2.1, (y6 t4.1 t4.2.2.1).2.2.2.1, (y6 t4.1 t4.2.2.1).2.2.2.2, t4.2.2.2.1, t4.2.2.2.2.1, t4.2.2.2.2.2.1, t4.2.2.2.2.2.2.1, t4.2.2.2.2.2.2.2.1)) fun r2 => some (!r2) else none else none else some false) fun u1 => bif u1 then if (List.length t4.2.2.2.2.2.2.2.2 + List.length ([(t4.2.2.2.1, t4.2.2.2.2.1, t4.2.2.2.2.2.1, t4.2.2.2.2.2.2.1, t4.2.2.2.2.2.2.2.1)] : List y8)) * 40 < 140737488355328 then if (0 : Int) ≤ t4.2.2.1 then if t4.2.2.1 < (List.length t4.1 : Int) then Option.bind (Zx ((y6 t4.1 t4.2.2.1).1, (y6 t4.1 t4.2.2.1).2.1, (y6 t4.1 t4.2.2.1).2.2.1, (y6 t4.1 t4.2.2.1).2.2.2.1, (y6 t4.1 t4.2.2.1).2.2.2.2, t4.2.2.2.1, t4.2.2.2.2.1, t4.2.2.2.2.2.1, t4.2.2.2.2.2.2.1, t4.2.2.2.2.2.2.2.1)) fun r3 => bif (!r3) then if (0 : Int) ≤ t4.2.2.1 then if t4.2.2.1 < (List.length t4.1 : Int) then if (List.length (t4.2.2.2.2.2.2.2.2 ++ ([(t4.2.2.2.1, t4.2.2.2.2.1, t4.2.2.2.2.2.1, t4.2.2.2.2.2.2.1, t4.2.2.2.2.2.2.2.1)] : List y8)) + List.length ([((y6 t4.1 t4.2.2.1).1, (y6 t4.1 t4.2.2.1).2.1, (y6 t4.1 t4.2.2.1).2.2.1, (y6 t4.1 t4.2.2.1).2.2.2.1, (y6 t4.1 t4.2.2.1).2.2.2.2)] : List y8)) * 40 < 140737488355328 then again (t4.1, true, (Go.IntKind.wrap .i64 (t4.2.2.1 + (1 : Int))), t4.2.2.2.1, t4.2.2.2.2.1, t4.2.2.2.2.2.1, t4.2.2.2.2.2.2.1, t4.2.2.2.2.2.2.2.1, ((t4.2.2.2.2.2.2.2.2 ++ ([(t4.2.2.2.1, t4.2.2.2.2.1, t4.2.2.2.2.2.1, t4.2.2.2.2.2.2.1, t4.2.2.2.2.2.2.2.1)] : List y8)) ++ ([((y6 t4.1 t4.2.2.1).1, (y6 t4.1 t4.2.2.1).2.1, (y6 t4.1 t4.2.2.1).2.2.1, (y6 t4.1 t4.2.2.1).2.2.2.1, (y6 t4.1 t4.2.2.1).2.2.2.2)] : List y8))) else none else none else none else again (t4.1, true, (Go.IntKind.wrap .i64 (t4.2.2.1 + (1 : Int))), t4.2.2.2.1, t4.2.2.2.2.1, t4.2.2.2.2.2.1, t4.2.2.2.2.2.2.1, t4.2.2.2.2.2.2.2.1, (t4.2.2.2.2.2.2.2.2 ++ ([(t4.2.2.2.1, t4.2.2.2.2.1, t4.2.2.2.2.2.1, t4.2.2.2.2.2.2.1, t4.2.2.2.2.2.2.2.1)] : List y8))) else none else none else none else if (0 : Int) ≤ t4.2.2.1 then if t4.2.2.1 < (List.length t4.1 : Int) then Option.bind (Zx ((y6 t4.1 t4.2.2.1).1, (y6 t4.1 t4.2.2.1).2.1, (y6 t4.1 t4.2.2.1).2.2.1, (y6 t4.1 t4.2.2.1).2.2.2.1, (y6 t4.1 t4.2.2.1).2.2.2.2, t4.2.2.2.1, t4.2.2.2.2.1, t4.2.2.2.2.2.1, t4.2.2.2.2.2.2.1, t4.2.2.2.2.2.2.2.1)) fun r4 => bif (!r4) then if (0 : Int) ≤ t4.2.2.1 then if t4.2.2.1 < (List.length t4.1 : Int) then if (List.length t4.2.2.2.2.2.2.2.2 + List.length ([((y6 t4.1 t4.2.2.1).1, (y6 t4.1 t4.2.2.1).2.1, (y6 t4.1 t4.2.2.1).2.2.1, (y6 t4.1 t4.2.2.1).2.2.2.1, (y6 t4.1 t4.2.2.1).2.2.2.2)] : List y8)) * 40 < 140737488355328 then again (t4.1, t4.2.1, (Go.IntKind.wrap .i64 (t4.2.2.1 + (1 : Int))), t4.2.2.2.1, t4.2.2.2.2.1, t4.2.2.2.2.2.1, t4.2.2.2.2.2.2.1, t4.2.2.2.2.2.2.2.1, (t4.2.2.2.2.2.2.2.2 ++ ([((y6 t4.1 t4.2.2.1).1, (y6 t4.1 t4.2.2.1).2.1, (y6 t4.1 t4.2.2.1).2.2.1, (y6 t4.1 t4.2.2.1).2.2.2.1, (y6 t4.1 t4.2.2.1).2.2.2.2)] : List y8))) else none else none else none else again (t4.1, t4.2.1, (Go.IntKind.wrap .i64 (t4.2.2.1 + (1 : Int))), t4.2.2.2.1, t4.2.2.2.2.1, t4.2.2.2.2.2.1, t4.2.2.2.2.2.2.1, t4.2.2.2.2.2.2.2.1, t4.2.2.2.2.2.2.2.2) else none else none else k0 (t4.2.1, t4.2.2.2)
def vb k0 := zL (@YF R k0) Y4
def zB (x : yy2) : Option (List y8) :=
 vb (fun x5 => bif (!x5.1) then if (List.length x5.2.2.2.2.2.2 + List.length ([(x5.2.1, x5.2.2.1, x5.2.2.2.1, x5.2.2.2.2.1, x5.2.2.2.2.2.1)] : List y8)) * 40 < 140737488355328 then some (x5.2.2.2.2.2.2 ++ ([(x5.2.1, x5.2.2.1, x5.2.2.2.1, x5.2.2.2.2.1, x5.2.2.2.2.2.1)] : List y8)) else none else some x5.2.2.2.2.2.2) (x.1, false, (0 : Int), x.2.1, x.2.2.1, x.2.2.2.1, x.2.2.2.2.1, x.2.2.2.2.2, ([] : List y8))
def yjx : List QF := [yA4, yB9]
def y6q (t : yxZ) : St := ⟨qs t.1 :: dd 2 (.box 3 0 :: .dead :: .own 10000000 :: vB t.2.1 :: vI t.2.2.1 :: dd 43 []), [(3, .box [vI t.2.2.2.1, vI t.2.2.2.2.1, vI t.2.2.2.2.2.1, vI t.2.2.2.2.2.2.1, vI t.2.2.2.2.2.2.2.1]), (10000000, .root true 63 yi t.2.2.2.2.2.2.2.2)]⟩
def yi1 : Gk Wc := fun κ => YF (fun t => κ (some 0) ⟨dd 3 (.box 3 0 :: .dead :: .own 10000000 :: vB t.1 :: dd 44 []), [(3, .box [vI t.2.1, vI t.2.2.1, vI t.2.2.2.1, vI t.2.2.2.2.1, vI t.2.2.2.2.2.1]), (10000000, .root true 63 yi t.2.2.2.2.2.2)]⟩)
def yjy : Lp := lpC 4 (unG yy0 y6q) @yi1 lpN
theorem ypK : LF yjx yjy 187 4 Tryz.f187 0 y6q @yi1 fun t => t := fun R κ again t => by kernel_rfl
theorem ypL : LK yjx yjy 187 Tryz.f187 0 := lkN (u := (unG yy0 y6q)) (yt fun t => by kernel_rfl) ypK
theorem yui : EV yjx yjy 187 Tryz.f187 yo5 yy3 [(.sl 63 yi)] zB := fun x => by kernel_rfl
def yuj : QF := ⟨187, zB, okN (n := 1) Tryz.func187 ⟨ypL, trivial⟩ yui⟩
abbrev Wd : Type := yss
def YY (k0 : List y8 → Option R) (again : Wd → Option R) (t3 : Wd) : Option R :=
 bif (decide (t3.2.1 < (List.length t3.1 : Int))) then if (0 : Int) ≤ t3.2.1 then if t3.2.1 < (List.length t3.1 : Int) then Option.bind (zB (t3.2.2, (y6 t3.1 t3.2.1).1, (y6 t3.1 t3.2.1).2.1, (y6 t3.1 t3.2.1).2.2.1, (y6 t3.1 t3.2.1).2.2.2.1, (y6 t3.1 t3.2.1).2.2.2.2)) fun r1 => again (t3.1, (Go.IntKind.wrap .i64 (t3.2.1 + (1 : Int))), r1) else none else none else k0 t3.2.2
def V8 k0 := zL (@YY R k0) Y4
def YS (x : ysZ) : Option (List y8) :=
 if (List.length ([] : List y8) + List.length x.1) * 40 < 140737488355328 then V8 (fun x2 => some x2) (x.2, (0 : Int), (([] : List y8) ++ x.1)) else none
def yjz : List QF := [yuj]
def y6r (t : yss) : St := ⟨.dead :: qs t.1 :: dd 3 (.own 10000000 :: vI t.2.1 :: dd 16 []), [(10000000, .root true 63 yi t.2.2)]⟩
def yi2 : Gk Wd := fun κ => YY (fun t => κ (some 0) ⟨dd 5 (.own 10000000 :: dd 17 []), [(10000000, .root true 63 yi t)]⟩)
def yjA : Lp := lpC 3 (unG yst y6r) @yi2 lpN
theorem ypM : LF yjz yjA 198 3 Tryz.f198 0 y6r @yi2 fun t => t := fun R κ again t => by kernel_rfl
theorem ypN : LK yjz yjA 198 Tryz.f198 0 := lkN (u := (unG yst y6r)) (yt fun t => by kernel_rfl) ypM
theorem yuk : EV yjz yjA 198 Tryz.f198 yo6 yt0 [(.sl 63 yi)] YS := fun x => by kernel_rfl
def yBa : QF := ⟨198, YS, okN (n := 1) Tryz.func198 ⟨ypN, trivial⟩ yuk⟩
abbrev kn : Type := yy4
def Zy (k0 : List y8 → Option R) (again : kn → Option R) (t3 : kn) : Option R :=
 bif (decide (t3.1 < (List.length t3.2.1 : Int))) then if (0 : Int) ≤ t3.1 then if t3.1 < (List.length t3.2.1 : Int) then Option.bind (YS (t3.2.2, (yq t3.2.1 t3.1))) fun r1 => again ((Go.IntKind.wrap .i64 (t3.1 + (1 : Int))), t3.2.1, r1) else none else none else k0 t3.2.2
def VJ k0 := zL (@Zy R k0) Y4
def yD (x : List y9) : Option (List y8) :=
 VJ (fun x2 => Option.bind (zW x2) fun r3 => some r3) ((0 : Int), x, ([] : List y8))
def yjB : List QF := [yug, yBa]
def y6s (t : yy4) : St := ⟨.dead :: .box 1 0 :: .dead :: .own 10000000 :: vI t.1 :: dd 17 [], [(1, .box [Yr t.2.1]), (10000000, .root true 63 yi t.2.2)]⟩
def yi3 : Gk kn := fun κ => Zy (fun t => κ (some 0) ⟨dd 3 (.own 10000000 :: dd 18 []), [(10000000, .root true 63 yi t)]⟩)
def yjC : Lp := lpC 3 (unG yy5 y6s) @yi3 lpN
theorem ypO : LF yjB yjC 179 3 Tryz.f179 0 y6s @yi3 fun t => t := fun R κ again t => by kernel_rfl
theorem ypP : LK yjB yjC 179 Tryz.f179 0 := lkN (u := (unG yy5 y6s)) (yt fun t => by kernel_rfl) ypO
theorem yul : EV yjB yjC 179 Tryz.f179 yo7 [(.sl 58 yp)] [(.sl 63 yi)] yD := fun x => by kernel_rfl
def yjD : QF := ⟨179, yD, okN (n := 1) Tryz.func179 ⟨ypP, trivial⟩ yul⟩
def JD (x : ylS) : Option Int :=
 some (Go.IntKind.wrap .i64 ((Go.IntKind.wrap .i64 ((64 : Int) * x.1)) + x.2))
theorem yum : EV [] lpN 199 Tryz.f199 yo8 ymk [(.int .i64)] JD := fun x => by kernel_rfl
def yA6 : QF := ⟨199, JD, okN (n := 0) Tryz.func199 trivial yum⟩
def JE (x : ygk) : Option Int :=
 Option.bind (JD (x.1, x.2.1)) fun r1 => some r1
theorem yun : EV [yA6] lpN 180 Tryz.f180 yo9 qt [(.int .i64)] JE := fun x => by kernel_rfl
def yA7 : QF := ⟨180, JE, okN (n := 0) Tryz.func180 trivial yun⟩
abbrev vc : Type := yy6
def jT (k0 : yAw → Option R) (k1 : yt1 → Option R) (again : vc → Option R) (t8 : vc) : Option R :=
 if (0 : Int) ≤ t8.2.1 then if t8.2.1 < (List.length t8.2.2.2.2.2 : Int) then bif (decide (t8.2.2.1 < (List.length (yq t8.2.2.2.2.2 t8.2.1) : Int))) then if (0 : Int) ≤ t8.2.1 then if t8.2.1 < (List.length t8.2.2.2.2.2 : Int) then if (0 : Int) ≤ t8.2.2.1 then if t8.2.2.1 < (List.length (yq t8.2.2.2.2.2 t8.2.1) : Int) then Option.bind (JE ((y6 (yq t8.2.2.2.2.2 t8.2.1) t8.2.2.1).1, (y6 (yq t8.2.2.2.2.2 t8.2.1) t8.2.2.1).2.1, (y6 (yq t8.2.2.2.2.2 t8.2.1) t8.2.2.1).2.2.1, (y6 (yq t8.2.2.2.2.2 t8.2.1) t8.2.2.1).2.2.2.1, (y6 (yq t8.2.2.2.2.2 t8.2.1) t8.2.2.1).2.2.2.2)) fun r5 => if (0 : Int) ≤ t8.1 then if t8.1 < (List.length t8.2.2.2.1 : Int) then Option.bind (bif (decide (r5 < (zu t8.2.2.2.1 t8.1))) then some true else Option.bind (bif (decide ((Go.IntKind.wrap .i64 (t8.1 + (1 : Int))) < (List.length t8.2.2.2.1 : Int))) then if (0 : Int) ≤ (Go.IntKind.wrap .i64 (t8.1 + (1 : Int))) then if (Go.IntKind.wrap .i64 (t8.1 + (1 : Int))) < (List.length t8.2.2.2.1 : Int) then some (decide (r5 ≥ (zu t8.2.2.2.1 (Go.IntKind.wrap .i64 (t8.1 + (1 : Int)))))) else none else none else some false) fun u7 => some u7) fun u6 => bif u6 then k0 (t8.1, false, t8.2.1, t8.2.2.2) else again (t8.1, t8.2.1, (Go.IntKind.wrap .i64 (t8.2.2.1 + (1 : Int))), t8.2.2.2.1, t8.2.2.2.2.1, t8.2.2.2.2.2) else none else none else none else none else none else none else k1 (t8.1, t8.2.1, t8.2.2.2) else none else none
def vd k0 k1 := zL (@jT R k0 k1) Y4
abbrev ve : Type := yt1
def jU (k0 : Bool → Option R) (k1 : Unit → Option R) (again : ve → Option R) (t5 : ve) : Option R :=
 bif (decide (t5.2.1 < (List.length t5.2.2.2.2 : Int))) then vd (fun x8 => k0 x8.2.1) (fun x9 => again (x9.1, (Go.IntKind.wrap .i64 (x9.2.1 + (1 : Int))), x9.2.2.1, x9.2.2.2.1, x9.2.2.2.2)) (t5.1, t5.2.1, (0 : Int), t5.2.2.1, t5.2.2.2.1, t5.2.2.2.2) else k1 ()
def vf k0 k1 := zL (@jU R k0 k1) Y4
def We (x : ylT) : Option Bool :=
 if (0 : Int) ≤ x.2.2 then if x.2.2 < (List.length x.2.1 : Int) then Option.bind (zp (yf x.2.1 x.2.2)) fun r1 => Option.bind (bif (!r1) then some true else Option.bind (bif (decide (x.2.2 > (0 : Int))) then Option.bind (yD (yf x.2.1 x.2.2)) fun r4 => some ((List.length r4 : Int) == (0 : Int)) else some false) fun u3 => some u3) fun u2 => bif u2 then some false else vf (fun x10 => some x10) (fun x11 => some true) (x.2.2, (0 : Int), x.1, x.2.1, (yf x.2.1 x.2.2)) else none else none
def yex : List QF := [yA5, yjD, yA7]
def y6t (t : yy6) : St := ⟨.dead :: vI t.1 :: .box 2 0 :: dd 2 (.box 5 0 :: vI t.2.1 :: vI t.2.2.1 :: dd 70 []), [(2, .box [yT t.2.2.2.1, yx t.2.2.2.2.1]), (5, .box [Yr t.2.2.2.2.2])]⟩
def yi4 : Gk vc := fun κ => jT (fun t => κ none ⟨.dead :: vI t.1 :: .box 2 0 :: .dead :: vB t.2.1 :: .box 5 0 :: vI t.2.2.1 :: dd 71 [], [(2, .box [yT t.2.2.2.1, yx t.2.2.2.2.1]), (5, .box [Yr t.2.2.2.2.2])]⟩) (fun t => κ (some 2) ⟨.dead :: vI t.1 :: .box 2 0 :: dd 2 (.box 5 0 :: vI t.2.1 :: dd 71 []), [(2, .box [yT t.2.2.1, yx t.2.2.2.1]), (5, .box [Yr t.2.2.2.2])]⟩)
def y6u (t : yt1) : St := ⟨.dead :: vI t.1 :: .box 2 0 :: dd 2 (.box 5 0 :: vI t.2.1 :: dd 71 []), [(2, .box [yT t.2.2.1, yx t.2.2.2.1]), (5, .box [Yr t.2.2.2.2])]⟩
def yi5 : Gk ve := fun κ => jU (fun t => κ none ⟨dd 4 (vB t :: dd 73 []), []⟩) (fun t => κ (some 0) ⟨dd 78 [], []⟩)
def yey : Lp := lpC 5 (unG yy8 y6u) @yi5 (lpC 8 (unG yy7 y6t) @yi4 lpN)
theorem ypQ : LF yex yey 159 8 Tryz.f159 1 y6t @yi4 fun t => t := fun R κ again t => by kernel_rfl
theorem ypR : LK yex yey 159 Tryz.f159 1 := lkN (u := (unG yy7 y6t)) (yt fun t => by kernel_rfl) ypQ
theorem ypS : LF yex yey 159 5 Tryz.f159 0 y6u @yi5 fun t => t := fun R κ again t => by kernel_rfl
theorem ypT : LK yex yey 159 Tryz.f159 0 := lkN (u := (unG yy8 y6u)) (yt fun t => by kernel_rfl) ypS
theorem yuo : EV yex yey 159 Tryz.f159 yoa ylU [.bool] We := fun x => by kernel_rfl
def yBb : QF := ⟨159, We, okN (n := 2) Tryz.func159 ⟨ypT, ypR, trivial⟩ yuo⟩
abbrev ko : Type := yy9
def Zz (k0 : List y8 → Option R) (again : ko → Option R) (t3 : ko) : Option R :=
 bif (decide (t3.1 < (List.length t3.2.2.1 : Int))) then if (0 : Int) ≤ t3.1 then if t3.1 < (List.length t3.2.2.1 : Int) then Option.bind (yD (yf t3.2.2.1 t3.1)) fun r1 => if (List.length t3.2.2.2 + List.length r1) * 40 < 140737488355328 then again ((Go.IntKind.wrap .i64 (t3.1 + (1 : Int))), t3.2.1, t3.2.2.1, (t3.2.2.2 ++ r1)) else none else none else none else k0 t3.2.2.2
def VK k0 := zL (@Zz R k0) Y4
def yM (x : Qz8) : Option (List y8) :=
 VK (fun x2 => some x2) ((0 : Int), x.1, x.2, ([] : List y8))
def yjE : List QF := [yjD]
def y6v (t : yy9) : St := ⟨.dead :: .box 1 0 :: .dead :: .own 10000000 :: vI t.1 :: dd 17 [], [(1, .box [yT t.2.1, yx t.2.2.1]), (10000000, .root true 63 yi t.2.2.2)]⟩
def yi6 : Gk ko := fun κ => Zz (fun t => κ (some 0) ⟨dd 3 (.own 10000000 :: dd 18 []), [(10000000, .root true 63 yi t)]⟩)
def yjF : Lp := lpC 3 (unG yya y6v) @yi6 lpN
theorem ypU : LF yjE yjF 160 3 Tryz.f160 0 y6v @yi6 fun t => t := fun R κ again t => by kernel_rfl
theorem ypV : LK yjE yjF 160 Tryz.f160 0 := lkN (u := (unG yya y6v)) (yt fun t => by kernel_rfl) ypU
theorem yup : EV yjE yjF 160 Tryz.f160 yob qz8 [(.sl 63 yi)] yM := fun x => by kernel_rfl
def yjG : QF := ⟨160, yM, okN (n := 1) Tryz.func160 ⟨ypV, trivial⟩ yup⟩
abbrev vg : Type := y9x
def jV (k0 : yAx → Option R) (k1 : Qz8 → Option R) (again : vg → Option R) (t4 : vg) : Option R :=
 bif (decide (t4.1 < (List.length t4.2.2 : Int))) then Option.bind (bif (decide (t4.1 > (0 : Int))) then if (0 : Int) ≤ (Go.IntKind.wrap .i64 (t4.1 - (1 : Int))) then if (Go.IntKind.wrap .i64 (t4.1 - (1 : Int))) < (List.length t4.2.1 : Int) then if (0 : Int) ≤ t4.1 then if t4.1 < (List.length t4.2.1 : Int) then some (decide ((zu t4.2.1 (Go.IntKind.wrap .i64 (t4.1 - (1 : Int)))) ≥ (zu t4.2.1 t4.1))) else none else none else none else none else some false) fun u4 => Option.bind (bif u4 then some true else Option.bind (We (t4.2.1, t4.2.2, t4.1)) fun r6 => some (!r6)) fun u5 => bif u5 then k0 (false, t4.2) else again ((Go.IntKind.wrap .i64 (t4.1 + (1 : Int))), t4.2.1, t4.2.2) else k1 t4.2
def Qi k0 k1 := zL (@jV R k0 k1) Y4
def Yg (x : Qz8) : Option Bool :=
 Option.bind (yC ((List.length x.2 : Int), (1 : Int), (20 : Int))) fun r1 => Option.bind (bif (!r1) then some true else some ((List.length x.1 : Int) != (List.length x.2 : Int))) fun u2 => Option.bind (bif u2 then some true else if (0 : Int) ≤ (0 : Int) then if (0 : Int) < (List.length x.1 : Int) then some ((zu x.1 (0 : Int)) != (0 : Int)) else none else none) fun u3 => bif u3 then some false else Qi (fun x7 => some x7.1) (fun x8 => Option.bind (yM x8) fun r9 => some (decide ((List.length r9 : Int) ≤ (60 : Int)))) ((0 : Int), x.1, x.2)
def yjH : List QF := [y6j, yBb, yjG]
def y6w (t : y9x) : St := ⟨.dead :: .box 1 0 :: .dead :: vI t.1 :: dd 54 [], [(1, .box [yT t.2.1, yx t.2.2])]⟩
def yi7 : Gk vg := fun κ => jV (fun t => κ none ⟨.dead :: .box 1 0 :: vB t.1 :: dd 55 [], [(1, .box [yT t.2.1, yx t.2.2])]⟩) (fun t => κ (some 0) ⟨.dead :: .box 1 0 :: dd 56 [], [(1, .box [yT t.1, yx t.2])]⟩)
def yjI : Lp := lpC 4 (unG yfy y6w) @yi7 lpN
theorem ypW : LF yjH yjI 135 4 Tryz.f135 0 y6w @yi7 fun t => t := fun R κ again t => by kernel_rfl
theorem ypX : LK yjH yjI 135 Tryz.f135 0 := lkN (u := (unG yfy y6w)) (yt fun t => by kernel_rfl) ypW
theorem yuq : EV yjH yjI 135 Tryz.f135 yoc qz8 [.bool] Yg := fun x => by kernel_rfl
def yA8 : QF := ⟨135, Yg, okN (n := 1) Tryz.func135 ⟨ypX, trivial⟩ yuq⟩
abbrev Vk : Type := yt2
def wh (k0 : Int → Option R) (k1 : Unit → Option R) (again : Vk → Option R) (t2 : Vk) : Option R :=
 bif (decide (t2.2.2 < (List.length t2.1 : Int))) then if (0 : Int) ≤ t2.2.2 then if t2.2.2 < (List.length t2.1 : Int) then bif ((yO t2.1 t2.2.2).1 == t2.2.1) then k0 t2.2.2 else again (t2.1, t2.2.1, (Go.IntKind.wrap .i64 (t2.2.2 + (1 : Int)))) else none else none else k1 ()
def y0B k0 k1 := zL (@wh R k0 k1) Y4
def zK (x : yfz) : Option Int :=
 y0B (fun x1 => some x1) (fun x2 => some (-1 : Int)) (x.1, x.2, (0 : Int))
def yjJ : List QF := []
def y6x (t : yt2) : St := ⟨zh t.1 :: vI t.2.1 :: dd 3 (vI t.2.2 :: dd 14 []), []⟩
def yi8 : Gk Vk := fun κ => wh (fun t => κ none ⟨dd 4 (vI t :: dd 15 []), []⟩) (fun t => κ (some 0) ⟨dd 20 [], []⟩)
def yjK : Lp := lpC 2 (unG yt3 y6x) @yi8 lpN
theorem ypY : LF yjJ yjK 161 2 Tryz.f161 0 y6x @yi8 fun t => t := fun R κ again t => by kernel_rfl
theorem ypZ : LK yjJ yjK 161 Tryz.f161 0 := lkN (u := (unG yt3 y6x)) (yt fun t => by kernel_rfl) ypY
theorem yur : EV yjJ yjK 161 Tryz.f161 yod yfA [(.int .i64)] zK := fun x => by kernel_rfl
def ym0 : QF := ⟨161, zK, okN (n := 1) Tryz.func161 ⟨ypZ, trivial⟩ yur⟩
abbrev vh : Type := yfz
def jW (k0 : ysu → Option R) (k1 : List ya → Option R) (again : vh → Option R) (t2 : vh) : Option R :=
 bif (decide (t2.2 < (List.length t2.1 : Int))) then if (0 : Int) ≤ t2.2 then if t2.2 < (List.length t2.1 : Int) then Option.bind (yC ((yO t2.1 t2.2).1, (1 : Int), (60 : Int))) fun r1 => Option.bind (bif (!r1) then some true else Option.bind (bif (decide (t2.2 > (0 : Int))) then if (0 : Int) ≤ (Go.IntKind.wrap .i64 (t2.2 - (1 : Int))) then if (Go.IntKind.wrap .i64 (t2.2 - (1 : Int))) < (List.length t2.1 : Int) then if (0 : Int) ≤ t2.2 then if t2.2 < (List.length t2.1 : Int) then some (decide ((yO t2.1 (Go.IntKind.wrap .i64 (t2.2 - (1 : Int)))).1 ≥ (yO t2.1 t2.2).1)) else none else none else none else none else some false) fun u3 => some u3) fun u2 => bif u2 then k0 (t2.1, false) else if (0 : Int) ≤ t2.2 then if t2.2 < (List.length t2.1 : Int) then Option.bind (bif ((yO t2.1 t2.2).2 != (0 : Int)) then if (0 : Int) ≤ (0 : Int) then if (0 : Int) ≤ t2.2 then if t2.2 ≤ (List.length t2.1 : Int) then if (0 : Int) ≤ t2.2 then if t2.2 < (List.length t2.1 : Int) then Option.bind (zK ((List.drop (Int.toNat (0 : Int)) (List.take (Int.toNat t2.2) t2.1)), (yO t2.1 t2.2).2)) fun r5 => some (decide (r5 < (0 : Int))) else none else none else none else none else none else some false) fun u4 => bif u4 then k0 (t2.1, false) else again (t2.1, (Go.IntKind.wrap .i64 (t2.2 + (1 : Int)))) else none else none else none else none else k1 t2.1
def Qj k0 k1 := zL (@jW R k0 k1) Y4
def YZ (x : List ya) : Option Bool :=
 Qj (fun x6 => some x6.2) (fun x7 => some (decide ((List.length x7 : Int) ≤ (16 : Int)))) (x, (0 : Int))
def yjL : List QF := [y6j, ym0]
def y6y (t : yfz) : St := ⟨zh t.1 :: dd 2 (vI t.2 :: dd 52 []), []⟩
def yi9 : Gk vh := fun κ => jW (fun t => κ none ⟨zh t.1 :: .dead :: vB t.2 :: dd 53 [], []⟩) (fun t => κ (some 0) ⟨zh t :: dd 55 [], []⟩)
def yjM : Lp := lpC 2 (unG yfA y6y) @yi9 lpN
theorem yq0 : LF yjL yjM 136 2 Tryz.f136 0 y6y @yi9 fun t => t := fun R κ again t => by kernel_rfl
theorem yq1 : LK yjL yjM 136 Tryz.f136 0 := lkN (u := (unG yfA y6y)) (yt fun t => by kernel_rfl) yq0
theorem yus : EV yjL yjM 136 Tryz.f136 yoe [(.sl 67 yk)] [.bool] YZ := fun x => by kernel_rfl
def yut : QF := ⟨136, YZ, okN (n := 1) Tryz.func136 ⟨yq1, trivial⟩ yus⟩
abbrev Kt : Type := yhT
def jh (k0 : yyc → Option R) (k1 : List y7 → Option R) (again : Kt → Option R) (t2 : Kt) : Option R :=
 bif (decide (t2.2 < (List.length t2.1 : Int))) then if (0 : Int) ≤ t2.2 then if t2.2 < (List.length t2.1 : Int) then Option.bind (yC ((ym t2.1 t2.2).1, (0 : Int), (999 : Int))) fun r1 => Option.bind (bif (!r1) then some true else if (0 : Int) ≤ t2.2 then if t2.2 < (List.length t2.1 : Int) then Option.bind (zo ((ym t2.1 t2.2).2.2)) fun r3 => some (!r3) else none else none) fun u2 => Option.bind (bif u2 then some true else if (0 : Int) ≤ t2.2 then if t2.2 < (List.length t2.1 : Int) then Option.bind (bif (!((ym t2.1 t2.2).2.1)) then if (0 : Int) ≤ t2.2 then if t2.2 < (List.length t2.1 : Int) then some ((ym t2.1 t2.2).2.2 != (0 : Int)) else none else none else some false) fun u5 => some u5 else none else none) fun u4 => bif u4 then k0 (t2.1, false) else again (t2.1, (Go.IntKind.wrap .i64 (t2.2 + (1 : Int)))) else none else none else k1 t2.1
def qQ k0 k1 := zL (@jh R k0 k1) Y4
def Zk (x : List y7) : Option Bool :=
 qQ (fun x6 => some x6.2) (fun x7 => some ((List.length x7 : Int) == (24 : Int))) (x, (0 : Int))
def yjN : List QF := [y6j, ysE]
def y6z (t : yhT) : St := ⟨yL t.1 :: dd 2 (vI t.2 :: dd 41 []), []⟩
def yia : Gk Kt := fun κ => jh (fun t => κ none ⟨yL t.1 :: .dead :: vB t.2 :: dd 42 [], []⟩) (fun t => κ (some 0) ⟨yL t :: dd 44 [], []⟩)
def yjO : Lp := lpC 2 (unG yhU y6z) @yia lpN
theorem yq2 : LF yjN yjO 137 2 Tryz.f137 0 y6z @yia fun t => t := fun R κ again t => by kernel_rfl
theorem yq3 : LK yjN yjO 137 Tryz.f137 0 := lkN (u := (unG yhU y6z)) (yt fun t => by kernel_rfl) yq2
theorem yuu : EV yjN yjO 137 Tryz.f137 yof [(.sl 53 yc)] [.bool] Zk := fun x => by kernel_rfl
def yuv : QF := ⟨137, Zk, okN (n := 1) Tryz.func137 ⟨yq3, trivial⟩ yuu⟩
abbrev vi : Type := yyd
def jX (k0 : List yb → Option R) (again : vi → Option R) (t3 : vi) : Option R :=
 bif (decide (t3.2.2.1 < (List.length t3.1 : Int))) then if (0 : Int) ≤ t3.2.2.1 then if t3.2.2.1 < (List.length t3.1 : Int) then Option.bind (bif ((yO t3.1 t3.2.2.1).2 == t3.2.1) then some (t3.2.1 != (0 : Int)) else some false) fun u1 => bif u1 then if (0 : Int) ≤ t3.2.2.1 then if t3.2.2.1 < (List.length t3.1 : Int) then if (List.length t3.2.2.2 + List.length ([(yO t3.1 t3.2.2.1).1] : List yb)) * 8 < 140737488355328 then again (t3.1, t3.2.1, (Go.IntKind.wrap .i64 (t3.2.2.1 + (1 : Int))), (t3.2.2.2 ++ ([(yO t3.1 t3.2.2.1).1] : List yb))) else none else none else none else again (t3.1, t3.2.1, (Go.IntKind.wrap .i64 (t3.2.2.1 + (1 : Int))), t3.2.2.2) else none else none else k0 t3.2.2.2
def Qk k0 := zL (@jX R k0) Y4
def j7 (x : yfz) : Option (List yb) :=
 Qk (fun x2 => some x2) (x.1, x.2, (0 : Int), ([] : List yb))
def yjP : List QF := []
def y6A (t : yyd) : St := ⟨zh t.1 :: vI t.2.1 :: dd 3 (.own 10000000 :: vI t.2.2.1 :: dd 27 []), [(10000000, .root true 3 yd t.2.2.2)]⟩
def yib : Gk vi := fun κ => jX (fun t => κ (some 0) ⟨dd 5 (.own 10000000 :: dd 28 []), [(10000000, .root true 3 yd t)]⟩)
def yjQ : Lp := lpC 3 (unG yye y6A) @yib lpN
theorem yq4 : LF yjP yjQ 162 3 Tryz.f162 0 y6A @yib fun t => t := fun R κ again t => by kernel_rfl
theorem yq5 : LK yjP yjQ 162 Tryz.f162 0 := lkN (u := (unG yye y6A)) (yt fun t => by kernel_rfl) yq4
theorem yuw : EV yjP yjQ 162 Tryz.f162 yog yfA [(.sl 3 yd)] j7 := fun x => by kernel_rfl
def yux : QF := ⟨162, j7, okN (n := 1) Tryz.func162 ⟨yq5, trivial⟩ yuw⟩
abbrev Ku : Type := yyf
def ji (k0 : yt4 → Option R) (k1 : yek → Option R) (again : Ku → Option R) (t8 : Ku) : Option R :=
 bif (decide (t8.2.1 < t8.1)) then if (0 : Int) ≤ t8.2.1 then if t8.2.1 < (List.length t8.2.2.2.2.2.2.1 : Int) then bif ((yj t8.2.2.2.2.2.2.1 t8.2.1).2.1 == t8.2.2.2.2.2.2.2.2.2.1) then k0 (false, t8.1, t8.2.2.1, t8.2.2.2.1, t8.2.2.2.2.1, t8.2.2.2.2.2.1, t8.2.2.2.2.2.2.1, t8.2.2.2.2.2.2.2.1) else again (t8.1, (Go.IntKind.wrap .i64 (t8.2.1 + (1 : Int))), t8.2.2.1, t8.2.2.2.1, t8.2.2.2.2.1, t8.2.2.2.2.2.1, t8.2.2.2.2.2.2.1, t8.2.2.2.2.2.2.2.1, t8.2.2.2.2.2.2.2.2.1, t8.2.2.2.2.2.2.2.2.2.1, t8.2.2.2.2.2.2.2.2.2.2.1, t8.2.2.2.2.2.2.2.2.2.2.2) else none else none else k1 (t8.1, t8.2.2.1, t8.2.2.2.1, t8.2.2.2.2.1, t8.2.2.2.2.2.1, t8.2.2.2.2.2.2.1, t8.2.2.2.2.2.2.2.1)
def Kv k0 k1 := zL (@ji R k0 k1) Y4
abbrev Kw : Type := yek
def jj (k0 : yjd → Option R) (k1 : Qz9 → Option R) (again : Kw → Option R) (t2 : Kw) : Option R :=
 bif (decide (t2.1 < (List.length t2.2.2.2.2.2.1 : Int))) then if (0 : Int) ≤ t2.1 then if t2.1 < (List.length t2.2.2.2.2.2.1 : Int) then Option.bind (Yf ((yj t2.2.2.2.2.2.1 t2.1).1)) fun r1 => Option.bind (bif (!r1) then some true else Option.bind (yC ((yj t2.2.2.2.2.2.1 t2.1).2.2.1, (1 : Int), (12 : Int))) fun r3 => some (!r3)) fun u2 => Option.bind (bif u2 then some true else Option.bind (zK (t2.2.2.2.1, (yj t2.2.2.2.2.2.1 t2.1).2.1)) fun r5 => some (decide (r5 < (0 : Int)))) fun u4 => Option.bind (bif u4 then some true else Option.bind (j7 (t2.2.2.2.1, (yj t2.2.2.2.2.2.1 t2.1).2.1)) fun r7 => some (decide ((List.length r7 : Int) > (0 : Int)))) fun u6 => Option.bind (bif u6 then some true else Option.bind (bif (decide (t2.1 > (0 : Int))) then if (0 : Int) ≤ (Go.IntKind.wrap .i64 (t2.1 - (1 : Int))) then if (Go.IntKind.wrap .i64 (t2.1 - (1 : Int))) < (List.length t2.2.2.2.2.2.1 : Int) then some (!Go.Op.bytesLess (ByteArray.toList ((yj t2.2.2.2.2.2.1 (Go.IntKind.wrap .i64 (t2.1 - (1 : Int)))).1)) (ByteArray.toList ((yj t2.2.2.2.2.2.1 t2.1).1))) else none else none else some false) fun u9 => some u9) fun u8 => bif u8 then k0 (false, t2.2) else Kv (fun x10 => k0 (x10.1, x10.2.2)) (fun x11 => again ((Go.IntKind.wrap .i64 (x11.1 + (1 : Int))), x11.2.1, x11.2.2.1, x11.2.2.2.1, x11.2.2.2.2.1, x11.2.2.2.2.2.1, x11.2.2.2.2.2.2)) (t2.1, (0 : Int), t2.2.1, t2.2.2.1, t2.2.2.2.1, t2.2.2.2.2.1, t2.2.2.2.2.2.1, t2.2.2.2.2.2.2, (yj t2.2.2.2.2.2.1 t2.1).1, (yj t2.2.2.2.2.2.1 t2.1).2.1, (yj t2.2.2.2.2.2.1 t2.1).2.2.1, (yj t2.2.2.2.2.2.1 t2.1).2.2.2) else none else none else k1 t2.2
def qR k0 k1 := zL (@jj R k0 k1) Y4
def wi (x : Qz9) : Option Bool :=
 qR (fun x12 => some x12.1) (fun x13 => some (decide ((List.length x13.2.2.2.2.1 : Int) ≤ (6 : Int)))) ((0 : Int), x.1, x.2.1, x.2.2.1, x.2.2.2.1, x.2.2.2.2.1, x.2.2.2.2.2)
def yez : List QF := [ysD, y6j, ym0, yux]
def y6B (t : yyf) : St := ⟨.dead :: .box 1 0 :: .dead :: vI t.1 :: .box 4 0 :: vI t.2.1 :: dd 73 [], [(1, .box [yT t.2.2.1, yx t.2.2.2.1, zh t.2.2.2.2.1, yL t.2.2.2.2.2.1, zH t.2.2.2.2.2.2.1, vI t.2.2.2.2.2.2.2.1]), (4, .box [vS t.2.2.2.2.2.2.2.2.1, vI t.2.2.2.2.2.2.2.2.2.1, vI t.2.2.2.2.2.2.2.2.2.2.1, vB t.2.2.2.2.2.2.2.2.2.2.2])]⟩
def yic : Gk Ku := fun κ => ji (fun t => κ none ⟨.dead :: .box 1 0 :: vB t.1 :: vI t.2.1 :: dd 75 [], [(1, .box [yT t.2.2.1, yx t.2.2.2.1, zh t.2.2.2.2.1, yL t.2.2.2.2.2.1, zH t.2.2.2.2.2.2.1, vI t.2.2.2.2.2.2.2])]⟩) (fun t => κ (some 2) ⟨.dead :: .box 1 0 :: .dead :: vI t.1 :: dd 75 [], [(1, .box [yT t.2.1, yx t.2.2.1, zh t.2.2.2.1, yL t.2.2.2.2.1, zH t.2.2.2.2.2.1, vI t.2.2.2.2.2.2])]⟩)
def y6C (t : yek) : St := ⟨.dead :: .box 1 0 :: .dead :: vI t.1 :: dd 75 [], [(1, .box [yT t.2.1, yx t.2.2.1, zh t.2.2.2.1, yL t.2.2.2.2.1, zH t.2.2.2.2.2.1, vI t.2.2.2.2.2.2])]⟩
def yid : Gk Kw := fun κ => jj (fun t => κ none ⟨.dead :: .box 1 0 :: vB t.1 :: dd 76 [], [(1, .box [yT t.2.1, yx t.2.2.1, zh t.2.2.2.1, yL t.2.2.2.2.1, zH t.2.2.2.2.2.1, vI t.2.2.2.2.2.2])]⟩) (fun t => κ (some 0) ⟨.dead :: .box 1 0 :: dd 77 [], [(1, .box [yT t.1, yx t.2.1, zh t.2.2.1, yL t.2.2.2.1, zH t.2.2.2.2.1, vI t.2.2.2.2.2])]⟩)
def yeA : Lp := lpC 2 (unG ylV y6C) @yid (lpC 8 (unG yyg y6B) @yic lpN)
theorem yq6 : LF yez yeA 138 8 Tryz.f138 1 y6B @yic fun t => t := fun R κ again t => by kernel_rfl
theorem yq7 : LK yez yeA 138 Tryz.f138 1 := lkN (u := (unG yyg y6B)) (yt fun t => by kernel_rfl) yq6
theorem yq8 : LF yez yeA 138 2 Tryz.f138 0 y6C @yid fun t => t := fun R κ again t => by kernel_rfl
theorem yq9 : LK yez yeA 138 Tryz.f138 0 := lkN (u := (unG ylV y6C)) (yt fun t => by kernel_rfl) yq8
theorem yuy : EV yez yeA 138 Tryz.f138 yoh qz9 [.bool] wi := fun x => by kernel_rfl
def yBc : QF := ⟨138, wi, okN (n := 2) Tryz.func138 ⟨yq9, yq7, trivial⟩ yuy⟩
def JF (x : ylW) : Option yyh :=
 Option.bind (yC (x.2.1, (0 : Int), (Go.IntKind.wrap .i64 ((List.length x.1 : Int) - (1 : Int))))) fun r1 => Option.bind (bif (!r1) then some true else if (0 : Int) ≤ x.2.1 then if x.2.1 < (List.length x.1 : Int) then some (!((ym x.1 x.2.1).2.1)) else none else none) fun u2 => Option.bind (bif u2 then some true else if (0 : Int) ≤ x.2.1 then if x.2.1 < (List.length x.1 : Int) then some ((ym x.1 x.2.1).1 != x.2.2) else none else none) fun u3 => bif u3 then some ((0 : Int), false) else if (0 : Int) ≤ x.2.1 then if x.2.1 < (List.length x.1 : Int) then some ((ym x.1 x.2.1).2.2, true) else none else none
theorem yuz : EV [y6j] lpN 163 Tryz.f163 yoi ylX yyi JF := fun x => by kernel_rfl
def yBd : QF := ⟨163, JF, okN (n := 0) Tryz.func163 trivial yuz⟩
abbrev Wf : Type := ylW
def Z0 (k0 : Int → Option R) (again : Wf → Option R) (t3 : Wf) : Option R :=
 bif (decide (t3.2.2 < (List.length t3.1 : Int))) then if (0 : Int) ≤ t3.2.2 then if t3.2.2 < (List.length t3.1 : Int) then bif (ym t3.1 t3.2.2).2.1 then again (t3.1, (Go.IntKind.wrap .i64 (t3.2.1 + (1 : Int))), (Go.IntKind.wrap .i64 (t3.2.2 + (1 : Int)))) else again (t3.1, t3.2.1, (Go.IntKind.wrap .i64 (t3.2.2 + (1 : Int)))) else none else none else k0 t3.2.1
def V9 k0 := zL (@Z0 R k0) Y4
def jk (x : List y7) : Option Int :=
 V9 (fun x1 => some x1) (x, (0 : Int), (0 : Int))
def yjR : List QF := []
def y6D (t : ylW) : St := ⟨yL t.1 :: dd 2 (vI t.2.1 :: vI t.2.2 :: dd 14 []), []⟩
def yie : Gk Wf := fun κ => Z0 (fun t => κ (some 0) ⟨dd 3 (vI t :: dd 15 []), []⟩)
def yjS : Lp := lpC 3 (unG ylX y6D) @yie lpN
theorem yqa : LF yjR yjS 164 3 Tryz.f164 0 y6D @yie fun t => t := fun R κ again t => by kernel_rfl
theorem yqb : LK yjR yjS 164 Tryz.f164 0 := lkN (u := (unG ylX y6D)) (yt fun t => by kernel_rfl) yqa
theorem yuA : EV yjR yjS 164 Tryz.f164 yoj [(.sl 53 yc)] [(.int .i64)] jk := fun x => by kernel_rfl
def yBe : QF := ⟨164, jk, okN (n := 1) Tryz.func164 ⟨yqb, trivial⟩ yuA⟩
abbrev kp : Type := yt6
def ZA (k0 : yAy → Option R) (k1 : yje → Option R) (again : kp → Option R) (t14 : kp) : Option R :=
 bif (decide (t14.2.2.1 < t14.2.1)) then if (0 : Int) ≤ t14.2.2.1 then if t14.2.2.1 < (List.length t14.2.2.2.2.2.2.2.2.2 : Int) then Option.bind (bif ((y6 t14.2.2.2.2.2.2.2.2.2 t14.2.2.1).2.2.1 == (1 : Int)) then if (0 : Int) ≤ t14.2.2.1 then if t14.2.2.1 < (List.length t14.2.2.2.2.2.2.2.2.2 : Int) then if (0 : Int) ≤ t14.2.1 then if t14.2.1 < (List.length t14.2.2.2.2.2.2.2.2.2 : Int) then some ((y6 t14.2.2.2.2.2.2.2.2.2 t14.2.2.1).2.2.2.1 == (y6 t14.2.2.2.2.2.2.2.2.2 t14.2.1).2.2.2.1) else none else none else none else none else some false) fun u4 => bif u4 then k0 (false, t14.1, t14.2.1, t14.2.2.2) else again (t14.1, t14.2.1, (Go.IntKind.wrap .i64 (t14.2.2.1 + (1 : Int))), t14.2.2.2.1, t14.2.2.2.2.1, t14.2.2.2.2.2.1, t14.2.2.2.2.2.2.1, t14.2.2.2.2.2.2.2.1, t14.2.2.2.2.2.2.2.2.1, t14.2.2.2.2.2.2.2.2.2) else none else none else k1 (t14.1, t14.2.1, t14.2.2.2)
def kq k0 k1 := zL (@ZA R k0 k1) Y4
abbrev Kx : Type := yje
def jl (k0 : yt4 → Option R) (k1 : yek → Option R) (again : Kx → Option R) (t4 : Kx) : Option R :=
 bif (decide (t4.2.1 < (List.length t4.2.2.2.2.2.2.2.2 : Int))) then if (0 : Int) ≤ t4.2.1 then if t4.2.1 < (List.length t4.2.2.2.2.2.2.2.2 : Int) then Option.bind (zK (t4.2.2.2.2.1, (y6 t4.2.2.2.2.2.2.2.2 t4.2.1).2.1)) fun r2 => bif (decide (r2 < (0 : Int))) then k0 (false, t4.1, t4.2.2.1, t4.2.2.2.1, t4.2.2.2.2.1, t4.2.2.2.2.2.1, t4.2.2.2.2.2.2.1, t4.2.2.2.2.2.2.2.1) else if (0 : Int) ≤ t4.2.1 then if t4.2.1 < (List.length t4.2.2.2.2.2.2.2.2 : Int) then bif ((y6 t4.2.2.2.2.2.2.2.2 t4.2.1).2.2.1 != (1 : Int)) then again (t4.1, (Go.IntKind.wrap .i64 (t4.2.1 + (1 : Int))), t4.2.2.1, t4.2.2.2.1, t4.2.2.2.2.1, t4.2.2.2.2.2.1, t4.2.2.2.2.2.2.1, t4.2.2.2.2.2.2.2.1, t4.2.2.2.2.2.2.2.2) else if (0 : Int) ≤ t4.2.1 then if t4.2.1 < (List.length t4.2.2.2.2.2.2.2.2 : Int) then if (0 : Int) ≤ t4.2.1 then if t4.2.1 < (List.length t4.2.2.2.2.2.2.2.2 : Int) then Option.bind (JF (t4.2.2.2.2.2.1, (y6 t4.2.2.2.2.2.2.2.2 t4.2.1).2.2.2.1, (y6 t4.2.2.2.2.2.2.2.2 t4.2.1).2.2.2.2)) fun r3 => bif (!r3.2) then k0 (false, (Go.IntKind.wrap .i64 (t4.1 + (1 : Int))), t4.2.2.1, t4.2.2.2.1, t4.2.2.2.2.1, t4.2.2.2.2.2.1, t4.2.2.2.2.2.2.1, t4.2.2.2.2.2.2.2.1) else kq (fun x5 => k0 (x5.1, x5.2.1, x5.2.2.2.1, x5.2.2.2.2.1, x5.2.2.2.2.2.1, x5.2.2.2.2.2.2.1, x5.2.2.2.2.2.2.2.1, x5.2.2.2.2.2.2.2.2.1)) (fun x6 => again (x6.1, (Go.IntKind.wrap .i64 (x6.2.1 + (1 : Int))), x6.2.2.1, x6.2.2.2.1, x6.2.2.2.2.1, x6.2.2.2.2.2.1, x6.2.2.2.2.2.2.1, x6.2.2.2.2.2.2.2.1, x6.2.2.2.2.2.2.2.2)) ((Go.IntKind.wrap .i64 (t4.1 + (1 : Int))), t4.2.1, (0 : Int), t4.2.2.1, t4.2.2.2.1, t4.2.2.2.2.1, t4.2.2.2.2.2.1, t4.2.2.2.2.2.2.1, t4.2.2.2.2.2.2.2.1, t4.2.2.2.2.2.2.2.2) else none else none else none else none else none else none else none else none else k1 (t4.1, t4.2.2.1, t4.2.2.2.1, t4.2.2.2.2.1, t4.2.2.2.2.2.1, t4.2.2.2.2.2.2.1, t4.2.2.2.2.2.2.2.1)
def qS k0 k1 := zL (@jl R k0 k1) Y4
def wj (x : Qz9) : Option Bool :=
 Option.bind (yM (x.1, x.2.1)) fun r1 => qS (fun x7 => some x7.1) (fun x8 => Option.bind (jk x8.2.2.2.2.1) fun r9 => some (x8.1 == r9)) ((0 : Int), (0 : Int), x.1, x.2.1, x.2.2.1, x.2.2.2.1, x.2.2.2.2.1, x.2.2.2.2.2, r1)
def yeB : List QF := [yjG, ym0, yBd, yBe]
def y3X (t : yt6) : St := ⟨.dead :: .box 1 0 :: .dead :: .own 10000000 :: vI t.1 :: vI t.2.1 :: dd 2 (vI t.2.2.1 :: dd 73 []), [(1, .box [yT t.2.2.2.1, yx t.2.2.2.2.1, zh t.2.2.2.2.2.1, yL t.2.2.2.2.2.2.1, zH t.2.2.2.2.2.2.2.1, vI t.2.2.2.2.2.2.2.2.1]), (10000000, .root true 63 yi t.2.2.2.2.2.2.2.2.2)]⟩
def yeC : Gk kp := fun κ => ZA (fun t => κ none ⟨.dead :: .box 1 0 :: vB t.1 :: .own 10000000 :: vI t.2.1 :: vI t.2.2.1 :: dd 76 [], [(1, .box [yT t.2.2.2.1, yx t.2.2.2.2.1, zh t.2.2.2.2.2.1, yL t.2.2.2.2.2.2.1, zH t.2.2.2.2.2.2.2.1, vI t.2.2.2.2.2.2.2.2.1]), (10000000, .root true 63 yi t.2.2.2.2.2.2.2.2.2)]⟩) (fun t => κ (some 2) ⟨.dead :: .box 1 0 :: .dead :: .own 10000000 :: vI t.1 :: vI t.2.1 :: dd 76 [], [(1, .box [yT t.2.2.1, yx t.2.2.2.1, zh t.2.2.2.2.1, yL t.2.2.2.2.2.1, zH t.2.2.2.2.2.2.1, vI t.2.2.2.2.2.2.2.1]), (10000000, .root true 63 yi t.2.2.2.2.2.2.2.2)]⟩)
def y6E (t : yje) : St := ⟨.dead :: .box 1 0 :: .dead :: .own 10000000 :: vI t.1 :: vI t.2.1 :: dd 76 [], [(1, .box [yT t.2.2.1, yx t.2.2.2.1, zh t.2.2.2.2.1, yL t.2.2.2.2.2.1, zH t.2.2.2.2.2.2.1, vI t.2.2.2.2.2.2.2.1]), (10000000, .root true 63 yi t.2.2.2.2.2.2.2.2)]⟩
def yif : Gk Kx := fun κ => jl (fun t => κ none ⟨.dead :: .box 1 0 :: vB t.1 :: .dead :: vI t.2.1 :: dd 77 [], [(1, .box [yT t.2.2.1, yx t.2.2.2.1, zh t.2.2.2.2.1, yL t.2.2.2.2.2.1, zH t.2.2.2.2.2.2.1, vI t.2.2.2.2.2.2.2])]⟩) (fun t => κ (some 0) ⟨.dead :: .box 1 0 :: dd 2 (vI t.1 :: dd 77 []), [(1, .box [yT t.2.1, yx t.2.2.1, zh t.2.2.2.1, yL t.2.2.2.2.1, zH t.2.2.2.2.2.1, vI t.2.2.2.2.2.2])]⟩)
def yeD : Lp := lpC 4 (unG ylY y6E) @yif (lpC 14 (unG yyj y3X) @yeC lpN)
theorem yjT : LF yeB yeD 139 14 Tryz.f139 1 y3X @yeC fun t => t := fun R κ again t => by kernel_rfl
theorem yjU : LK yeB yeD 139 Tryz.f139 1 := lkN (u := (unG yyj y3X)) (yt fun t => by kernel_rfl) yjT
theorem yqc : LF yeB yeD 139 4 Tryz.f139 0 y6E @yif fun t => t := fun R κ again t => by kernel_rfl
theorem yqd : LK yeB yeD 139 Tryz.f139 0 := lkN (u := (unG ylY y6E)) (yt fun t => by kernel_rfl) yqc
theorem yuB : EV yeB yeD 139 Tryz.f139 yok qz9 [.bool] wj := fun x => by kernel_rfl
def yBf : QF := ⟨139, wj, okN (n := 2) Tryz.func139 ⟨yqd, yjU, trivial⟩ yuB⟩
abbrev vj : Type := yek
def jY (k0 : yjd → Option R) (k1 : Qz9 → Option R) (again : vj → Option R) (t2 : vj) : Option R :=
 bif (decide (t2.1 < (List.length t2.2.2.2.1 : Int))) then if (0 : Int) ≤ t2.1 then if t2.1 < (List.length t2.2.2.2.1 : Int) then bif (decide ((yO t2.2.2.2.1 t2.1).1 ≥ t2.2.2.2.2.2.2)) then k0 (false, t2.2) else again ((Go.IntKind.wrap .i64 (t2.1 + (1 : Int))), t2.2.1, t2.2.2.1, t2.2.2.2.1, t2.2.2.2.2.1, t2.2.2.2.2.2.1, t2.2.2.2.2.2.2) else none else none else k1 t2.2
def Ql k0 k1 := zL (@jY R k0 k1) Y4
def yJ (x : Qz9) : Option Bool :=
 Ql (fun x1 => some x1.1) (fun x2 => Option.bind (Yg (x2.1, x2.2.1)) fun r3 => Option.bind (bif r3 then Option.bind (YZ x2.2.2.1) fun r5 => some r5 else some false) fun u4 => Option.bind (bif u4 then Option.bind (Zk x2.2.2.2.1) fun r7 => some r7 else some false) fun u6 => Option.bind (bif u6 then Option.bind (yC (x2.2.2.2.2.2, (1 : Int), (61 : Int))) fun r9 => some r9 else some false) fun u8 => Option.bind (bif u8 then Option.bind (wi x2) fun r11 => some r11 else some false) fun u10 => Option.bind (bif u10 then Option.bind (wj x2) fun r13 => some r13 else some false) fun u12 => some u12) ((0 : Int), x.1, x.2.1, x.2.2.1, x.2.2.2.1, x.2.2.2.2.1, x.2.2.2.2.2)
def yjV : List QF := [y6j, yA8, yut, yuv, yBc, yBf]
def y6F (t : yek) : St := ⟨.dead :: .box 1 0 :: .dead :: vI t.1 :: dd 42 [], [(1, .box [yT t.2.1, yx t.2.2.1, zh t.2.2.2.1, yL t.2.2.2.2.1, zH t.2.2.2.2.2.1, vI t.2.2.2.2.2.2])]⟩
def yig : Gk vj := fun κ => jY (fun t => κ none ⟨.dead :: .box 1 0 :: vB t.1 :: dd 43 [], [(1, .box [yT t.2.1, yx t.2.2.1, zh t.2.2.2.1, yL t.2.2.2.2.1, zH t.2.2.2.2.2.1, vI t.2.2.2.2.2.2])]⟩) (fun t => κ (some 0) ⟨.dead :: .box 1 0 :: dd 44 [], [(1, .box [yT t.1, yx t.2.1, zh t.2.2.1, yL t.2.2.2.1, zH t.2.2.2.2.1, vI t.2.2.2.2.2])]⟩)
def yjW : Lp := lpC 2 (unG ylV y6F) @yig lpN
theorem yqe : LF yjV yjW 108 2 Tryz.f108 0 y6F @yig fun t => t := fun R κ again t => by kernel_rfl
theorem yqf : LK yjV yjW 108 Tryz.f108 0 := lkN (u := (unG ylV y6F)) (yt fun t => by kernel_rfl) yqe
theorem yuC : EV yjV yjW 108 Tryz.f108 yol qz9 [.bool] yJ := fun x => by kernel_rfl
def yjX : QF := ⟨108, yJ, okN (n := 1) Tryz.func108 ⟨yqf, trivial⟩ yuC⟩
abbrev vk : Type := yhS ⊕ yjf
def YG (k0 : Unit → Option R) (k1 : List y9 → Option R) (again : vk → Option R) : vk → Option R
 | .inl t3 => bif (decide (t3.1 < (List.length t3.2 : Int))) then if (0 : Int) ≤ t3.1 then if t3.1 < (List.length t3.2 : Int) then if (List.length ([] : List y8) + List.length (yq t3.2 t3.1)) * 40 < 140737488355328 then if List.length ([(([] : List y8) ++ (yq t3.2 t3.1))] : List y9) * 24 < 140737488355328 then again (Sum.inr ((Go.IntKind.wrap .i64 (t3.1 + (1 : Int))), t3.2, ([(([] : List y8) ++ (yq t3.2 t3.1))] : List y9))) else none else none else none else none else k0 ()
 | .inr t3 => bif (decide (t3.1 < (List.length t3.2.1 : Int))) then if (0 : Int) ≤ t3.1 then if t3.1 < (List.length t3.2.1 : Int) then if (List.length ([] : List y8) + List.length (yq t3.2.1 t3.1)) * 40 < 140737488355328 then if (List.length t3.2.2 + List.length ([(([] : List y8) ++ (yq t3.2.1 t3.1))] : List y9)) * 24 < 140737488355328 then again (Sum.inr ((Go.IntKind.wrap .i64 (t3.1 + (1 : Int))), t3.2.1, (t3.2.2 ++ ([(([] : List y8) ++ (yq t3.2.1 t3.1))] : List y9)))) else none else none else none else none else k1 t3.2.2
def Qm k0 k1 := zL (@YG R k0 k1) Y4
def zi (x : List y9) : Option (List y9) :=
 Qm (fun x1 => some ([] : List y9)) (fun x2 => some x2) (Sum.inl ((0 : Int), x))
def yeE : List QF := []
def y39 (t : yhS) : St := ⟨.dead :: .box 1 0 :: .box 2 0 :: .box 3 0 :: vI t.1 :: dd 21 [], [(1, .box [Yr t.2]), (2, .box [.nils]), (3, .box [.nils])]⟩
theorem ygp : ∀ s t, unG ysr y39 s = some t → y39 t = s := yt fun t => by kernel_rfl
def y3a (t : yjf) : St := ⟨.dead :: .box 1 0 :: .box 2 0 :: .box 3 0 :: vI t.1 :: dd 21 [], [(1, .box [Yr t.2.1]), (2, .box [.nils]), (3, .box [.own 10000000]), (10000000, .root true 58 yp t.2.2)]⟩
theorem ygq : ∀ s t, unG ysv y3a s = some t → y3a t = s := yt fun t => by kernel_rfl
def y3b : (yhS ⊕ yjf) → St := Sum.elim y39 y3a
def y6G (s : St) : Option (yhS ⊕ yjf) := ((unG ysr y39 s).map Sum.inl).or (((unG ysv y3a) s).map Sum.inr)
theorem ygr : ∀ s t, y6G s = some t → y3b t = s := y4U ygp ygq
def ybH : Gk vk := fun κ => YG (fun t => κ (some 0) ⟨dd 2 (.box 2 0 :: .box 3 0 :: dd 22 []), [(2, .box [.nils]), (3, .box [.nils])]⟩) (fun t => κ (some 0) ⟨dd 2 (.box 2 0 :: .box 3 0 :: dd 22 []), [(2, .box [.nils]), (3, .box [.own 10000000]), (10000000, .root true 58 yp t)]⟩)
def yeF : Lp := lpC 3 y6G @ybH lpN
theorem ygs : LF yeE yeF 165 3 Tryz.f165 0 y3b @ybH fun v : yhS => .inl v := fun R κ again v => by kernel_rfl
theorem ygt : LF yeE yeF 165 3 Tryz.f165 0 y3b @ybH fun v : yjf => .inr v := fun R κ again v => by kernel_rfl
theorem yqg : LF yeE yeF 165 3 Tryz.f165 0 y3b @ybH fun t => t := (LC.sum ygs ygt)
theorem yqh : LK yeE yeF 165 Tryz.f165 0 := lkN (u := y6G) ygr yqg
theorem yuD : EV yeE yeF 165 Tryz.f165 yom [(.sl 58 yp)] [(.sl 58 yp)] zi := fun x => by kernel_rfl
def yA9 : QF := ⟨165, zi, okN (n := 1) Tryz.func165 ⟨yqh, trivial⟩ yuD⟩
abbrev vm : Type := yml ⊕ yjg
def YH (k0 : List yb → Option R) (k1 : Qz8 → Option R) (again : vm → Option R) : vm → Option R
 | .inl t3 => bif (decide (t3.1 < (List.length t3.2.2.1 : Int))) then if (0 : Int) ≤ t3.1 then if t3.1 < (List.length t3.2.2.1 : Int) then Option.bind (zi (yf t3.2.2.1 t3.1)) fun r1 => if List.length ([r1] : List y0) * 24 < 140737488355328 then again (Sum.inr ((Go.IntKind.wrap .i64 (t3.1 + (1 : Int))), t3.2.1, t3.2.2.1, t3.2.2.2, ([r1] : List y0))) else none else none else none else k0 t3.2.2.2
 | .inr t3 => bif (decide (t3.1 < (List.length t3.2.2.1 : Int))) then if (0 : Int) ≤ t3.1 then if t3.1 < (List.length t3.2.2.1 : Int) then Option.bind (zi (yf t3.2.2.1 t3.1)) fun r2 => if (List.length t3.2.2.2.2 + List.length ([r2] : List y0)) * 24 < 140737488355328 then again (Sum.inr ((Go.IntKind.wrap .i64 (t3.1 + (1 : Int))), t3.2.1, t3.2.2.1, t3.2.2.2.1, (t3.2.2.2.2 ++ ([r2] : List y0)))) else none else none else none else k1 t3.2.2.2
def Qn k0 k1 := zL (@YH R k0 k1) Y4
def Z1 (x : Qz8) : Option Qz8 :=
 if (List.length ([] : List yb) + List.length x.1) * 8 < 140737488355328 then Qn (fun x3 => some (x3, ([] : List y0))) (fun x4 => some x4) (Sum.inl ((0 : Int), x.1, x.2, (([] : List yb) ++ x.1))) else none
def yeG : List QF := [yA9]
def y3c (t : yml) : St := ⟨.dead :: .box 1 0 :: .box 2 0 :: .box 3 0 :: vI t.1 :: dd 24 [], [(1, .box [yT t.2.1, yx t.2.2.1]), (2, .box [.nils, .nils]), (3, .box [.own 10000000, .nils]), (10000000, .root true 3 yd t.2.2.2)]⟩
theorem ygu : ∀ s t, unG yyk y3c s = some t → y3c t = s := yt fun t => by kernel_rfl
def y3d (t : yjg) : St := ⟨.dead :: .box 1 0 :: .box 2 0 :: .box 3 0 :: vI t.1 :: dd 24 [], [(1, .box [yT t.2.1, yx t.2.2.1]), (2, .box [.nils, .nils]), (3, .box [.own 10000000, .own 10000001]), (10000000, .root true 3 yd t.2.2.2.1), (10000001, .root true 99 yg t.2.2.2.2)]⟩
theorem ygv : ∀ s t, unG ysw y3d s = some t → y3d t = s := yt fun t => by kernel_rfl
def y3e : (yml ⊕ yjg) → St := Sum.elim y3c y3d
def y6H (s : St) : Option (yml ⊕ yjg) := ((unG yyk y3c s).map Sum.inl).or (((unG ysw y3d) s).map Sum.inr)
theorem ygw : ∀ s t, y6H s = some t → y3e t = s := y4U ygu ygv
def ybI : Gk vm := fun κ => YH (fun t => κ (some 0) ⟨dd 2 (.box 2 0 :: .box 3 0 :: dd 25 []), [(2, .box [.nils, .nils]), (3, .box [.own 10000000, .nils]), (10000000, .root true 3 yd t)]⟩) (fun t => κ (some 0) ⟨dd 2 (.box 2 0 :: .box 3 0 :: dd 25 []), [(2, .box [.nils, .nils]), (3, .box [.own 10000000, .own 10000001]), (10000000, .root true 3 yd t.1), (10000001, .root true 99 yg t.2)]⟩)
def yeH : Lp := lpC 3 y6H @ybI lpN
theorem ygx : LF yeG yeH 140 3 Tryz.f140 0 y3e @ybI fun v : yml => .inl v := fun R κ again v => by kernel_rfl
theorem ygy : LF yeG yeH 140 3 Tryz.f140 0 y3e @ybI fun v : yjg => .inr v := fun R κ again v => by kernel_rfl
theorem yqi : LF yeG yeH 140 3 Tryz.f140 0 y3e @ybI fun t => t := (LC.sum ygx ygy)
theorem yqj : LK yeG yeH 140 Tryz.f140 0 := lkN (u := y6H) ygw yqi
theorem yuE : EV yeG yeH 140 Tryz.f140 yon qz8 qz8 Z1 := fun x => by kernel_rfl
def yuF : QF := ⟨140, Z1, okN (n := 1) Tryz.func140 ⟨yqj, trivial⟩ yuE⟩
def zX (x : List y7) : Option (List y7) :=
 if (List.length ([] : List y7) + List.length x) * 24 < 140737488355328 then some (([] : List y7) ++ x) else none
theorem yuG : EV [] lpN 141 Tryz.f141 yoo [(.sl 53 yc)] [(.sl 53 yc)] zX := fun x => by kernel_rfl
def yuH : QF := ⟨141, zX, okN (n := 0) Tryz.func141 trivial yuG⟩
def yl (x : Qz9) : Option Qz9 :=
 Option.bind (Z1 (x.1, x.2.1)) fun r1 => if (List.length ([] : List ya) + List.length x.2.2.1) * 16 < 140737488355328 then Option.bind (zX x.2.2.2.1) fun r2 => if (List.length ([] : List ye) + List.length x.2.2.2.2.1) * 40 < 140737488355328 then some (r1.1, r1.2, (([] : List ya) ++ x.2.2.1), r2, (([] : List ye) ++ x.2.2.2.2.1), x.2.2.2.2.2) else none else none
theorem yuI : EV [yuF, yuH] lpN 109 Tryz.f109 yop qz9 qz9 yl := fun x => by kernel_rfl
def yeI : QF := ⟨109, yl, okN (n := 0) Tryz.func109 trivial yuI⟩
def Zl (x : ysx) : Option Int :=
 Option.bind (yJ (x.1, x.2.1, x.2.2.1, x.2.2.2.1, x.2.2.2.2.1, x.2.2.2.2.2.1)) fun r1 => Option.bind (bif (!r1) then some true else Option.bind (Yf x.2.2.2.2.2.2) fun r3 => some (!r3)) fun u2 => bif u2 then some (1 : Int) else some (0 : Int)
theorem yuJ : EV [yjX, ysD] lpN 142 Tryz.f142 yoq ysy [(.int .i64)] Zl := fun x => by kernel_rfl
def yuK : QF := ⟨142, Zl, okN (n := 0) Tryz.func142 trivial yuJ⟩
abbrev Vl : Type := yyl
def wk (k0 : Int → Option R) (k1 : Unit → Option R) (again : Vl → Option R) (t2 : Vl) : Option R :=
 bif (decide (t2.2.1 < (List.length t2.2.2.2.2.2.2.1 : Int))) then if (0 : Int) ≤ t2.2.1 then if t2.2.1 < (List.length t2.2.2.2.2.2.2.1 : Int) then bif ((ByteArray.toList ((yj t2.2.2.2.2.2.2.1 t2.2.1).1)) == (ByteArray.toList t2.1)) then k0 t2.2.1 else again (t2.1, (Go.IntKind.wrap .i64 (t2.2.1 + (1 : Int))), t2.2.2.1, t2.2.2.2.1, t2.2.2.2.2.1, t2.2.2.2.2.2.1, t2.2.2.2.2.2.2.1, t2.2.2.2.2.2.2.2) else none else none else k1 ()
def y0C k0 k1 := zL (@wk R k0 k1) Y4
def zn (x : ysx) : Option Int :=
 y0C (fun x1 => some x1) (fun x2 => some (-1 : Int)) (x.2.2.2.2.2.2, (0 : Int), x.1, x.2.1, x.2.2.1, x.2.2.2.1, x.2.2.2.2.1, x.2.2.2.2.2.1)
def yjY : List QF := []
def y6I (t : yyl) : St := ⟨.dead :: vS t.1 :: .box 2 0 :: dd 2 (vI t.2.1 :: dd 16 []), [(2, .box [yT t.2.2.1, yx t.2.2.2.1, zh t.2.2.2.2.1, yL t.2.2.2.2.2.1, zH t.2.2.2.2.2.2.1, vI t.2.2.2.2.2.2.2])]⟩
def yih : Gk Vl := fun κ => wk (fun t => κ none ⟨dd 4 (vI t :: dd 17 []), []⟩) (fun t => κ (some 0) ⟨dd 22 [], []⟩)
def yjZ : Lp := lpC 2 (unG yym y6I) @yih lpN
theorem yqk : LF yjY yjZ 143 2 Tryz.f143 0 y6I @yih fun t => t := fun R κ again t => by kernel_rfl
theorem yql : LK yjY yjZ 143 Tryz.f143 0 := lkN (u := (unG yym y6I)) (yt fun t => by kernel_rfl) yqk
theorem yuL : EV yjY yjZ 143 Tryz.f143 yor ysy [(.int .i64)] zn := fun x => by kernel_rfl
def yii : QF := ⟨143, zn, okN (n := 1) Tryz.func143 ⟨yql, trivial⟩ yuL⟩
abbrev Wg : Type := yyn
def Wh (k0 : yAz → Option R) (again : Wg → Option R) (t4 : Wg) : Option R :=
 bif (decide (t4.2.2.2.2.1 < (List.length t4.1 : Int))) then Option.bind (bif (!t4.2.2.2.1) then if (0 : Int) ≤ t4.2.2.2.2.1 then if t4.2.2.2.2.1 < (List.length t4.1 : Int) then some (decide ((yO t4.1 t4.2.2.2.2.1).1 > t4.2.1)) else none else none else some false) fun u2 => bif u2 then if (List.length t4.2.2.2.2.2 + List.length ([(t4.2.1, t4.2.2.1)] : List ya)) * 16 < 140737488355328 then if (0 : Int) ≤ t4.2.2.2.2.1 then if t4.2.2.2.2.1 < (List.length t4.1 : Int) then if (List.length (t4.2.2.2.2.2 ++ ([(t4.2.1, t4.2.2.1)] : List ya)) + List.length ([((yO t4.1 t4.2.2.2.2.1).1, (yO t4.1 t4.2.2.2.2.1).2)] : List ya)) * 16 < 140737488355328 then again (t4.1, t4.2.1, t4.2.2.1, true, (Go.IntKind.wrap .i64 (t4.2.2.2.2.1 + (1 : Int))), ((t4.2.2.2.2.2 ++ ([(t4.2.1, t4.2.2.1)] : List ya)) ++ ([((yO t4.1 t4.2.2.2.2.1).1, (yO t4.1 t4.2.2.2.2.1).2)] : List ya))) else none else none else none else none else if (0 : Int) ≤ t4.2.2.2.2.1 then if t4.2.2.2.2.1 < (List.length t4.1 : Int) then if (List.length t4.2.2.2.2.2 + List.length ([((yO t4.1 t4.2.2.2.2.1).1, (yO t4.1 t4.2.2.2.2.1).2)] : List ya)) * 16 < 140737488355328 then again (t4.1, t4.2.1, t4.2.2.1, t4.2.2.2.1, (Go.IntKind.wrap .i64 (t4.2.2.2.2.1 + (1 : Int))), (t4.2.2.2.2.2 ++ ([((yO t4.1 t4.2.2.2.2.1).1, (yO t4.1 t4.2.2.2.2.1).2)] : List ya))) else none else none else none else k0 (t4.1, t4.2.1, t4.2.2.1, t4.2.2.2.1, t4.2.2.2.2.2)
def Qo k0 := zL (@Wh R k0) Y4
def j8 (x : yt2) : Option ysu :=
 Option.bind (zK (x.1, x.2.1)) fun r1 => Qo (fun x3 => bif (!x3.2.2.2.1) then if (List.length x3.2.2.2.2 + List.length ([(x3.2.1, x3.2.2.1)] : List ya)) * 16 < 140737488355328 then Option.bind (zK (x3.1, x3.2.1)) fun r4 => Option.bind (bif (decide (r4 ≥ (0 : Int))) then some true else Option.bind (YZ (x3.2.2.2.2 ++ ([(x3.2.1, x3.2.2.1)] : List ya))) fun r6 => some (!r6)) fun u5 => bif u5 then if (List.length ([] : List ya) + List.length x3.1) * 16 < 140737488355328 then some ((([] : List ya) ++ x3.1), false) else none else some ((x3.2.2.2.2 ++ ([(x3.2.1, x3.2.2.1)] : List ya)), true) else none else Option.bind (zK (x3.1, x3.2.1)) fun r7 => Option.bind (bif (decide (r7 ≥ (0 : Int))) then some true else Option.bind (YZ x3.2.2.2.2) fun r9 => some (!r9)) fun u8 => bif u8 then if (List.length ([] : List ya) + List.length x3.1) * 16 < 140737488355328 then some ((([] : List ya) ++ x3.1), false) else none else some (x3.2.2.2.2, true)) (x.1, x.2.1, x.2.2, (decide (r1 ≥ (0 : Int))), (0 : Int), ([] : List ya))
def yk0 : List QF := [yut, ym0]
def y6J (t : yyn) : St := ⟨zh t.1 :: vI t.2.1 :: vI t.2.2.1 :: dd 5 (.own 10000000 :: vB t.2.2.2.1 :: vI t.2.2.2.2.1 :: dd 56 []), [(10000000, .root true 67 yk t.2.2.2.2.2)]⟩
def yij : Gk Wg := fun κ => Wh (fun t => κ (some 0) ⟨zh t.1 :: vI t.2.1 :: vI t.2.2.1 :: dd 5 (.own 10000000 :: vB t.2.2.2.1 :: dd 57 []), [(10000000, .root true 67 yk t.2.2.2.2)]⟩)
def yk1 : Lp := lpC 4 (unG yyo y6J) @yij lpN
theorem yqm : LF yk0 yk1 144 4 Tryz.f144 0 y6J @yij fun t => t := fun R κ again t => by kernel_rfl
theorem yqn : LK yk0 yk1 144 Tryz.f144 0 := lkN (u := (unG yyo y6J)) (yt fun t => by kernel_rfl) yqm
theorem yuM : EV yk0 yk1 144 Tryz.f144 yos yt3 yyb j8 := fun x => by kernel_rfl
def yAa : QF := ⟨144, j8, okN (n := 1) Tryz.func144 ⟨yqn, trivial⟩ yuM⟩
abbrev jI : Type := yt7
def jJ (k0 : yt7 → Option R) (again : jI → Option R) (t3 : jI) : Option R :=
 Option.bind (bif (decide (t3.1 > (0 : Int))) then if (0 : Int) ≤ (Go.IntKind.wrap .i64 (t3.1 - (1 : Int))) then if (Go.IntKind.wrap .i64 (t3.1 - (1 : Int))) < (List.length t3.2.2.2.2.2 : Int) then some (!(Go.Op.bytesLess (ByteArray.toList ((yj t3.2.2.2.2.2 (Go.IntKind.wrap .i64 (t3.1 - (1 : Int)))).1)) (ByteArray.toList t3.2.1) || (ByteArray.toList ((yj t3.2.2.2.2.2 (Go.IntKind.wrap .i64 (t3.1 - (1 : Int)))).1)) == (ByteArray.toList t3.2.1))) else none else none else some false) fun u1 => bif u1 then if (0 : Int) ≤ (Go.IntKind.wrap .i64 (t3.1 - (1 : Int))) then if (Go.IntKind.wrap .i64 (t3.1 - (1 : Int))) < (List.length t3.2.2.2.2.2 : Int) then if (0 : Int) ≤ t3.1 then if t3.1 < (List.length t3.2.2.2.2.2 : Int) then again ((Go.IntKind.wrap .i64 (t3.1 - (1 : Int))), t3.2.1, t3.2.2.1, t3.2.2.2.1, t3.2.2.2.2.1, (List.set t3.2.2.2.2.2 (Int.toNat t3.1) ((yj t3.2.2.2.2.2 (Go.IntKind.wrap .i64 (t3.1 - (1 : Int)))).1, (yj t3.2.2.2.2.2 (Go.IntKind.wrap .i64 (t3.1 - (1 : Int)))).2.1, (yj t3.2.2.2.2.2 (Go.IntKind.wrap .i64 (t3.1 - (1 : Int)))).2.2.1, (yj t3.2.2.2.2.2 (Go.IntKind.wrap .i64 (t3.1 - (1 : Int)))).2.2.2))) else none else none else none else none else k0 t3
def Va k0 := zL (@jJ R k0) Y4
def YT (x : yt8) : Option (List ye) :=
 if (List.length ([] : List ye) + List.length x.1) * 40 < 140737488355328 then if (List.length (([] : List ye) ++ x.1) + List.length ([x.2] : List ye)) * 40 < 140737488355328 then Va (fun x2 => if (0 : Int) ≤ x2.1 then if x2.1 < (List.length x2.2.2.2.2.2 : Int) then some (List.set x2.2.2.2.2.2 (Int.toNat x2.1) (x2.2.1, x2.2.2.1, x2.2.2.2.1, x2.2.2.2.2.1)) else none else none) ((Go.IntKind.wrap .i64 (((List.length ((([] : List ye) ++ x.1) ++ ([x.2] : List ye)) : Nat) : Int) - (1 : Int))), x.2.1, x.2.2.1, x.2.2.2.1, x.2.2.2.2, ((([] : List ye) ++ x.1) ++ ([x.2] : List ye))) else none else none
def yk2 : List QF := []
def y6K (t : yt7) : St := ⟨dd 3 (.box 3 0 :: .dead :: .own 10000000 :: vI t.1 :: dd 37 []), [(3, .box [vS t.2.1, vI t.2.2.1, vI t.2.2.2.1, vB t.2.2.2.2.1]), (10000000, .root true 41 yz t.2.2.2.2.2)]⟩
def yik : Gk jI := fun κ => jJ (fun t => κ (some 0) ⟨dd 3 (.box 3 0 :: .dead :: .own 10000000 :: vI t.1 :: dd 37 []), [(3, .box [vS t.2.1, vI t.2.2.1, vI t.2.2.2.1, vB t.2.2.2.2.1]), (10000000, .root true 41 yz t.2.2.2.2.2)]⟩)
def yk3 : Lp := lpC 3 (unG yyp y6K) @yik lpN
theorem yqo : LF yk2 yk3 145 3 Tryz.f145 0 y6K @yik fun t => t := fun R κ again t => by kernel_rfl
theorem yqp : LK yk2 yk3 145 Tryz.f145 0 := lkN (u := (unG yyp y6K)) (yt fun t => by kernel_rfl) yqo
theorem yuN : EV yk2 yk3 145 Tryz.f145 yot yt9 [(.sl 41 yz)] YT := fun x => by kernel_rfl
def yAb : QF := ⟨145, YT, okN (n := 1) Tryz.func145 ⟨yqp, trivial⟩ yuN⟩
def yQ (x : yAA) : Option y9y :=
 Option.bind (bif (!x.2.2.2.2.2.2.2.2.2.2.2.2) then some true else Option.bind (yJ (x.2.2.2.2.2.2.1, x.2.2.2.2.2.2.2.1, x.2.2.2.2.2.2.2.2.1, x.2.2.2.2.2.2.2.2.2.1, x.2.2.2.2.2.2.2.2.2.2.1, x.2.2.2.2.2.2.2.2.2.2.2.1)) fun r2 => some (!r2)) fun u1 => bif u1 then Option.bind (yl (x.1, x.2.1, x.2.2.1, x.2.2.2.1, x.2.2.2.2.1, x.2.2.2.2.2.1)) fun r3 => some (r3.1, r3.2.1, r3.2.2.1, r3.2.2.2.1, r3.2.2.2.2.1, r3.2.2.2.2.2, (6 : Int)) else some (x.2.2.2.2.2.2.1, x.2.2.2.2.2.2.2.1, x.2.2.2.2.2.2.2.2.1, x.2.2.2.2.2.2.2.2.2.1, x.2.2.2.2.2.2.2.2.2.2.1, x.2.2.2.2.2.2.2.2.2.2.2.1, (0 : Int))
theorem yuO : EV [yjX, yeI] lpN 146 Tryz.f146 yov yAB y9z yQ := fun x => by kernel_rfl
def ym1 : QF := ⟨146, yQ, okN (n := 0) Tryz.func146 trivial yuO⟩
def JG (x : ysz) : Option y9y :=
 Option.bind (Zl (x.1, x.2.1, x.2.2.1, x.2.2.2.1, x.2.2.2.2.1, x.2.2.2.2.2.1, x.2.2.2.2.2.2.1)) fun r1 => bif (r1 != (0 : Int)) then Option.bind (yl (x.1, x.2.1, x.2.2.1, x.2.2.2.1, x.2.2.2.2.1, x.2.2.2.2.2.1)) fun r2 => some (r2.1, r2.2.1, r2.2.2.1, r2.2.2.2.1, r2.2.2.2.2.1, r2.2.2.2.2.2, r1) else Option.bind (zn (x.1, x.2.1, x.2.2.1, x.2.2.2.1, x.2.2.2.2.1, x.2.2.2.2.2.1, x.2.2.2.2.2.2.1)) fun r3 => bif (decide (r3 ≥ (0 : Int))) then Option.bind (yl (x.1, x.2.1, x.2.2.1, x.2.2.2.1, x.2.2.2.2.1, x.2.2.2.2.2.1)) fun r4 => some (r4.1, r4.2.1, r4.2.2.1, r4.2.2.2.1, r4.2.2.2.2.1, r4.2.2.2.2.2, (3 : Int)) else Option.bind (yC (x.2.2.2.2.2.2.2, (1 : Int), (12 : Int))) fun r5 => bif (!r5) then Option.bind (yl (x.1, x.2.1, x.2.2.1, x.2.2.2.1, x.2.2.2.2.1, x.2.2.2.2.2.1)) fun r6 => some (r6.1, r6.2.1, r6.2.2.1, r6.2.2.2.1, r6.2.2.2.2.1, r6.2.2.2.2.2, (4 : Int)) else Option.bind (yl (x.1, x.2.1, x.2.2.1, x.2.2.2.1, x.2.2.2.2.1, x.2.2.2.2.2.1)) fun r7 => Option.bind (j8 (x.2.2.1, x.2.2.2.2.2.1, (0 : Int))) fun r8 => Option.bind (YT (x.2.2.2.2.1, x.2.2.2.2.2.2.1, x.2.2.2.2.2.1, x.2.2.2.2.2.2.2, false)) fun r9 => Option.bind (yQ (x.1, x.2.1, x.2.2.1, x.2.2.2.1, x.2.2.2.2.1, x.2.2.2.2.2.1, r7.1, r7.2.1, r8.1, r7.2.2.2.1, r9, (Go.IntKind.wrap .i64 (x.2.2.2.2.2.1 + (1 : Int))), r8.2)) fun r10 => some r10
theorem yuP : EV [yeI, y6j, yuK, yii, yAa, yAb, ym1] lpN 110 Tryz.f110 yow ysA y9z JG := fun x => by kernel_rfl
def yBg : QF := ⟨110, JG, okN (n := 0) Tryz.func110 trivial yuP⟩
def kr (x : yAC) : Option y9y :=
 Option.bind (Zl (x.1, x.2.1, x.2.2.1, x.2.2.2.1, x.2.2.2.2.1, x.2.2.2.2.2.1, x.2.2.2.2.2.2.1)) fun r1 => Option.bind (bif (r1 != (0 : Int)) then some true else Option.bind (Yf x.2.2.2.2.2.2.2.1) fun r3 => some (!r3)) fun u2 => bif u2 then Option.bind (yl (x.1, x.2.1, x.2.2.1, x.2.2.2.1, x.2.2.2.2.1, x.2.2.2.2.2.1)) fun r4 => some (r4.1, r4.2.1, r4.2.2.1, r4.2.2.2.1, r4.2.2.2.2.1, r4.2.2.2.2.2, (1 : Int)) else Option.bind (zn (x.1, x.2.1, x.2.2.1, x.2.2.2.1, x.2.2.2.2.1, x.2.2.2.2.2.1, x.2.2.2.2.2.2.1)) fun r5 => bif (decide (r5 < (0 : Int))) then Option.bind (yl (x.1, x.2.1, x.2.2.1, x.2.2.2.1, x.2.2.2.2.1, x.2.2.2.2.2.1)) fun r6 => some (r6.1, r6.2.1, r6.2.2.1, r6.2.2.2.1, r6.2.2.2.2.1, r6.2.2.2.2.2, (2 : Int)) else Option.bind (zn (x.1, x.2.1, x.2.2.1, x.2.2.2.1, x.2.2.2.2.1, x.2.2.2.2.2.1, x.2.2.2.2.2.2.2.1)) fun r7 => bif (decide (r7 ≥ (0 : Int))) then Option.bind (yl (x.1, x.2.1, x.2.2.1, x.2.2.2.1, x.2.2.2.2.1, x.2.2.2.2.2.1)) fun r8 => some (r8.1, r8.2.1, r8.2.2.1, r8.2.2.2.1, r8.2.2.2.2.1, r8.2.2.2.2.2, (3 : Int)) else Option.bind (yl (x.1, x.2.1, x.2.2.1, x.2.2.2.1, x.2.2.2.2.1, x.2.2.2.2.2.1)) fun r9 => Option.bind (zn (x.1, x.2.1, x.2.2.1, x.2.2.2.1, x.2.2.2.2.1, x.2.2.2.2.2.1, x.2.2.2.2.2.2.1)) fun r10 => if (0 : Int) ≤ r10 then if r10 < (List.length x.2.2.2.2.1 : Int) then Option.bind (j8 (x.2.2.1, x.2.2.2.2.2.1, (yj x.2.2.2.2.1 r10).2.1)) fun r11 => if (0 : Int) ≤ r10 then if r10 < (List.length x.2.2.2.2.1 : Int) then Option.bind (j8 (r11.1, (Go.IntKind.wrap .i64 (x.2.2.2.2.2.1 + (1 : Int))), (yj x.2.2.2.2.1 r10).2.1)) fun r12 => if (0 : Int) ≤ r10 then if r10 < (List.length r9.2.2.2.2.1 : Int) then if (0 : Int) ≤ r10 then if r10 < (List.length x.2.2.2.2.1 : Int) then Option.bind (YT ((List.set r9.2.2.2.2.1 (Int.toNat r10) ((yj r9.2.2.2.2.1 r10).1, x.2.2.2.2.2.1, (yj r9.2.2.2.2.1 r10).2.2)), x.2.2.2.2.2.2.2.1, (Go.IntKind.wrap .i64 (x.2.2.2.2.2.1 + (1 : Int))), (yj x.2.2.2.2.1 r10).2.2.1, x.2.2.2.2.2.2.2.2)) fun r13 => Option.bind (bif r11.2 then some r12.2 else some false) fun u14 => Option.bind (yQ (x.1, x.2.1, x.2.2.1, x.2.2.2.1, x.2.2.2.2.1, x.2.2.2.2.2.1, r9.1, r9.2.1, r12.1, r9.2.2.2.1, r13, (Go.IntKind.wrap .i64 (x.2.2.2.2.2.1 + (2 : Int))), u14)) fun r15 => some r15 else none else none else none else none else none else none else none else none
theorem yuQ : EV [yeI, ysD, yuK, yii, yAa, yAb, ym1] lpN 111 Tryz.f111 yox yAD y9z kr := fun x => by kernel_rfl
def yBh : QF := ⟨111, kr, okN (n := 0) Tryz.func111 trivial yuQ⟩
def JH (x : ysx) : Option Int :=
 Option.bind (Zl x) fun r1 => Option.bind (bif (r1 == (0 : Int)) then Option.bind (zn x) fun r3 => some (decide (r3 < (0 : Int))) else some false) fun u2 => bif u2 then some (2 : Int) else some r1
theorem yuR : EV [yuK, yii] lpN 147 Tryz.f147 yoy ysy [(.int .i64)] JH := fun x => by kernel_rfl
def yAc : QF := ⟨147, JH, okN (n := 0) Tryz.func147 trivial yuR⟩
def kt (x : ysx) : Option y9y :=
 Option.bind (yl (x.1, x.2.1, x.2.2.1, x.2.2.2.1, x.2.2.2.2.1, x.2.2.2.2.2.1)) fun r1 => Option.bind (JH x) fun r2 => bif (r2 != (0 : Int)) then some (r1.1, r1.2.1, r1.2.2.1, r1.2.2.2.1, r1.2.2.2.2.1, r1.2.2.2.2.2, r2) else Option.bind (zn x) fun r3 => if (0 : Int) ≤ (0 : Int) then if (0 : Int) ≤ r3 then if r3 ≤ (List.length x.2.2.2.2.1 : Int) then if (List.length ([] : List ye) + List.length (List.drop (Int.toNat (0 : Int)) (List.take (Int.toNat r3) x.2.2.2.2.1))) * 40 < 140737488355328 then if (0 : Int) ≤ (Go.IntKind.wrap .i64 (r3 + (1 : Int))) then if (Go.IntKind.wrap .i64 (r3 + (1 : Int))) ≤ (List.length x.2.2.2.2.1 : Int) then if (List.length x.2.2.2.2.1 : Int) ≤ (List.length x.2.2.2.2.1 : Int) then if (List.length (([] : List ye) ++ (List.drop (Int.toNat (0 : Int)) (List.take (Int.toNat r3) x.2.2.2.2.1))) + List.length (List.drop (Int.toNat (Go.IntKind.wrap .i64 (r3 + (1 : Int)))) (List.take (Int.toNat (List.length x.2.2.2.2.1 : Int)) x.2.2.2.2.1))) * 40 < 140737488355328 then Option.bind (yQ (x.1, x.2.1, x.2.2.1, x.2.2.2.1, x.2.2.2.2.1, x.2.2.2.2.2.1, r1.1, r1.2.1, r1.2.2.1, r1.2.2.2.1, ((([] : List ye) ++ (List.drop (Int.toNat (0 : Int)) (List.take (Int.toNat r3) x.2.2.2.2.1))) ++ (List.drop (Int.toNat (Go.IntKind.wrap .i64 (r3 + (1 : Int)))) (List.take (Int.toNat (List.length x.2.2.2.2.1 : Int)) x.2.2.2.2.1))), r1.2.2.2.2.2, true)) fun r4 => some r4 else none else none else none else none else none else none else none else none
theorem yuS : EV [yeI, yii, ym1, yAc] lpN 112 Tryz.f112 yoz ysy y9z kt := fun x => by kernel_rfl
def yBi : QF := ⟨112, kt, okN (n := 0) Tryz.func112 trivial yuS⟩
def YI (x : ysz) : Option Int :=
 Option.bind (JH (x.1, x.2.1, x.2.2.1, x.2.2.2.1, x.2.2.2.2.1, x.2.2.2.2.2.1, x.2.2.2.2.2.2.1)) fun r1 => bif (r1 != (0 : Int)) then some r1 else Option.bind (zn (x.1, x.2.1, x.2.2.1, x.2.2.2.1, x.2.2.2.2.1, x.2.2.2.2.2.1, x.2.2.2.2.2.2.1)) fun r2 => if (0 : Int) ≤ r2 then if r2 < (List.length x.2.2.2.2.1 : Int) then bif (yj x.2.2.2.2.1 r2).2.2.2 then some (5 : Int) else Option.bind (zn (x.1, x.2.1, x.2.2.1, x.2.2.2.1, x.2.2.2.2.1, x.2.2.2.2.2.1, x.2.2.2.2.2.2.1)) fun r3 => if (0 : Int) ≤ r3 then if r3 < (List.length x.2.2.2.2.1 : Int) then Option.bind (yC (x.2.2.2.2.2.2.2, (0 : Int), (Go.IntKind.wrap .i64 ((yj x.2.2.2.2.1 r3).2.2.1 - (1 : Int))))) fun r4 => bif (!r4) then some (4 : Int) else some (0 : Int) else none else none else none else none
theorem yuT : EV [y6j, yii, yAc] lpN 148 Tryz.f148 yoA ysA [(.int .i64)] YI := fun x => by kernel_rfl
def yuU : QF := ⟨148, YI, okN (n := 0) Tryz.func148 trivial yuT⟩
abbrev JI : Type := yyq
def zC (k0 : yAE → Option R) (k1 : List y7 → Option R) (again : JI → Option R) (t3 : JI) : Option R :=
 Option.bind (bif (decide (t3.2.2.1 < (List.length t3.1 : Int))) then Option.bind (Zk t3.1) fun r3 => some r3 else some false) fun u2 => Option.bind (bif u2 then Option.bind (zo t3.2.1) fun r5 => some r5 else some false) fun u4 => bif u4 then if (0 : Int) ≤ t3.2.2.1 then if t3.2.2.1 < (List.length t3.1 : Int) then bif (!((ym t3.1 t3.2.2.1).2.1)) then if (0 : Int) ≤ t3.2.2.1 then if t3.2.2.1 < (List.length t3.2.2.2 : Int) then if (0 : Int) ≤ t3.2.2.1 then if t3.2.2.1 < ((List.length (List.set t3.2.2.2 (Int.toNat t3.2.2.1) ((ym t3.2.2.2 t3.2.2.1).1, true, (ym t3.2.2.2 t3.2.2.1).2.2)) : Nat) : Int) then k0 (t3.2.2.1, true, (List.set (List.set t3.2.2.2 (Int.toNat t3.2.2.1) ((ym t3.2.2.2 t3.2.2.1).1, true, (ym t3.2.2.2 t3.2.2.1).2.2)) (Int.toNat t3.2.2.1) ((ym (List.set t3.2.2.2 (Int.toNat t3.2.2.1) ((ym t3.2.2.2 t3.2.2.1).1, true, (ym t3.2.2.2 t3.2.2.1).2.2)) t3.2.2.1).1, (ym (List.set t3.2.2.2 (Int.toNat t3.2.2.1) ((ym t3.2.2.2 t3.2.2.1).1, true, (ym t3.2.2.2 t3.2.2.1).2.2)) t3.2.2.1).2.1, t3.2.1))) else none else none else none else none else again (t3.1, t3.2.1, (Go.IntKind.wrap .i64 (t3.2.2.1 + (1 : Int))), t3.2.2.2) else none else none else k1 t3.2.2.2
def ku k0 k1 := zL (@zC R k0 k1) Y4
def zY (x : yhT) : Option yys :=
 Option.bind (zX x.1) fun r1 => ku (fun x6 => some (x6.2.2, x6.1, x6.2.1)) (fun x7 => some (x7, (0 : Int), false)) (x.1, x.2, (0 : Int), r1)
def yk4 : List QF := [ysE, yuv, yuH]
def y6L (t : yyq) : St := ⟨yL t.1 :: vI t.2.1 :: dd 5 (.own 10000000 :: vI t.2.2.1 :: dd 34 []), [(10000000, .root true 53 yc t.2.2.2)]⟩
def yil : Gk JI := fun κ => zC (fun t => κ none ⟨dd 4 (.own 10000000 :: vI t.1 :: vB t.2.1 :: .own 10000000 :: dd 35 []), [(10000000, .root true 53 yc t.2.2)]⟩) (fun t => κ (some 0) ⟨dd 7 (.own 10000000 :: dd 35 []), [(10000000, .root true 53 yc t)]⟩)
def yk5 : Lp := lpC 3 (unG yyr y6L) @yil lpN
theorem yqq : LF yk4 yk5 149 3 Tryz.f149 0 y6L @yil fun t => t := fun R κ again t => by kernel_rfl
theorem yqr : LK yk4 yk5 149 Tryz.f149 0 := lkN (u := (unG yyr y6L)) (yt fun t => by kernel_rfl) yqq
theorem yuV : EV yk4 yk5 149 Tryz.f149 yoB yhU yyt zY := fun x => by kernel_rfl
def yAd : QF := ⟨149, zY, okN (n := 1) Tryz.func149 ⟨yqr, trivial⟩ yuV⟩
abbrev wF : Type := yyu
def wG (k0 : Int → Option R) (again : wF → Option R) (t3 : wF) : Option R :=
 bif (decide (t3.2.2.2.1 < (List.length t3.2.2.2.2.1 : Int))) then if (0 : Int) ≤ t3.2.2.2.1 then if t3.2.2.2.1 < (List.length t3.2.2.2.2.1 : Int) then Option.bind (JD (t3.1, t3.2.1)) fun r1 => bif (decide ((zu t3.2.2.2.2.1 t3.2.2.2.1) ≤ r1)) then again (t3.1, t3.2.1, t3.2.2.2.1, (Go.IntKind.wrap .i64 (t3.2.2.2.1 + (1 : Int))), t3.2.2.2.2.1, t3.2.2.2.2.2) else again (t3.1, t3.2.1, t3.2.2.1, (Go.IntKind.wrap .i64 (t3.2.2.2.1 + (1 : Int))), t3.2.2.2.2.1, t3.2.2.2.2.2) else none else none else k0 t3.2.2.1
def qT k0 := zL (@wG R k0) Y4
def jy (x : yta) : Option Int :=
 qT (fun x2 => some x2) (x.2.2.1, x.2.2.2, (-1 : Int), (0 : Int), x.1, x.2.1)
def yk6 : List QF := [yA6]
def y6M (t : yyu) : St := ⟨.dead :: vI t.1 :: vI t.2.1 :: .box 3 0 :: dd 3 (vI t.2.2.1 :: vI t.2.2.2.1 :: dd 18 []), [(3, .box [yT t.2.2.2.2.1, yx t.2.2.2.2.2])]⟩
def yim : Gk wF := fun κ => wG (fun t => κ (some 0) ⟨dd 7 (vI t :: dd 19 []), []⟩)
def yk7 : Lp := lpC 3 (unG yyv y6M) @yim lpN
theorem yqs : LF yk6 yk7 181 3 Tryz.f181 0 y6M @yim fun t => t := fun R κ again t => by kernel_rfl
theorem yqt : LK yk6 yk7 181 Tryz.f181 0 := lkN (u := (unG yyv y6M)) (yt fun t => by kernel_rfl) yqs
theorem yuW : EV yk6 yk7 181 Tryz.f181 yoC ytb [(.int .i64)] jy := fun x => by kernel_rfl
def yAe : QF := ⟨181, jy, okN (n := 1) Tryz.func181 ⟨yqt, trivial⟩ yuW⟩
abbrev Vm : Type := yyw
def wl (k0 : ytc → Option R) (k1 : ygk → Option R) (again : Vm → Option R) (t2 : Vm) : Option R :=
 bif (decide (t2.2.2.2.1 < (List.length t2.1 : Int))) then if (0 : Int) ≤ t2.2.2.2.1 then if t2.2.2.2.1 < (List.length t2.1 : Int) then Option.bind (bif ((y6 t2.1 t2.2.2.2.1).1 == t2.2.1) then if (0 : Int) ≤ t2.2.2.2.1 then if t2.2.2.2.1 < (List.length t2.1 : Int) then some ((y6 t2.1 t2.2.2.2.1).2.1 == t2.2.2.1) else none else none else some false) fun u1 => bif u1 then if (0 : Int) ≤ t2.2.2.2.1 then if t2.2.2.2.1 < (List.length t2.1 : Int) then k0 (true, (y6 t2.1 t2.2.2.2.1).1, (y6 t2.1 t2.2.2.2.1).2.1, (y6 t2.1 t2.2.2.2.1).2.2.1, (y6 t2.1 t2.2.2.2.1).2.2.2.1, (y6 t2.1 t2.2.2.2.1).2.2.2.2) else none else none else again (t2.1, t2.2.1, t2.2.2.1, (Go.IntKind.wrap .i64 (t2.2.2.2.1 + (1 : Int))), t2.2.2.2.2.1, t2.2.2.2.2.2.1, t2.2.2.2.2.2.2.1, t2.2.2.2.2.2.2.2.1, t2.2.2.2.2.2.2.2.2) else none else none else k1 t2.2.2.2.2
def y0D k0 k1 := zL (@wl R k0 k1) Y4
def W0 (x : yyy) : Option ygl :=
 y0D (fun x2 => some (x2.2.1, x2.2.2.1, x2.2.2.2.1, x2.2.2.2.2.1, x2.2.2.2.2.2, x2.1)) (fun x3 => some ((0 : Int), (0 : Int), (0 : Int), (0 : Int), (0 : Int), false)) (x.1, x.2.1, x.2.2, (0 : Int), (0 : Int), (0 : Int), (0 : Int), (0 : Int), (0 : Int))
def yk8 : List QF := []
def y6N (t : yyw) : St := ⟨qs t.1 :: vI t.2.1 :: vI t.2.2.1 :: dd 3 (.box 6 0 :: .dead :: vI t.2.2.2.1 :: dd 27 []), [(6, .box [vI t.2.2.2.2.1, vI t.2.2.2.2.2.1, vI t.2.2.2.2.2.2.1, vI t.2.2.2.2.2.2.2.1, vI t.2.2.2.2.2.2.2.2])]⟩
def yin : Gk Vm := fun κ => wl (fun t => κ none ⟨dd 6 (.box 6 0 :: vB t.1 :: dd 28 []), [(6, .box [vI t.2.1, vI t.2.2.1, vI t.2.2.2.1, vI t.2.2.2.2.1, vI t.2.2.2.2.2])]⟩) (fun t => κ (some 0) ⟨dd 6 (.box 6 0 :: dd 29 []), [(6, .box [vI t.1, vI t.2.1, vI t.2.2.1, vI t.2.2.2.1, vI t.2.2.2.2])]⟩)
def yk9 : Lp := lpC 2 (unG yyx y6N) @yin lpN
theorem yqu : LF yk8 yk9 200 2 Tryz.f200 0 y6N @yin fun t => t := fun R κ again t => by kernel_rfl
theorem yqv : LK yk8 yk9 200 Tryz.f200 0 := lkN (u := (unG yyx y6N)) (yt fun t => by kernel_rfl) yqu
theorem yuX : EV yk8 yk9 200 Tryz.f200 yoD yyz ygm W0 := fun x => by kernel_rfl
def yAf : QF := ⟨200, W0, okN (n := 1) Tryz.func200 ⟨yqv, trivial⟩ yuX⟩
abbrev Wi : Type := yyA
def Wj (k0 : ytc → Option R) (k1 : ygk → Option R) (again : Wi → Option R) (t2 : Wi) : Option R :=
 bif (decide (t2.2.2.1 ≥ (0 : Int))) then if (0 : Int) ≤ t2.2.2.1 then if t2.2.2.1 < (List.length t2.2.2.2.1 : Int) then Option.bind (W0 ((yq t2.2.2.2.1 t2.2.2.1), t2.1, t2.2.1)) fun r1 => Option.bind (bif r1.2.2.2.2.2 then some (r1.2.2.1 == (0 : Int)) else some false) fun u2 => bif u2 then k0 (false, (0 : Int), (0 : Int), (0 : Int), (0 : Int), (0 : Int)) else bif r1.2.2.2.2.2 then k0 (true, r1.1, r1.2.1, r1.2.2.1, r1.2.2.2.1, r1.2.2.2.2.1) else again (t2.1, t2.2.1, (Go.IntKind.wrap .i64 (t2.2.2.1 - (1 : Int))), t2.2.2.2.1, t2.2.2.2.2.1, t2.2.2.2.2.2.1, t2.2.2.2.2.2.2.1, t2.2.2.2.2.2.2.2.1, t2.2.2.2.2.2.2.2.2) else none else none else k1 t2.2.2.2.2
def Qp k0 k1 := zL (@Wj R k0 k1) Y4
def Wk (x : ylZ) : Option ygl :=
 Qp (fun x3 => some (x3.2.1, x3.2.2.1, x3.2.2.2.1, x3.2.2.2.2.1, x3.2.2.2.2.2, x3.1)) (fun x4 => some ((0 : Int), (0 : Int), (0 : Int), (0 : Int), (0 : Int), false)) (x.2.1, x.2.2, (Go.IntKind.wrap .i64 ((List.length x.1 : Int) - (1 : Int))), x.1, (0 : Int), (0 : Int), (0 : Int), (0 : Int), (0 : Int))
def yka : List QF := [yAf]
def y6O (t : yyA) : St := ⟨.dead :: vI t.1 :: vI t.2.1 :: .box 3 0 :: dd 2 (.box 6 0 :: .dead :: vI t.2.2.1 :: dd 31 []), [(3, .box [Yr t.2.2.2.1]), (6, .box [vI t.2.2.2.2.1, vI t.2.2.2.2.2.1, vI t.2.2.2.2.2.2.1, vI t.2.2.2.2.2.2.2.1, vI t.2.2.2.2.2.2.2.2])]⟩
def yio : Gk Wi := fun κ => Wj (fun t => κ none ⟨dd 6 (.box 6 0 :: vB t.1 :: dd 32 []), [(6, .box [vI t.2.1, vI t.2.2.1, vI t.2.2.2.1, vI t.2.2.2.2.1, vI t.2.2.2.2.2])]⟩) (fun t => κ (some 0) ⟨dd 6 (.box 6 0 :: dd 33 []), [(6, .box [vI t.1, vI t.2.1, vI t.2.2.1, vI t.2.2.2.1, vI t.2.2.2.2])]⟩)
def ykb : Lp := lpC 2 (unG yyB y6O) @yio lpN
theorem yqw : LF yka ykb 182 2 Tryz.f182 0 y6O @yio fun t => t := fun R κ again t => by kernel_rfl
theorem yqx : LK yka ykb 182 Tryz.f182 0 := lkN (u := (unG yyB y6O)) (yt fun t => by kernel_rfl) yqw
theorem yuY : EV yka ykb 182 Tryz.f182 yoE ytd ygm Wk := fun x => by kernel_rfl
def yBj : QF := ⟨182, Wk, okN (n := 1) Tryz.func182 ⟨yqx, trivial⟩ yuY⟩
def j9 (x : yta) : Option ygl :=
 Option.bind (jy x) fun r1 => Option.bind (yC (r1, (0 : Int), (Go.IntKind.wrap .i64 ((List.length x.2.1 : Int) - (1 : Int))))) fun r2 => bif (!r2) then some ((0 : Int), (0 : Int), (0 : Int), (0 : Int), (0 : Int), false) else if (0 : Int) ≤ r1 then if r1 < (List.length x.2.1 : Int) then Option.bind (Wk ((yf x.2.1 r1), x.2.2.1, x.2.2.2)) fun r3 => some r3 else none else none
theorem yuZ : EV [y6j, yAe, yBj] lpN 166 Tryz.f166 yoF ytb ygm j9 := fun x => by kernel_rfl
def yv0 : QF := ⟨166, j9, okN (n := 0) Tryz.func166 trivial yuZ⟩
def yS (x : List y8) : Option (List y9) :=
 bif ((List.length x : Int) == (0 : Int)) then some ([] : List y9) else if (List.length ([] : List y8) + List.length x) * 40 < 140737488355328 then some ([(([] : List y8) ++ x)] : List y9) else none
theorem yv1 : EV [] lpN 188 Tryz.f188 yoG [(.sl 63 yi)] [(.sl 58 yp)] yS := fun x => by kernel_rfl
def ysF : QF := ⟨188, yS, okN (n := 0) Tryz.func188 trivial yv1⟩
def wm (x : yte) : Option yyC :=
 Option.bind (zi x.1) fun r1 => bif (decide ((Go.IntKind.wrap .i64 ((List.length r1 : Int) - (1 : Int))) ≥ (0 : Int))) then if (0 : Int) ≤ (Go.IntKind.wrap .i64 ((List.length r1 : Int) - (1 : Int))) then if (Go.IntKind.wrap .i64 ((List.length r1 : Int) - (1 : Int))) < (List.length r1 : Int) then Option.bind (W0 ((yq r1 (Go.IntKind.wrap .i64 ((List.length r1 : Int) - (1 : Int)))), x.2.1, x.2.2.1)) fun r2 => Option.bind (bif (decide ((Go.IntKind.wrap .i64 ((List.length r1 : Int) - (1 : Int))) ≥ (0 : Int))) then if (0 : Int) ≤ (Go.IntKind.wrap .i64 ((List.length r1 : Int) - (1 : Int))) then if (Go.IntKind.wrap .i64 ((List.length r1 : Int) - (1 : Int))) < (List.length r1 : Int) then Option.bind (bif (decide (((List.length (yq r1 (Go.IntKind.wrap .i64 ((List.length r1 : Int) - (1 : Int)))) : Nat) : Int) < (4 : Int))) then some true else some r2.2.2.2.2.2) fun u4 => some u4 else none else none else some false) fun u3 => bif u3 then if (0 : Int) ≤ (Go.IntKind.wrap .i64 ((List.length r1 : Int) - (1 : Int))) then if (Go.IntKind.wrap .i64 ((List.length r1 : Int) - (1 : Int))) < (List.length r1 : Int) then Option.bind (zB ((yq r1 (Go.IntKind.wrap .i64 ((List.length r1 : Int) - (1 : Int)))), x.2.1, x.2.2.1, x.2.2.2.1, x.2.2.2.2.1, x.2.2.2.2.2)) fun r5 => if (0 : Int) ≤ (Go.IntKind.wrap .i64 ((List.length r1 : Int) - (1 : Int))) then if (Go.IntKind.wrap .i64 ((List.length r1 : Int) - (1 : Int))) < (List.length r1 : Int) then Option.bind (zp (List.set r1 (Int.toNat (Go.IntKind.wrap .i64 ((List.length r1 : Int) - (1 : Int)))) r5)) fun r6 => bif r6 then some ((List.set r1 (Int.toNat (Go.IntKind.wrap .i64 ((List.length r1 : Int) - (1 : Int)))) r5), true) else Option.bind (yD x.1) fun r7 => Option.bind (zB (r7, x.2)) fun r8 => Option.bind (zW r8) fun r9 => bif (decide ((List.length r9 : Int) > (8 : Int))) then Option.bind (zi x.1) fun r10 => some (r10, false) else Option.bind (yS r9) fun r11 => Option.bind (zp r11) fun r12 => bif (!r12) then Option.bind (zi x.1) fun r13 => some (r13, false) else Option.bind (yS r9) fun r14 => some (r14, true) else none else none else none else none else if (List.length r1 + List.length ([([x.2] : List y8)] : List y9)) * 24 < 140737488355328 then Option.bind (zp (r1 ++ ([([x.2] : List y8)] : List y9))) fun r15 => bif r15 then some ((r1 ++ ([([x.2] : List y8)] : List y9)), true) else Option.bind (yD x.1) fun r16 => Option.bind (zB (r16, x.2)) fun r17 => Option.bind (zW r17) fun r18 => bif (decide ((List.length r18 : Int) > (8 : Int))) then Option.bind (zi x.1) fun r19 => some (r19, false) else Option.bind (yS r18) fun r20 => Option.bind (zp r20) fun r21 => bif (!r21) then Option.bind (zi x.1) fun r22 => some (r22, false) else Option.bind (yS r18) fun r23 => some (r23, true) else none else none else none else Option.bind (bif (decide ((Go.IntKind.wrap .i64 ((List.length r1 : Int) - (1 : Int))) ≥ (0 : Int))) then if (0 : Int) ≤ (Go.IntKind.wrap .i64 ((List.length r1 : Int) - (1 : Int))) then if (Go.IntKind.wrap .i64 ((List.length r1 : Int) - (1 : Int))) < (List.length r1 : Int) then Option.bind (bif (decide (((List.length (yq r1 (Go.IntKind.wrap .i64 ((List.length r1 : Int) - (1 : Int)))) : Nat) : Int) < (4 : Int))) then some true else some false) fun u25 => some u25 else none else none else some false) fun u24 => bif u24 then if (0 : Int) ≤ (Go.IntKind.wrap .i64 ((List.length r1 : Int) - (1 : Int))) then if (Go.IntKind.wrap .i64 ((List.length r1 : Int) - (1 : Int))) < (List.length r1 : Int) then Option.bind (zB ((yq r1 (Go.IntKind.wrap .i64 ((List.length r1 : Int) - (1 : Int)))), x.2.1, x.2.2.1, x.2.2.2.1, x.2.2.2.2.1, x.2.2.2.2.2)) fun r26 => if (0 : Int) ≤ (Go.IntKind.wrap .i64 ((List.length r1 : Int) - (1 : Int))) then if (Go.IntKind.wrap .i64 ((List.length r1 : Int) - (1 : Int))) < (List.length r1 : Int) then Option.bind (zp (List.set r1 (Int.toNat (Go.IntKind.wrap .i64 ((List.length r1 : Int) - (1 : Int)))) r26)) fun r27 => bif r27 then some ((List.set r1 (Int.toNat (Go.IntKind.wrap .i64 ((List.length r1 : Int) - (1 : Int)))) r26), true) else Option.bind (yD x.1) fun r28 => Option.bind (zB (r28, x.2)) fun r29 => Option.bind (zW r29) fun r30 => bif (decide ((List.length r30 : Int) > (8 : Int))) then Option.bind (zi x.1) fun r31 => some (r31, false) else Option.bind (yS r30) fun r32 => Option.bind (zp r32) fun r33 => bif (!r33) then Option.bind (zi x.1) fun r34 => some (r34, false) else Option.bind (yS r30) fun r35 => some (r35, true) else none else none else none else none else if (List.length r1 + List.length ([([x.2] : List y8)] : List y9)) * 24 < 140737488355328 then Option.bind (zp (r1 ++ ([([x.2] : List y8)] : List y9))) fun r36 => bif r36 then some ((r1 ++ ([([x.2] : List y8)] : List y9)), true) else Option.bind (yD x.1) fun r37 => Option.bind (zB (r37, x.2)) fun r38 => Option.bind (zW r38) fun r39 => bif (decide ((List.length r39 : Int) > (8 : Int))) then Option.bind (zi x.1) fun r40 => some (r40, false) else Option.bind (yS r39) fun r41 => Option.bind (zp r41) fun r42 => bif (!r42) then Option.bind (zi x.1) fun r43 => some (r43, false) else Option.bind (yS r39) fun r44 => some (r44, true) else none
theorem yv2 : EV [yA9, yA5, yjD, yug, yuj, ysF, yAf] lpN 184 Tryz.f184 yoH ytf yyD wm := fun x => by kernel_rfl
def yBk : QF := ⟨184, wm, okN (n := 0) Tryz.func184 trivial yv2⟩
def jZ (x : yAF) : Option Qz8 :=
 if (0 : Int) ≤ (0 : Int) then if (0 : Int) ≤ x.2.2.1 then if x.2.2.1 ≤ (List.length x.1 : Int) then if (List.length ([] : List yb) + List.length (List.drop (Int.toNat (0 : Int)) (List.take (Int.toNat x.2.2.1) x.1))) * 8 < 140737488355328 then if (List.length (([] : List yb) ++ (List.drop (Int.toNat (0 : Int)) (List.take (Int.toNat x.2.2.1) x.1))) + List.length x.2.2.2.1) * 8 < 140737488355328 then if (0 : Int) ≤ (Go.IntKind.wrap .i64 (x.2.2.1 + (1 : Int))) then if (Go.IntKind.wrap .i64 (x.2.2.1 + (1 : Int))) ≤ (List.length x.1 : Int) then if (List.length x.1 : Int) ≤ (List.length x.1 : Int) then if (List.length ((([] : List yb) ++ (List.drop (Int.toNat (0 : Int)) (List.take (Int.toNat x.2.2.1) x.1))) ++ x.2.2.2.1) + List.length (List.drop (Int.toNat (Go.IntKind.wrap .i64 (x.2.2.1 + (1 : Int)))) (List.take (Int.toNat (List.length x.1 : Int)) x.1))) * 8 < 140737488355328 then if (0 : Int) ≤ (0 : Int) then if (0 : Int) ≤ x.2.2.1 then if x.2.2.1 ≤ (List.length x.2.1 : Int) then if (List.length ([] : List y0) + List.length (List.drop (Int.toNat (0 : Int)) (List.take (Int.toNat x.2.2.1) x.2.1))) * 24 < 140737488355328 then if (List.length (([] : List y0) ++ (List.drop (Int.toNat (0 : Int)) (List.take (Int.toNat x.2.2.1) x.2.1))) + List.length x.2.2.2.2) * 24 < 140737488355328 then if (0 : Int) ≤ (Go.IntKind.wrap .i64 (x.2.2.1 + (1 : Int))) then if (Go.IntKind.wrap .i64 (x.2.2.1 + (1 : Int))) ≤ (List.length x.2.1 : Int) then if (List.length x.2.1 : Int) ≤ (List.length x.2.1 : Int) then if (List.length ((([] : List y0) ++ (List.drop (Int.toNat (0 : Int)) (List.take (Int.toNat x.2.2.1) x.2.1))) ++ x.2.2.2.2) + List.length (List.drop (Int.toNat (Go.IntKind.wrap .i64 (x.2.2.1 + (1 : Int)))) (List.take (Int.toNat (List.length x.2.1 : Int)) x.2.1))) * 24 < 140737488355328 then some ((((([] : List yb) ++ (List.drop (Int.toNat (0 : Int)) (List.take (Int.toNat x.2.2.1) x.1))) ++ x.2.2.2.1) ++ (List.drop (Int.toNat (Go.IntKind.wrap .i64 (x.2.2.1 + (1 : Int)))) (List.take (Int.toNat (List.length x.1 : Int)) x.1))), (((([] : List y0) ++ (List.drop (Int.toNat (0 : Int)) (List.take (Int.toNat x.2.2.1) x.2.1))) ++ x.2.2.2.2) ++ (List.drop (Int.toNat (Go.IntKind.wrap .i64 (x.2.2.1 + (1 : Int)))) (List.take (Int.toNat (List.length x.2.1 : Int)) x.2.1)))) else none else none else none else none else none else none else none else none else none else none else none else none else none else none else none else none else none else none
theorem yv3 : EV [] lpN 185 Tryz.f185 yoI yAG qz8 jZ := fun x => by kernel_rfl
def yBl : QF := ⟨185, jZ, okN (n := 0) Tryz.func185 trivial yv3⟩
abbrev vn : Type := y9x
def Wl (k0 : Int → Option R) (k1 : Unit → Option R) (again : vn → Option R) (t2 : vn) : Option R :=
 bif (decide ((Go.IntKind.wrap .i64 (t2.1 + (1 : Int))) < (List.length t2.2.2 : Int))) then if (0 : Int) ≤ t2.1 then if t2.1 < (List.length t2.2.2 : Int) then Option.bind (yD (yf t2.2.2 t2.1)) fun r1 => if (0 : Int) ≤ (Go.IntKind.wrap .i64 (t2.1 + (1 : Int))) then if (Go.IntKind.wrap .i64 (t2.1 + (1 : Int))) < (List.length t2.2.2 : Int) then Option.bind (yD (yf t2.2.2 (Go.IntKind.wrap .i64 (t2.1 + (1 : Int))))) fun r2 => bif (decide ((Go.IntKind.wrap .i64 ((List.length r1 : Int) + (List.length r2 : Int))) ≤ (6 : Int))) then k0 t2.1 else again ((Go.IntKind.wrap .i64 (t2.1 + (1 : Int))), t2.2.1, t2.2.2) else none else none else none else none else k1 ()
def Qq k0 k1 := zL (@Wl R k0 k1) Y4
def JJ (x : Qz8) : Option Int :=
 Qq (fun x3 => some x3) (fun x4 => some (-1 : Int)) ((0 : Int), x.1, x.2)
def ykc : List QF := [yjD]
def y6P (t : y9x) : St := ⟨.dead :: .box 1 0 :: .dead :: vI t.1 :: dd 26 [], [(1, .box [yT t.2.1, yx t.2.2])]⟩
def yip : Gk vn := fun κ => Wl (fun t => κ none ⟨dd 2 (vI t :: dd 27 []), []⟩) (fun t => κ (some 0) ⟨dd 30 [], []⟩)
def ykd : Lp := lpC 2 (unG yfy y6P) @yip lpN
theorem yqy : LF ykc ykd 203 2 Tryz.f203 0 y6P @yip fun t => t := fun R κ again t => by kernel_rfl
theorem yqz : LK ykc ykd 203 Tryz.f203 0 := lkN (u := (unG yfy y6P)) (yt fun t => by kernel_rfl) yqy
theorem yv4 : EV ykc ykd 203 Tryz.f203 yoJ qz8 [(.int .i64)] JJ := fun x => by kernel_rfl
def yBm : QF := ⟨203, JJ, okN (n := 1) Tryz.func203 ⟨yqz, trivial⟩ yv4⟩
abbrev vo : Type := y9x
def Wm (k0 : Qz8 → Option R) (again : vo → Option R) (t2 : vo) : Option R :=
 bif (decide (t2.1 ≥ (0 : Int))) then if (0 : Int) ≤ t2.1 then if t2.1 < (List.length t2.2.2 : Int) then Option.bind (yD (yf t2.2.2 t2.1)) fun r2 => if (0 : Int) ≤ (Go.IntKind.wrap .i64 (t2.1 + (1 : Int))) then if (Go.IntKind.wrap .i64 (t2.1 + (1 : Int))) < (List.length t2.2.2 : Int) then Option.bind (yD (yf t2.2.2 (Go.IntKind.wrap .i64 (t2.1 + (1 : Int))))) fun r3 => if (List.length r2 + List.length r3) * 40 < 140737488355328 then if (0 : Int) ≤ (0 : Int) then if (0 : Int) ≤ (Go.IntKind.wrap .i64 (t2.1 + (1 : Int))) then if (Go.IntKind.wrap .i64 (t2.1 + (1 : Int))) ≤ (List.length t2.2.1 : Int) then if (List.length ([] : List yb) + List.length (List.drop (Int.toNat (0 : Int)) (List.take (Int.toNat (Go.IntKind.wrap .i64 (t2.1 + (1 : Int)))) t2.2.1))) * 8 < 140737488355328 then if (0 : Int) ≤ (Go.IntKind.wrap .i64 (t2.1 + (2 : Int))) then if (Go.IntKind.wrap .i64 (t2.1 + (2 : Int))) ≤ (List.length t2.2.1 : Int) then if (List.length t2.2.1 : Int) ≤ (List.length t2.2.1 : Int) then if (List.length (([] : List yb) ++ (List.drop (Int.toNat (0 : Int)) (List.take (Int.toNat (Go.IntKind.wrap .i64 (t2.1 + (1 : Int)))) t2.2.1))) + List.length (List.drop (Int.toNat (Go.IntKind.wrap .i64 (t2.1 + (2 : Int)))) (List.take (Int.toNat (List.length t2.2.1 : Int)) t2.2.1))) * 8 < 140737488355328 then if (0 : Int) ≤ (0 : Int) then if (0 : Int) ≤ t2.1 then if t2.1 ≤ (List.length t2.2.2 : Int) then if (List.length ([] : List y0) + List.length (List.drop (Int.toNat (0 : Int)) (List.take (Int.toNat t2.1) t2.2.2))) * 24 < 140737488355328 then Option.bind (yS (r2 ++ r3)) fun r4 => if (List.length (([] : List y0) ++ (List.drop (Int.toNat (0 : Int)) (List.take (Int.toNat t2.1) t2.2.2))) + List.length ([r4] : List y0)) * 24 < 140737488355328 then if (0 : Int) ≤ (Go.IntKind.wrap .i64 (t2.1 + (2 : Int))) then if (Go.IntKind.wrap .i64 (t2.1 + (2 : Int))) ≤ (List.length t2.2.2 : Int) then if (List.length t2.2.2 : Int) ≤ (List.length t2.2.2 : Int) then if (List.length ((([] : List y0) ++ (List.drop (Int.toNat (0 : Int)) (List.take (Int.toNat t2.1) t2.2.2))) ++ ([r4] : List y0)) + List.length (List.drop (Int.toNat (Go.IntKind.wrap .i64 (t2.1 + (2 : Int)))) (List.take (Int.toNat (List.length t2.2.2 : Int)) t2.2.2))) * 24 < 140737488355328 then Option.bind (JJ (((([] : List yb) ++ (List.drop (Int.toNat (0 : Int)) (List.take (Int.toNat (Go.IntKind.wrap .i64 (t2.1 + (1 : Int)))) t2.2.1))) ++ (List.drop (Int.toNat (Go.IntKind.wrap .i64 (t2.1 + (2 : Int)))) (List.take (Int.toNat (List.length t2.2.1 : Int)) t2.2.1))), (((([] : List y0) ++ (List.drop (Int.toNat (0 : Int)) (List.take (Int.toNat t2.1) t2.2.2))) ++ ([r4] : List y0)) ++ (List.drop (Int.toNat (Go.IntKind.wrap .i64 (t2.1 + (2 : Int)))) (List.take (Int.toNat (List.length t2.2.2 : Int)) t2.2.2))))) fun r5 => again (r5, ((([] : List yb) ++ (List.drop (Int.toNat (0 : Int)) (List.take (Int.toNat (Go.IntKind.wrap .i64 (t2.1 + (1 : Int)))) t2.2.1))) ++ (List.drop (Int.toNat (Go.IntKind.wrap .i64 (t2.1 + (2 : Int)))) (List.take (Int.toNat (List.length t2.2.1 : Int)) t2.2.1))), (((([] : List y0) ++ (List.drop (Int.toNat (0 : Int)) (List.take (Int.toNat t2.1) t2.2.2))) ++ ([r4] : List y0)) ++ (List.drop (Int.toNat (Go.IntKind.wrap .i64 (t2.1 + (2 : Int)))) (List.take (Int.toNat (List.length t2.2.2 : Int)) t2.2.2)))) else none else none else none else none else none else none else none else none else none else none else none else none else none else none else none else none else none else none else none else none else none else none else k0 t2.2
def Qr k0 := zL (@Wm R k0) Y4
def Z2 (x : Qz8) : Option Qz8 :=
 Option.bind (JJ x) fun r1 => Qr (fun x6 => some x6) (r1, x)
def yke : List QF := [yjD, ysF, yBm]
def y6Q (t : y9x) : St := ⟨.dead :: .box 1 0 :: .box 2 0 :: vI t.1 :: dd 56 [], [(1, .box [.own 10000000, .own 10000001]), (2, .box [.nils, .nils]), (10000000, .root true 3 yd t.2.1), (10000001, .root true 99 yg t.2.2)]⟩
def yiq : Gk vo := fun κ => Wm (fun t => κ (some 0) ⟨.dead :: .box 1 0 :: .box 2 0 :: dd 57 [], [(1, .box [.own 10000000, .own 10000001]), (2, .box [.nils, .nils]), (10000000, .root true 3 yd t.1), (10000001, .root true 99 yg t.2)]⟩)
def ykf : Lp := lpC 2 (unG yfy y6Q) @yiq lpN
theorem yqA : LF yke ykf 189 2 Tryz.f189 0 y6Q @yiq fun t => t := fun R κ again t => by kernel_rfl
theorem yqB : LK yke ykf 189 Tryz.f189 0 := lkN (u := (unG yfy y6Q)) (yt fun t => by kernel_rfl) yqA
theorem yv5 : EV yke ykf 189 Tryz.f189 yoK qz8 qz8 Z2 := fun x => by kernel_rfl
def yBn : QF := ⟨189, Z2, okN (n := 1) Tryz.func189 ⟨yqB, trivial⟩ yv5⟩
def zU (x : yyE) : Option yyG :=
 Option.bind (Z1 (x.1, x.2.1)) fun r1 => Option.bind (Yg (x.1, x.2.1)) fun r2 => Option.bind (bif (!r2) then some true else Option.bind (wZ x.2.2) fun r4 => some (!r4)) fun u3 => bif u3 then some (r1.1, r1.2, false) else Option.bind (jy (x.1, x.2.1, x.2.2.1, x.2.2.2.1)) fun r5 => if (0 : Int) ≤ r5 then if r5 < (List.length x.2.1 : Int) then Option.bind (wm ((yf x.2.1 r5), x.2.2.1, x.2.2.2.1, x.2.2.2.2.1, x.2.2.2.2.2.1, x.2.2.2.2.2.2)) fun r6 => if (0 : Int) ≤ r5 then if r5 < (List.length x.1 : Int) then Option.bind (jZ (r1.1, r1.2, r5, ([(zu x.1 r5)] : List yb), ([r6.1] : List y0))) fun r7 => bif (!r6.2) then if (0 : Int) ≤ r5 then if r5 < (List.length x.2.1 : Int) then Option.bind (yD (yf x.2.1 r5)) fun r8 => Option.bind (zB (r8, x.2.2)) fun r9 => Option.bind (zW r9) fun r10 => if (0 : Int) ≤ r5 then if r5 < (List.length x.1 : Int) then if (0 : Int) ≤ (Go.IntKind.wrap .i64 (Int.tdiv (Go.IntKind.wrap .i64 ((List.length r10 : Int) + (1 : Int))) (2 : Int))) then if (Go.IntKind.wrap .i64 (Int.tdiv (Go.IntKind.wrap .i64 ((List.length r10 : Int) + (1 : Int))) (2 : Int))) < (List.length r10 : Int) then Option.bind (JE ((y6 r10 (Go.IntKind.wrap .i64 (Int.tdiv (Go.IntKind.wrap .i64 ((List.length r10 : Int) + (1 : Int))) (2 : Int)))).1, (y6 r10 (Go.IntKind.wrap .i64 (Int.tdiv (Go.IntKind.wrap .i64 ((List.length r10 : Int) + (1 : Int))) (2 : Int)))).2.1, (y6 r10 (Go.IntKind.wrap .i64 (Int.tdiv (Go.IntKind.wrap .i64 ((List.length r10 : Int) + (1 : Int))) (2 : Int)))).2.2.1, (y6 r10 (Go.IntKind.wrap .i64 (Int.tdiv (Go.IntKind.wrap .i64 ((List.length r10 : Int) + (1 : Int))) (2 : Int)))).2.2.2.1, (y6 r10 (Go.IntKind.wrap .i64 (Int.tdiv (Go.IntKind.wrap .i64 ((List.length r10 : Int) + (1 : Int))) (2 : Int)))).2.2.2.2)) fun r11 => if (0 : Int) ≤ (0 : Int) then if (0 : Int) ≤ (Go.IntKind.wrap .i64 (Int.tdiv (Go.IntKind.wrap .i64 ((List.length r10 : Int) + (1 : Int))) (2 : Int))) then if (Go.IntKind.wrap .i64 (Int.tdiv (Go.IntKind.wrap .i64 ((List.length r10 : Int) + (1 : Int))) (2 : Int))) ≤ (List.length r10 : Int) then Option.bind (yS (List.drop (Int.toNat (0 : Int)) (List.take (Int.toNat (Go.IntKind.wrap .i64 (Int.tdiv (Go.IntKind.wrap .i64 ((List.length r10 : Int) + (1 : Int))) (2 : Int)))) r10))) fun r12 => if (0 : Int) ≤ (Go.IntKind.wrap .i64 (Int.tdiv (Go.IntKind.wrap .i64 ((List.length r10 : Int) + (1 : Int))) (2 : Int))) then if (Go.IntKind.wrap .i64 (Int.tdiv (Go.IntKind.wrap .i64 ((List.length r10 : Int) + (1 : Int))) (2 : Int))) ≤ (List.length r10 : Int) then if (List.length r10 : Int) ≤ (List.length r10 : Int) then Option.bind (yS (List.drop (Int.toNat (Go.IntKind.wrap .i64 (Int.tdiv (Go.IntKind.wrap .i64 ((List.length r10 : Int) + (1 : Int))) (2 : Int)))) (List.take (Int.toNat (List.length r10 : Int)) r10))) fun r13 => Option.bind (jZ (r1.1, r1.2, r5, ([(zu x.1 r5), r11] : List yb), ([r12, r13] : List y0))) fun r14 => Option.bind (Z2 r14) fun r15 => Option.bind (Yg r15) fun r16 => bif (!r16) then some (r1.1, r1.2, false) else some (r15.1, r15.2, true) else none else none else none else none else none else none else none else none else none else none else none else none else Option.bind (bif (decide (r5 > (0 : Int))) then Option.bind (yD r6.1) fun r18 => some ((List.length r18 : Int) == (0 : Int)) else some false) fun u17 => bif u17 then Option.bind (jZ (r1.1, r1.2, r5, ([] : List yb), ([] : List y0))) fun r19 => Option.bind (Z2 r19) fun r20 => Option.bind (Yg r20) fun r21 => bif (!r21) then some (r1.1, r1.2, false) else some (r20.1, r20.2, true) else Option.bind (Z2 r7) fun r22 => Option.bind (Yg r22) fun r23 => bif (!r23) then some (r1.1, r1.2, false) else some (r22.1, r22.2, true) else none else none else none else none
theorem yv6 : EV [yA8, yuF, yjD, yA7, yAe, yA3, yBk, yBl, yug, yuj, ysF, yBn] lpN 167 Tryz.f167 yoL yyF yyH zU := fun x => by kernel_rfl
def yv7 : QF := ⟨167, zU, okN (n := 0) Tryz.func167 trivial yv6⟩
def ZB (x : yhT) : Option (List y7) :=
 Option.bind (zX x.1) fun r1 => Option.bind (Zk x.1) fun r2 => Option.bind (bif r2 then Option.bind (yC (x.2, (0 : Int), (Go.IntKind.wrap .i64 ((List.length x.1 : Int) - (1 : Int))))) fun r4 => some r4 else some false) fun u3 => Option.bind (bif u3 then if (0 : Int) ≤ x.2 then if x.2 < (List.length x.1 : Int) then some ((ym x.1 x.2).2.1) else none else none else some false) fun u5 => bif u5 then if (0 : Int) ≤ x.2 then if x.2 < (List.length x.1 : Int) then if (0 : Int) ≤ x.2 then if x.2 < (List.length r1 : Int) then some (List.set r1 (Int.toNat x.2) ((Int.tmod (Go.IntKind.wrap .i64 ((ym x.1 x.2).1 + (1 : Int))) (1000 : Int)), false, (0 : Int))) else none else none else none else none else some r1
theorem yv8 : EV [y6j, yuv, yuH] lpN 176 Tryz.f176 yoM yhU [(.sl 53 yc)] ZB := fun x => by kernel_rfl
def yAg : QF := ⟨176, ZB, okN (n := 0) Tryz.func176 trivial yv8⟩
def wo (x : yAH) : Option Qz9 :=
 Option.bind (bif x.2.2.2.2.2.2.2.2.2.2.2 then some (x.2.2.2.2.2.2.2.2.1 == (1 : Int)) else some false) fun u1 => bif u1 then Option.bind (ZB (x.2.2.2.1, x.2.2.2.2.2.2.2.2.2.1)) fun r2 => some (x.1, x.2.1, x.2.2.1, r2, x.2.2.2.2.1, x.2.2.2.2.2.1) else some (x.1, x.2.1, x.2.2.1, x.2.2.2.1, x.2.2.2.2.1, x.2.2.2.2.2.1)
theorem yv9 : EV [yAg] lpN 168 Tryz.f168 yoN yAI qz9 wo := fun x => by kernel_rfl
def yBo : QF := ⟨168, wo, okN (n := 0) Tryz.func168 trivial yv9⟩
def zD (x : ysB) : Option yjd :=
 Option.bind (j9 (x.1, x.2.1, x.2.2.2.2.2.2.1, x.2.2.2.2.2.2.2.1)) fun r1 => Option.bind (zU (x.1, x.2.1, x.2.2.2.2.2.2)) fun r2 => bif (!r2.2.2) then some (false, x.1, x.2.1, x.2.2.1, x.2.2.2.1, x.2.2.2.2.1, x.2.2.2.2.2.1) else Option.bind (wo (r2.1, r2.2.1, x.2.2.1, x.2.2.2.1, x.2.2.2.2.1, x.2.2.2.2.2.1, r1)) fun r3 => some (true, r3)
theorem yva : EV [yv0, yv7, yBo] lpN 150 Tryz.f150 yoO ysC yt5 zD := fun x => by kernel_rfl
def yvb : QF := ⟨150, zD, okN (n := 0) Tryz.func150 trivial yva⟩
def W2 (x : yAJ) : Option y9y :=
 Option.bind (yl (x.1, x.2.1, x.2.2.1, x.2.2.2.1, x.2.2.2.2.1, x.2.2.2.2.2.1)) fun r1 => Option.bind (YI (x.1, x.2.1, x.2.2.1, x.2.2.2.1, x.2.2.2.2.1, x.2.2.2.2.2.1, x.2.2.2.2.2.2.1, x.2.2.2.2.2.2.2.1)) fun r2 => Option.bind (bif (r2 == (0 : Int)) then Option.bind (zo x.2.2.2.2.2.2.2.2) fun r4 => some (!r4) else some false) fun u3 => bif u3 then bif ((4 : Int) != (0 : Int)) then some (r1.1, r1.2.1, r1.2.2.1, r1.2.2.2.1, r1.2.2.2.2.1, r1.2.2.2.2.2, (4 : Int)) else Option.bind (zY (x.2.2.2.1, x.2.2.2.2.2.2.2.2)) fun r5 => bif r5.2.2 then Option.bind (zn (x.1, x.2.1, x.2.2.1, x.2.2.2.1, x.2.2.2.2.1, x.2.2.2.2.2.1, x.2.2.2.2.2.2.1)) fun r6 => if (0 : Int) ≤ r6 then if r6 < (List.length x.2.2.2.2.1 : Int) then if (0 : Int) ≤ r5.2.1 then if r5.2.1 < (List.length r5.1 : Int) then Option.bind (zD (r1.1, r1.2.1, r1.2.2.1, r5.1, r1.2.2.2.2.1, r1.2.2.2.2.2, x.2.2.2.2.2.2.2.1, (yj x.2.2.2.2.1 r6).2.1, (1 : Int), r5.2.1, (ym r5.1 r5.2.1).1)) fun r7 => Option.bind (yQ (x.1, x.2.1, x.2.2.1, x.2.2.2.1, x.2.2.2.2.1, x.2.2.2.2.2.1, r7.2.1, r7.2.2.1, r7.2.2.2.1, r7.2.2.2.2.1, r7.2.2.2.2.2.1, r7.2.2.2.2.2.2, r7.1)) fun r8 => some r8 else none else none else none else none else Option.bind (yQ (x.1, x.2.1, x.2.2.1, x.2.2.2.1, x.2.2.2.2.1, x.2.2.2.2.2.1, r1.1, r1.2.1, r1.2.2.1, r5.1, r1.2.2.2.2.1, r1.2.2.2.2.2, false)) fun r9 => some r9 else bif (r2 != (0 : Int)) then some (r1.1, r1.2.1, r1.2.2.1, r1.2.2.2.1, r1.2.2.2.2.1, r1.2.2.2.2.2, r2) else Option.bind (zY (x.2.2.2.1, x.2.2.2.2.2.2.2.2)) fun r10 => bif r10.2.2 then Option.bind (zn (x.1, x.2.1, x.2.2.1, x.2.2.2.1, x.2.2.2.2.1, x.2.2.2.2.2.1, x.2.2.2.2.2.2.1)) fun r11 => if (0 : Int) ≤ r11 then if r11 < (List.length x.2.2.2.2.1 : Int) then if (0 : Int) ≤ r10.2.1 then if r10.2.1 < (List.length r10.1 : Int) then Option.bind (zD (r1.1, r1.2.1, r1.2.2.1, r10.1, r1.2.2.2.2.1, r1.2.2.2.2.2, x.2.2.2.2.2.2.2.1, (yj x.2.2.2.2.1 r11).2.1, (1 : Int), r10.2.1, (ym r10.1 r10.2.1).1)) fun r12 => Option.bind (yQ (x.1, x.2.1, x.2.2.1, x.2.2.2.1, x.2.2.2.2.1, x.2.2.2.2.2.1, r12.2.1, r12.2.2.1, r12.2.2.2.1, r12.2.2.2.2.1, r12.2.2.2.2.2.1, r12.2.2.2.2.2.2, r12.1)) fun r13 => some r13 else none else none else none else none else Option.bind (yQ (x.1, x.2.1, x.2.2.1, x.2.2.2.1, x.2.2.2.2.1, x.2.2.2.2.2.1, r1.1, r1.2.1, r1.2.2.1, r10.1, r1.2.2.2.2.1, r1.2.2.2.2.2, false)) fun r14 => some r14
theorem yvc : EV [yeI, ysE, yii, ym1, yuU, yAd, yvb] lpN 113 Tryz.f113 yoP yAK y9z W2 := fun x => by kernel_rfl
def yBp : QF := ⟨113, W2, okN (n := 0) Tryz.func113 trivial yvc⟩
abbrev Wn : Type := yyI
def Wo (k0 : List yb → Option R) (again : Wn → Option R) (t3 : Wn) : Option R :=
 Option.bind (bif (decide (t3.2.1 ≥ (0 : Int))) then some (decide ((List.length t3.2.2 : Int) ≤ (List.length t3.1 : Int))) else some false) fun u2 => bif u2 then if (0 : Int) ≤ t3.2.1 then if t3.2.1 < (List.length t3.1 : Int) then if (List.length t3.2.2 + List.length ([(yO t3.1 t3.2.1).1] : List yb)) * 8 < 140737488355328 then if (0 : Int) ≤ t3.2.1 then if t3.2.1 < (List.length t3.1 : Int) then Option.bind (zK (t3.1, (yO t3.1 t3.2.1).2)) fun r3 => again (t3.1, r3, (t3.2.2 ++ ([(yO t3.1 t3.2.1).1] : List yb))) else none else none else none else none else none else k0 t3.2.2
def Qs k0 := zL (@Wo R k0) Y4
def JK (x : yfz) : Option (List yb) :=
 Option.bind (zK x) fun r1 => Qs (fun x4 => some x4) (x.1, r1, ([] : List yb))
def ykg : List QF := [ym0]
def y6R (t : yyI) : St := ⟨zh t.1 :: dd 4 (.own 10000000 :: vI t.2.1 :: dd 29 []), [(10000000, .root true 3 yd t.2.2)]⟩
def yir : Gk Wn := fun κ => Wo (fun t => κ (some 0) ⟨dd 5 (.own 10000000 :: dd 30 []), [(10000000, .root true 3 yd t)]⟩)
def ykh : Lp := lpC 3 (unG yyJ y6R) @yir lpN
theorem yqC : LF ykg ykh 190 3 Tryz.f190 0 y6R @yir fun t => t := fun R κ again t => by kernel_rfl
theorem yqD : LK ykg ykh 190 Tryz.f190 0 := lkN (u := (unG yyJ y6R)) (yt fun t => by kernel_rfl) yqC
theorem yvd : EV ykg ykh 190 Tryz.f190 yoQ yfA [(.sl 3 yd)] JK := fun x => by kernel_rfl
def yAh : QF := ⟨190, JK, okN (n := 1) Tryz.func190 ⟨yqD, trivial⟩ yvd⟩
abbrev vp : Type := yyK
def J0 (k0 : List y8 → Option R) (again : vp → Option R) (t4 : vp) : Option R :=
 bif (decide (t4.2.1 < (List.length t4.2.2.2 : Int))) then if (0 : Int) ≤ t4.2.1 then if t4.2.1 < (List.length t4.2.2.2 : Int) then bif ((y6 t4.2.2.2 t4.2.1).1 == t4.1) then if (0 : Int) ≤ t4.2.1 then if t4.2.1 < (List.length t4.2.2.2 : Int) then if (List.length t4.2.2.1 + List.length ([((y6 t4.2.2.2 t4.2.1).1, (y6 t4.2.2.2 t4.2.1).2.1, (y6 t4.2.2.2 t4.2.1).2.2.1, (y6 t4.2.2.2 t4.2.1).2.2.2.1, (y6 t4.2.2.2 t4.2.1).2.2.2.2)] : List y8)) * 40 < 140737488355328 then again (t4.1, (Go.IntKind.wrap .i64 (t4.2.1 + (1 : Int))), (t4.2.2.1 ++ ([((y6 t4.2.2.2 t4.2.1).1, (y6 t4.2.2.2 t4.2.1).2.1, (y6 t4.2.2.2 t4.2.1).2.2.1, (y6 t4.2.2.2 t4.2.1).2.2.2.1, (y6 t4.2.2.2 t4.2.1).2.2.2.2)] : List y8)), t4.2.2.2) else none else none else none else again (t4.1, (Go.IntKind.wrap .i64 (t4.2.1 + (1 : Int))), t4.2.2.1, t4.2.2.2) else none else none else k0 t4.2.2.1
def Qt k0 := zL (@J0 R k0) Y4
def Wp (x : ylT) : Option (List y8) :=
 Option.bind (yM (x.1, x.2.1)) fun r1 => Qt (fun x2 => some x2) (x.2.2, (0 : Int), ([] : List y8), r1)
def yki : List QF := [yjG]
def y6S (t : yyK) : St := ⟨.dead :: vI t.1 :: dd 3 (.own 10000000 :: .own 10000001 :: vI t.2.1 :: dd 24 []), [(10000000, .root true 63 yi t.2.2.1), (10000001, .root true 63 yi t.2.2.2)]⟩
def yis : Gk vp := fun κ => J0 (fun t => κ (some 0) ⟨dd 5 (.own 10000000 :: dd 26 []), [(10000000, .root true 63 yi t)]⟩)
def ykj : Lp := lpC 4 (unG yyL y6S) @yis lpN
theorem yqE : LF yki ykj 204 4 Tryz.f204 0 y6S @yis fun t => t := fun R κ again t => by kernel_rfl
theorem yqF : LK yki ykj 204 Tryz.f204 0 := lkN (u := (unG yyL y6S)) (yt fun t => by kernel_rfl) yqE
theorem yve : EV yki ykj 204 Tryz.f204 yoR ylU [(.sl 63 yi)] Wp := fun x => by kernel_rfl
def yBq : QF := ⟨204, Wp, okN (n := 1) Tryz.func204 ⟨yqF, trivial⟩ yve⟩
abbrev Vn : Type := yyM
def wq (k0 : Bool → Option R) (k1 : Unit → Option R) (again : Vn → Option R) (t2 : Vn) : Option R :=
 bif (decide (t2.2.2 < (List.length t2.1 : Int))) then if (0 : Int) ≤ t2.2.2 then if t2.2.2 < (List.length t2.1 : Int) then bif ((zu t2.1 t2.2.2) == t2.2.1) then k0 true else again (t2.1, t2.2.1, (Go.IntKind.wrap .i64 (t2.2.2 + (1 : Int)))) else none else none else k1 ()
def y0E k0 k1 := zL (@wq R k0 k1) Y4
def Ke (x : ytg) : Option Bool :=
 y0E (fun x1 => some x1) (fun x2 => some false) (x.1, x.2, (0 : Int))
def ykk : List QF := []
def y6T (t : yyM) : St := ⟨yT t.1 :: vI t.2.1 :: dd 3 (vI t.2.2 :: dd 12 []), []⟩
def yit : Gk Vn := fun κ => wq (fun t => κ none ⟨dd 4 (vB t :: dd 13 []), []⟩) (fun t => κ (some 0) ⟨dd 18 [], []⟩)
def ykl : Lp := lpC 2 (unG yyN y6T) @yit lpN
theorem yqG : LF ykk ykl 205 2 Tryz.f205 0 y6T @yit fun t => t := fun R κ again t => by kernel_rfl
theorem yqH : LK ykk ykl 205 Tryz.f205 0 := lkN (u := (unG yyN y6T)) (yt fun t => by kernel_rfl) yqG
theorem yvf : EV ykk ykl 205 Tryz.f205 yoS yth [.bool] Ke := fun x => by kernel_rfl
def yBr : QF := ⟨205, Ke, okN (n := 1) Tryz.func205 ⟨yqH, trivial⟩ yvf⟩
abbrev vq : Type := yyO
def J1 (k0 : yyQ → Option R) (again : vq → Option R) (t5 : vq) : Option R :=
 bif (decide (t5.2.2.1 < (List.length t5.2.2.2.2.2.2.2.2.2.2.2.2.2 : Int))) then if (0 : Int) ≤ t5.2.2.1 then if t5.2.2.1 < (List.length t5.2.2.2.2.2.2.2.2.2.2.2.2.2 : Int) then Option.bind (Ke (t5.1, (y6 t5.2.2.2.2.2.2.2.2.2.2.2.2.2 t5.2.2.1).2.1)) fun r2 => Option.bind (bif r2 then Option.bind (bif (!t5.2.1) then some true else if (0 : Int) ≤ t5.2.2.1 then if t5.2.2.1 < (List.length t5.2.2.2.2.2.2.2.2.2.2.2.2.2 : Int) then some (decide ((y6 t5.2.2.2.2.2.2.2.2.2.2.2.2.2 t5.2.2.1).2.1 > t5.2.2.2.2.2.2.2.2.2.1)) else none else none) fun u4 => some u4 else some false) fun u3 => bif u3 then if (0 : Int) ≤ t5.2.2.1 then if t5.2.2.1 < (List.length t5.2.2.2.2.2.2.2.2.2.2.2.2.2 : Int) then again (t5.1, true, (Go.IntKind.wrap .i64 (t5.2.2.1 + (1 : Int))), t5.2.2.2.1, t5.2.2.2.2.1, t5.2.2.2.2.2.1, t5.2.2.2.2.2.2.1, t5.2.2.2.2.2.2.2.1, (y6 t5.2.2.2.2.2.2.2.2.2.2.2.2.2 t5.2.2.1).1, (y6 t5.2.2.2.2.2.2.2.2.2.2.2.2.2 t5.2.2.1).2.1, (y6 t5.2.2.2.2.2.2.2.2.2.2.2.2.2 t5.2.2.1).2.2.1, (y6 t5.2.2.2.2.2.2.2.2.2.2.2.2.2 t5.2.2.1).2.2.2.1, (y6 t5.2.2.2.2.2.2.2.2.2.2.2.2.2 t5.2.2.1).2.2.2.2, t5.2.2.2.2.2.2.2.2.2.2.2.2.2) else none else none else again (t5.1, t5.2.1, (Go.IntKind.wrap .i64 (t5.2.2.1 + (1 : Int))), t5.2.2.2.1, t5.2.2.2.2.1, t5.2.2.2.2.2.1, t5.2.2.2.2.2.2.1, t5.2.2.2.2.2.2.2.1, t5.2.2.2.2.2.2.2.2.1, t5.2.2.2.2.2.2.2.2.2.1, t5.2.2.2.2.2.2.2.2.2.2.1, t5.2.2.2.2.2.2.2.2.2.2.2.1, t5.2.2.2.2.2.2.2.2.2.2.2.2.1, t5.2.2.2.2.2.2.2.2.2.2.2.2.2) else none else none else k0 (t5.2.1, t5.2.2.2.1, t5.2.2.2.2.1, t5.2.2.2.2.2.1, t5.2.2.2.2.2.2.1, t5.2.2.2.2.2.2.2.1, t5.2.2.2.2.2.2.2.2.1, t5.2.2.2.2.2.2.2.2.2.1, t5.2.2.2.2.2.2.2.2.2.2.1, t5.2.2.2.2.2.2.2.2.2.2.2.1, t5.2.2.2.2.2.2.2.2.2.2.2.2.1)
def Qu k0 := zL (@J1 R k0) Y4
def ja (x : yyR) : Option ygl :=
 Option.bind (Wp (x.1, x.2.1, x.2.2.1)) fun r1 => Qu (fun x5 => some (x5.2.2.2.2.2.2.1, x5.2.2.2.2.2.2.2.1, x5.2.2.2.2.2.2.2.2.1, x5.2.2.2.2.2.2.2.2.2.1, x5.2.2.2.2.2.2.2.2.2.2, x5.1)) (x.2.2.2, false, (0 : Int), (0 : Int), (0 : Int), (0 : Int), (0 : Int), (0 : Int), (0 : Int), (0 : Int), (0 : Int), (0 : Int), (0 : Int), r1)
def ykm : List QF := [yBq, yBr]
def y6U (t : yyO) : St := ⟨dd 2 (yT t.1 :: dd 3 (.box 6 0 :: .dead :: .box 8 0 :: vB t.2.1 :: .own 10000000 :: vI t.2.2.1 :: dd 37 [])), [(6, .box [vI t.2.2.2.1, vI t.2.2.2.2.1, vI t.2.2.2.2.2.1, vI t.2.2.2.2.2.2.1, vI t.2.2.2.2.2.2.2.1]), (8, .box [vI t.2.2.2.2.2.2.2.2.1, vI t.2.2.2.2.2.2.2.2.2.1, vI t.2.2.2.2.2.2.2.2.2.2.1, vI t.2.2.2.2.2.2.2.2.2.2.2.1, vI t.2.2.2.2.2.2.2.2.2.2.2.2.1]), (10000000, .root true 63 yi t.2.2.2.2.2.2.2.2.2.2.2.2.2)]⟩
def yiu : Gk vq := fun κ => J1 (fun t => κ (some 0) ⟨dd 6 (.box 6 0 :: .dead :: .box 8 0 :: vB t.1 :: dd 39 []), [(6, .box [vI t.2.1, vI t.2.2.1, vI t.2.2.2.1, vI t.2.2.2.2.1, vI t.2.2.2.2.2.1]), (8, .box [vI t.2.2.2.2.2.2.1, vI t.2.2.2.2.2.2.2.1, vI t.2.2.2.2.2.2.2.2.1, vI t.2.2.2.2.2.2.2.2.2.1, vI t.2.2.2.2.2.2.2.2.2.2])]⟩)
def ykn : Lp := lpC 5 (unG yyP y6U) @yiu lpN
theorem yqI : LF ykm ykn 191 5 Tryz.f191 0 y6U @yiu fun t => t := fun R κ again t => by kernel_rfl
theorem yqJ : LK ykm ykn 191 Tryz.f191 0 := lkN (u := (unG yyP y6U)) (yt fun t => by kernel_rfl) yqI
theorem yvg : EV ykm ykn 191 Tryz.f191 yoT yyS ygm ja := fun x => by kernel_rfl
def yAi : QF := ⟨191, ja, okN (n := 1) Tryz.func191 ⟨yqJ, trivial⟩ yvg⟩
def YU (x : yti) : Option ygl :=
 Option.bind (JK (x.2.2.1, x.2.2.2.2)) fun r1 => bif ((List.length r1 : Int) == (0 : Int)) then some ((0 : Int), (0 : Int), (0 : Int), (0 : Int), (0 : Int), false) else if (0 : Int) ≤ (1 : Int) then if (1 : Int) ≤ (List.length r1 : Int) then if (List.length r1 : Int) ≤ (List.length r1 : Int) then Option.bind (ja (x.1, x.2.1, x.2.2.2.1, (List.drop (Int.toNat (1 : Int)) (List.take (Int.toNat (List.length r1 : Int)) r1)))) fun r2 => some r2 else none else none else none
theorem yvh : EV [yAh, yAi] lpN 169 Tryz.f169 yoU ytj ygm YU := fun x => by kernel_rfl
def yAj : QF := ⟨169, YU, okN (n := 0) Tryz.func169 trivial yvh⟩
def Yb (x : yyT) : Option yjd :=
 if (0 : Int) ≤ x.2.2.2.2.2.2.1 then if x.2.2.2.2.2.2.1 < (List.length x.2.2.2.2.1 : Int) then Option.bind (YU (x.1, x.2.1, x.2.2.1, x.2.2.2.2.2.2.2, (yj x.2.2.2.2.1 x.2.2.2.2.2.2.1).2.1)) fun r1 => Option.bind (bif r1.2.2.2.2.2 then some (r1.2.2.1 == (1 : Int)) else some false) fun u2 => bif u2 then Option.bind (zD (x.1, x.2.1, x.2.2.1, x.2.2.2.1, x.2.2.2.2.1, x.2.2.2.2.2.1, x.2.2.2.2.2.2.2, (yj x.2.2.2.2.1 x.2.2.2.2.2.2.1).2.1, (2 : Int), (0 : Int), (0 : Int))) fun r3 => some r3 else Option.bind (j9 (x.1, x.2.1, x.2.2.2.2.2.2.2, (yj x.2.2.2.2.1 x.2.2.2.2.2.2.1).2.1)) fun r4 => bif (!r4.2.2.2.2.2) then some (true, x.1, x.2.1, x.2.2.1, x.2.2.2.1, x.2.2.2.2.1, x.2.2.2.2.2.1) else Option.bind (zD (x.1, x.2.1, x.2.2.1, x.2.2.2.1, x.2.2.2.2.1, x.2.2.2.2.2.1, x.2.2.2.2.2.2.2, (yj x.2.2.2.2.1 x.2.2.2.2.2.2.1).2.1, (0 : Int), (0 : Int), (0 : Int))) fun r5 => some r5 else none else none
theorem yvi : EV [yvb, yv0, yAj] lpN 151 Tryz.f151 yoV yyU yt5 Yb := fun x => by kernel_rfl
def yAk : QF := ⟨151, Yb, okN (n := 0) Tryz.func151 trivial yvi⟩
def jz (x : ysz) : Option y9y :=
 Option.bind (yl (x.1, x.2.1, x.2.2.1, x.2.2.2.1, x.2.2.2.2.1, x.2.2.2.2.2.1)) fun r1 => Option.bind (YI x) fun r2 => bif (r2 != (0 : Int)) then some (r1.1, r1.2.1, r1.2.2.1, r1.2.2.2.1, r1.2.2.2.2.1, r1.2.2.2.2.2, r2) else Option.bind (zn (x.1, x.2.1, x.2.2.1, x.2.2.2.1, x.2.2.2.2.1, x.2.2.2.2.2.1, x.2.2.2.2.2.2.1)) fun r3 => Option.bind (Yb (r1.1, r1.2.1, r1.2.2.1, r1.2.2.2.1, r1.2.2.2.2.1, r1.2.2.2.2.2, r3, x.2.2.2.2.2.2.2)) fun r4 => Option.bind (yQ (x.1, x.2.1, x.2.2.1, x.2.2.2.1, x.2.2.2.2.1, x.2.2.2.2.2.1, r4.2.1, r4.2.2.1, r4.2.2.2.1, r4.2.2.2.2.1, r4.2.2.2.2.2.1, r4.2.2.2.2.2.2, r4.1)) fun r5 => some r5
theorem yvj : EV [yeI, yii, ym1, yuU, yAk] lpN 114 Tryz.f114 yoW ysA y9z jz := fun x => by kernel_rfl
def yBs : QF := ⟨114, jz, okN (n := 0) Tryz.func114 trivial yvj⟩
abbrev wH : Type := ymm ⊕ ymn
def jm (k0 : yAL → Option R) (k1 : yAM → Option R) (again : wH → Option R) : wH → Option R
 | .inl t10 => Option.bind (bif (decide (t10.2.2.2.1 ≥ t10.1)) then some t10.2.2.1 else some false) fun u15 => bif u15 then Option.bind (Yb (t10.2.2.2.2.2.2.2.2.2.2.2.2.1, t10.2.2.2.2.2.2.2.2.2.2.2.2.2.1, t10.2.2.2.2.2.2.2.2.2.2.2.2.2.2.1, t10.2.2.2.2.2.2.2.2.2.2.2.2.2.2.2.1, t10.2.2.2.2.2.2.2.2.2.2.2.2.2.2.2.2, t10.2.2.2.2.2.2.2.2.2.2.2.1, t10.2.1, t10.2.2.2.1)) fun r16 => again (Sum.inr (t10.1, t10.2.1, r16.1, (Go.IntKind.wrap .i64 (t10.2.2.2.1 - (1 : Int))), t10.2.2.2.2.1, t10.2.2.2.2.2.1, t10.2.2.2.2.2.2.1, t10.2.2.2.2.2.2.2.1, t10.2.2.2.2.2.2.2.2.1, t10.2.2.2.2.2.2.2.2.2.1, t10.2.2.2.2.2.2.2.2.2.2.1, r16.2.1, r16.2.2.1, r16.2.2.2.1, r16.2.2.2.2.2.2, r16.2.2.2.2.1, r16.2.2.2.2.2.1)) else k0 (t10.1, t10.2.1, t10.2.2.1, t10.2.2.2.2)
 | .inr t10 => Option.bind (bif (decide (t10.2.2.2.1 ≥ t10.1)) then some t10.2.2.1 else some false) fun u17 => bif u17 then Option.bind (Yb (t10.2.2.2.2.2.2.2.2.2.2.2.1, t10.2.2.2.2.2.2.2.2.2.2.2.2.1, t10.2.2.2.2.2.2.2.2.2.2.2.2.2.1, t10.2.2.2.2.2.2.2.2.2.2.2.2.2.2.2.1, t10.2.2.2.2.2.2.2.2.2.2.2.2.2.2.2.2, t10.2.2.2.2.2.2.2.2.2.2.2.2.2.2.1, t10.2.1, t10.2.2.2.1)) fun r18 => again (Sum.inr (t10.1, t10.2.1, r18.1, (Go.IntKind.wrap .i64 (t10.2.2.2.1 - (1 : Int))), t10.2.2.2.2.1, t10.2.2.2.2.2.1, t10.2.2.2.2.2.2.1, t10.2.2.2.2.2.2.2.1, t10.2.2.2.2.2.2.2.2.1, t10.2.2.2.2.2.2.2.2.2.1, t10.2.2.2.2.2.2.2.2.2.2.1, r18.2.1, r18.2.2.1, r18.2.2.2.1, r18.2.2.2.2.2.2, r18.2.2.2.2.1, r18.2.2.2.2.2.1)) else k1 (t10.1, t10.2.1, t10.2.2.1, t10.2.2.2.2)
def wI k0 k1 := zL (@jm R k0 k1) Y4
def JL (x : ysz) : Option y9y :=
 Option.bind (yl (x.1, x.2.1, x.2.2.1, x.2.2.2.1, x.2.2.2.2.1, x.2.2.2.2.2.1)) fun r1 => Option.bind (YI (x.1, x.2.1, x.2.2.1, x.2.2.2.1, x.2.2.2.2.1, x.2.2.2.2.2.1, x.2.2.2.2.2.2.1, (0 : Int))) fun r2 => Option.bind (bif (r2 == (0 : Int)) then Option.bind (yC (x.2.2.2.2.2.2.2, (1 : Int), (12 : Int))) fun r4 => some (!r4) else some false) fun u3 => bif u3 then bif ((4 : Int) != (0 : Int)) then some (r1.1, r1.2.1, r1.2.2.1, r1.2.2.2.1, r1.2.2.2.2.1, r1.2.2.2.2.2, (4 : Int)) else Option.bind (zn (x.1, x.2.1, x.2.2.1, x.2.2.2.1, x.2.2.2.2.1, x.2.2.2.2.2.1, x.2.2.2.2.2.2.1)) fun r5 => if (0 : Int) ≤ r5 then if r5 < (List.length x.2.2.2.2.1 : Int) then wI (fun x10 => if (0 : Int) ≤ x10.2.1 then if x10.2.1 < (List.length x10.2.2.2.2.2.2.2.2.2.2.2.2.2.2.2 : Int) then Option.bind (yQ (x10.2.2.2.1, x10.2.2.2.2.1, x10.2.2.2.2.2.1, x10.2.2.2.2.2.2.1, x10.2.2.2.2.2.2.2.1, x10.2.2.2.2.2.2.2.2.1, x10.2.2.2.2.2.2.2.2.2.2.2.1, x10.2.2.2.2.2.2.2.2.2.2.2.2.1, x10.2.2.2.2.2.2.2.2.2.2.2.2.2.1, x10.2.2.2.2.2.2.2.2.2.2.2.2.2.2.1, (List.set x10.2.2.2.2.2.2.2.2.2.2.2.2.2.2.2 (Int.toNat x10.2.1) ((yj x10.2.2.2.2.2.2.2.2.2.2.2.2.2.2.2 x10.2.1).1, (yj x10.2.2.2.2.2.2.2.2.2.2.2.2.2.2.2 x10.2.1).2.1, x10.1, (yj x10.2.2.2.2.2.2.2.2.2.2.2.2.2.2.2 x10.2.1).2.2.2)), x10.2.2.2.2.2.2.2.2.2.2.1, x10.2.2.1)) fun r11 => some r11 else none else none) (fun x12 => if (0 : Int) ≤ x12.2.1 then if x12.2.1 < (List.length x12.2.2.2.2.2.2.2.2.2.2.2.2.2.2.2 : Int) then Option.bind (yQ (x12.2.2.2.1, x12.2.2.2.2.1, x12.2.2.2.2.2.1, x12.2.2.2.2.2.2.1, x12.2.2.2.2.2.2.2.1, x12.2.2.2.2.2.2.2.2.1, x12.2.2.2.2.2.2.2.2.2.2.1, x12.2.2.2.2.2.2.2.2.2.2.2.1, x12.2.2.2.2.2.2.2.2.2.2.2.2.1, x12.2.2.2.2.2.2.2.2.2.2.2.2.2.2.1, (List.set x12.2.2.2.2.2.2.2.2.2.2.2.2.2.2.2 (Int.toNat x12.2.1) ((yj x12.2.2.2.2.2.2.2.2.2.2.2.2.2.2.2 x12.2.1).1, (yj x12.2.2.2.2.2.2.2.2.2.2.2.2.2.2.2 x12.2.1).2.1, x12.1, (yj x12.2.2.2.2.2.2.2.2.2.2.2.2.2.2.2 x12.2.1).2.2.2)), x12.2.2.2.2.2.2.2.2.2.2.2.2.2.1, x12.2.2.1)) fun r13 => some r13 else none else none) (Sum.inl (x.2.2.2.2.2.2.2, r5, true, (Go.IntKind.wrap .i64 ((yj x.2.2.2.2.1 r5).2.2.1 - (1 : Int))), x.1, x.2.1, x.2.2.1, x.2.2.2.1, x.2.2.2.2.1, x.2.2.2.2.2.1, (0 : Int), r1.2.2.2.2.2, r1.1, r1.2.1, r1.2.2.1, r1.2.2.2.1, r1.2.2.2.2.1)) else none else none else bif (r2 != (0 : Int)) then some (r1.1, r1.2.1, r1.2.2.1, r1.2.2.2.1, r1.2.2.2.2.1, r1.2.2.2.2.2, r2) else Option.bind (zn (x.1, x.2.1, x.2.2.1, x.2.2.2.1, x.2.2.2.2.1, x.2.2.2.2.2.1, x.2.2.2.2.2.2.1)) fun r14 => if (0 : Int) ≤ r14 then if r14 < (List.length x.2.2.2.2.1 : Int) then wI (fun x19 => if (0 : Int) ≤ x19.2.1 then if x19.2.1 < (List.length x19.2.2.2.2.2.2.2.2.2.2.2.2.2.2.2 : Int) then Option.bind (yQ (x19.2.2.2.1, x19.2.2.2.2.1, x19.2.2.2.2.2.1, x19.2.2.2.2.2.2.1, x19.2.2.2.2.2.2.2.1, x19.2.2.2.2.2.2.2.2.1, x19.2.2.2.2.2.2.2.2.2.2.2.1, x19.2.2.2.2.2.2.2.2.2.2.2.2.1, x19.2.2.2.2.2.2.2.2.2.2.2.2.2.1, x19.2.2.2.2.2.2.2.2.2.2.2.2.2.2.1, (List.set x19.2.2.2.2.2.2.2.2.2.2.2.2.2.2.2 (Int.toNat x19.2.1) ((yj x19.2.2.2.2.2.2.2.2.2.2.2.2.2.2.2 x19.2.1).1, (yj x19.2.2.2.2.2.2.2.2.2.2.2.2.2.2.2 x19.2.1).2.1, x19.1, (yj x19.2.2.2.2.2.2.2.2.2.2.2.2.2.2.2 x19.2.1).2.2.2)), x19.2.2.2.2.2.2.2.2.2.2.1, x19.2.2.1)) fun r20 => some r20 else none else none) (fun x21 => if (0 : Int) ≤ x21.2.1 then if x21.2.1 < (List.length x21.2.2.2.2.2.2.2.2.2.2.2.2.2.2.2 : Int) then Option.bind (yQ (x21.2.2.2.1, x21.2.2.2.2.1, x21.2.2.2.2.2.1, x21.2.2.2.2.2.2.1, x21.2.2.2.2.2.2.2.1, x21.2.2.2.2.2.2.2.2.1, x21.2.2.2.2.2.2.2.2.2.2.1, x21.2.2.2.2.2.2.2.2.2.2.2.1, x21.2.2.2.2.2.2.2.2.2.2.2.2.1, x21.2.2.2.2.2.2.2.2.2.2.2.2.2.2.1, (List.set x21.2.2.2.2.2.2.2.2.2.2.2.2.2.2.2 (Int.toNat x21.2.1) ((yj x21.2.2.2.2.2.2.2.2.2.2.2.2.2.2.2 x21.2.1).1, (yj x21.2.2.2.2.2.2.2.2.2.2.2.2.2.2.2 x21.2.1).2.1, x21.1, (yj x21.2.2.2.2.2.2.2.2.2.2.2.2.2.2.2 x21.2.1).2.2.2)), x21.2.2.2.2.2.2.2.2.2.2.2.2.2.1, x21.2.2.1)) fun r22 => some r22 else none else none) (Sum.inl (x.2.2.2.2.2.2.2, r14, true, (Go.IntKind.wrap .i64 ((yj x.2.2.2.2.1 r14).2.2.1 - (1 : Int))), x.1, x.2.1, x.2.2.1, x.2.2.2.1, x.2.2.2.2.1, x.2.2.2.2.2.1, (0 : Int), r1.2.2.2.2.2, r1.1, r1.2.1, r1.2.2.1, r1.2.2.2.1, r1.2.2.2.2.1)) else none else none
def yeJ : List QF := [yeI, y6j, yii, ym1, yuU, yAk]
def y1q (t : ymm) : St := ⟨dd 2 (vI t.1 :: .box 3 0 :: dd 2 (.box 6 0 :: .dead :: .box 8 0 :: .dead :: vI t.2.1 :: vB t.2.2.1 :: vI t.2.2.2.1 :: dd 49 [])), [(3, .box [yT t.2.2.2.2.1, yx t.2.2.2.2.2.1, zh t.2.2.2.2.2.2.1, yL t.2.2.2.2.2.2.2.1, zH t.2.2.2.2.2.2.2.2.1, vI t.2.2.2.2.2.2.2.2.2.1]), (6, .box [.nils, .nils, .nils, .nils, .nils, vI t.2.2.2.2.2.2.2.2.2.2.1]), (8, .box [.own 10000000, .own 10000001, .own 10000002, .own 10000003, .own 10000004, vI t.2.2.2.2.2.2.2.2.2.2.2.1]), (10000000, .root true 3 yd t.2.2.2.2.2.2.2.2.2.2.2.2.1), (10000001, .root true 99 yg t.2.2.2.2.2.2.2.2.2.2.2.2.2.1), (10000002, .root true 67 yk t.2.2.2.2.2.2.2.2.2.2.2.2.2.2.1), (10000003, .root true 53 yc t.2.2.2.2.2.2.2.2.2.2.2.2.2.2.2.1), (10000004, .root true 41 yz t.2.2.2.2.2.2.2.2.2.2.2.2.2.2.2.2)]⟩
theorem yeK : ∀ s t, unG yyV y1q s = some t → y1q t = s := yt fun t => by kernel_rfl
def y1r (t : ymn) : St := ⟨dd 2 (vI t.1 :: .box 3 0 :: dd 2 (.box 6 0 :: .dead :: .box 8 0 :: .dead :: vI t.2.1 :: vB t.2.2.1 :: vI t.2.2.2.1 :: dd 49 [])), [(3, .box [yT t.2.2.2.2.1, yx t.2.2.2.2.2.1, zh t.2.2.2.2.2.2.1, yL t.2.2.2.2.2.2.2.1, zH t.2.2.2.2.2.2.2.2.1, vI t.2.2.2.2.2.2.2.2.2.1]), (6, .box [.nils, .nils, .nils, .nils, .nils, vI t.2.2.2.2.2.2.2.2.2.2.1]), (8, .box [yT t.2.2.2.2.2.2.2.2.2.2.2.1, yx t.2.2.2.2.2.2.2.2.2.2.2.2.1, zh t.2.2.2.2.2.2.2.2.2.2.2.2.2.1, .own 10000000, .own 10000001, vI t.2.2.2.2.2.2.2.2.2.2.2.2.2.2.1]), (10000000, .root true 53 yc t.2.2.2.2.2.2.2.2.2.2.2.2.2.2.2.1), (10000001, .root true 41 yz t.2.2.2.2.2.2.2.2.2.2.2.2.2.2.2.2)]⟩
theorem yeL : ∀ s t, unG yyW y1r s = some t → y1r t = s := yt fun t => by kernel_rfl
def y1s : (ymm ⊕ ymn) → St := Sum.elim y1q y1r
def y3Y (s : St) : Option (ymm ⊕ ymn) := ((unG yyV y1q s).map Sum.inl).or (((unG yyW y1r) s).map Sum.inr)
theorem yeM : ∀ s t, y3Y s = some t → y1s t = s := y4U yeK yeL
def y6V : Gk wH := fun κ => jm (fun t => κ (some 0) ⟨dd 2 (vI t.1 :: .box 3 0 :: dd 2 (.box 6 0 :: .dead :: .box 8 0 :: .dead :: vI t.2.1 :: vB t.2.2.1 :: dd 50 [])), [(3, .box [yT t.2.2.2.1, yx t.2.2.2.2.1, zh t.2.2.2.2.2.1, yL t.2.2.2.2.2.2.1, zH t.2.2.2.2.2.2.2.1, vI t.2.2.2.2.2.2.2.2.1]), (6, .box [.nils, .nils, .nils, .nils, .nils, vI t.2.2.2.2.2.2.2.2.2.1]), (8, .box [.own 10000000, .own 10000001, .own 10000002, .own 10000003, .own 10000004, vI t.2.2.2.2.2.2.2.2.2.2.1]), (10000000, .root true 3 yd t.2.2.2.2.2.2.2.2.2.2.2.1), (10000001, .root true 99 yg t.2.2.2.2.2.2.2.2.2.2.2.2.1), (10000002, .root true 67 yk t.2.2.2.2.2.2.2.2.2.2.2.2.2.1), (10000003, .root true 53 yc t.2.2.2.2.2.2.2.2.2.2.2.2.2.2.1), (10000004, .root true 41 yz t.2.2.2.2.2.2.2.2.2.2.2.2.2.2.2)]⟩) (fun t => κ (some 0) ⟨dd 2 (vI t.1 :: .box 3 0 :: dd 2 (.box 6 0 :: .dead :: .box 8 0 :: .dead :: vI t.2.1 :: vB t.2.2.1 :: dd 50 [])), [(3, .box [yT t.2.2.2.1, yx t.2.2.2.2.1, zh t.2.2.2.2.2.1, yL t.2.2.2.2.2.2.1, zH t.2.2.2.2.2.2.2.1, vI t.2.2.2.2.2.2.2.2.1]), (6, .box [.nils, .nils, .nils, .nils, .nils, vI t.2.2.2.2.2.2.2.2.2.1]), (8, .box [yT t.2.2.2.2.2.2.2.2.2.2.1, yx t.2.2.2.2.2.2.2.2.2.2.2.1, zh t.2.2.2.2.2.2.2.2.2.2.2.2.1, .own 10000000, .own 10000001, vI t.2.2.2.2.2.2.2.2.2.2.2.2.2.1]), (10000000, .root true 53 yc t.2.2.2.2.2.2.2.2.2.2.2.2.2.2.1), (10000001, .root true 41 yz t.2.2.2.2.2.2.2.2.2.2.2.2.2.2.2)]⟩)
def yeN : Lp := lpC 10 y3Y @y6V lpN
theorem yeO : LF yeJ yeN 115 10 Tryz.f115 0 y1s @y6V fun v : ymm => .inl v := fun R κ again v => by kernel_rfl
theorem yeP : LF yeJ yeN 115 10 Tryz.f115 0 y1s @y6V fun v : ymn => .inr v := fun R κ again v => by kernel_rfl
theorem yko : LF yeJ yeN 115 10 Tryz.f115 0 y1s @y6V fun t => t := (LC.sum yeO yeP)
theorem ykp : LK yeJ yeN 115 Tryz.f115 0 := lkN (u := y3Y) yeM yko
theorem yvk : EV yeJ yeN 115 Tryz.f115 yoX ysA y9z JL := fun x => by kernel_rfl
def yBt : QF := ⟨115, JL, okN (n := 1) Tryz.func115 ⟨ykp, trivial⟩ yvk⟩
def vr (x : yti) : Option ygl :=
 Option.bind (JK (x.2.2.1, x.2.2.2.2)) fun r1 => Option.bind (ja (x.1, x.2.1, x.2.2.2.1, r1)) fun r2 => some r2
theorem yvl : EV [yAh, yAi] lpN 210 Tryz.f210 yoY ytj ygm vr := fun x => by kernel_rfl
def yBu : QF := ⟨210, vr, okN (n := 0) Tryz.func210 trivial yvl⟩
def vt (x : yAN) : Option Bool :=
 Option.bind (vr (x.1, x.2.1, x.2.2.1, x.2.2.2.1, x.2.2.2.2.2.2.2.2)) fun r1 => Option.bind (bif r1.2.2.2.2.2 then some (r1.2.1 == x.2.2.2.2.1) else some false) fun u2 => some u2
theorem yvm : EV [yBu] lpN 209 Tryz.f209 yoZ yAO [.bool] vt := fun x => by kernel_rfl
def yBv : QF := ⟨209, vt, okN (n := 0) Tryz.func209 trivial yvm⟩
abbrev Wq : Type := yyX
def Z3 (k0 : Bool → Option R) (k1 : Unit → Option R) (again : Wq → Option R) (t2 : Wq) : Option R :=
 bif (decide (t2.1 < (List.length t2.2.2.2.2.2.1 : Int))) then if (0 : Int) ≤ t2.1 then if t2.1 < (List.length t2.2.2.2.2.2.1 : Int) then Option.bind (bif (decide ((yj t2.2.2.2.2.2.1 t2.1).2.2.1 > t2.2.2.2.2.2.2.2.1)) then if (0 : Int) ≤ t2.1 then if t2.1 < (List.length t2.2.2.2.2.2.1 : Int) then Option.bind (vt (t2.2.1, t2.2.2.1, t2.2.2.2.1, t2.2.2.2.2.2.2.2.1, t2.2.2.2.2.2.2.2.2.1, t2.2.2.2.2.2.2.2.2.2.1, t2.2.2.2.2.2.2.2.2.2.2.1, t2.2.2.2.2.2.2.2.2.2.2.2, (yj t2.2.2.2.2.2.1 t2.1).2.1)) fun r2 => some r2 else none else none else some false) fun u1 => bif u1 then k0 true else again ((Go.IntKind.wrap .i64 (t2.1 + (1 : Int))), t2.2.1, t2.2.2.1, t2.2.2.2.1, t2.2.2.2.2.1, t2.2.2.2.2.2.1, t2.2.2.2.2.2.2.1, t2.2.2.2.2.2.2.2.1, t2.2.2.2.2.2.2.2.2.1, t2.2.2.2.2.2.2.2.2.2.1, t2.2.2.2.2.2.2.2.2.2.2.1, t2.2.2.2.2.2.2.2.2.2.2.2) else none else none else k1 ()
def Vb k0 k1 := zL (@Z3 R k0 k1) Y4
def jn (x : ysB) : Option Bool :=
 Vb (fun x3 => some x3) (fun x4 => some false) ((0 : Int), x.1, x.2.1, x.2.2.1, x.2.2.2.1, x.2.2.2.2.1, x.2.2.2.2.2.1, x.2.2.2.2.2.2.1, x.2.2.2.2.2.2.2.1, x.2.2.2.2.2.2.2.2.1, x.2.2.2.2.2.2.2.2.2.1, x.2.2.2.2.2.2.2.2.2.2)
def ykq : List QF := [yBv]
def y6W (t : yyX) : St := ⟨dd 2 (.box 2 0 :: .box 3 0 :: .dead :: vI t.1 :: dd 30 []), [(2, .box [yT t.2.1, yx t.2.2.1, zh t.2.2.2.1, yL t.2.2.2.2.1, zH t.2.2.2.2.2.1, vI t.2.2.2.2.2.2.1]), (3, .box [vI t.2.2.2.2.2.2.2.1, vI t.2.2.2.2.2.2.2.2.1, vI t.2.2.2.2.2.2.2.2.2.1, vI t.2.2.2.2.2.2.2.2.2.2.1, vI t.2.2.2.2.2.2.2.2.2.2.2])]⟩
def yiv : Gk Wq := fun κ => Z3 (fun t => κ none ⟨dd 4 (vB t :: dd 31 []), []⟩) (fun t => κ (some 0) ⟨dd 36 [], []⟩)
def ykr : Lp := lpC 2 (unG yyY y6W) @yiv lpN
theorem yqK : LF ykq ykr 206 2 Tryz.f206 0 y6W @yiv fun t => t := fun R κ again t => by kernel_rfl
theorem yqL : LK ykq ykr 206 Tryz.f206 0 := lkN (u := (unG yyY y6W)) (yt fun t => by kernel_rfl) yqK
theorem yvn : EV ykq ykr 206 Tryz.f206 yp0 ysC [.bool] jn := fun x => by kernel_rfl
def yBw : QF := ⟨206, jn, okN (n := 1) Tryz.func206 ⟨yqL, trivial⟩ yvn⟩
abbrev qv : Type := ytk
def Wr (k0 : Bool → Option R) (k1 : Unit → Option R) (again : qv → Option R) (t2 : qv) : Option R :=
 bif (decide (t2.2.1 < (List.length t2.2.2.2.2.2.2.1 : Int))) then if (0 : Int) ≤ t2.2.1 then if t2.2.1 < (List.length t2.2.2.2.2.2.2.1 : Int) then bif ((yj t2.2.2.2.2.2.2.1 t2.2.1).2.1 == t2.1) then k0 false else again (t2.1, (Go.IntKind.wrap .i64 (t2.2.1 + (1 : Int))), t2.2.2.1, t2.2.2.2.1, t2.2.2.2.2.1, t2.2.2.2.2.2.1, t2.2.2.2.2.2.2.1, t2.2.2.2.2.2.2.2) else none else none else k1 ()
def y1t k0 k1 := zL (@Wr R k0 k1) Y4
def kv (x : y9y) : Option Bool :=
 y1t (fun x1 => some x1) (fun x2 => some true) (x.2.2.2.2.2.2, (0 : Int), x.1, x.2.1, x.2.2.1, x.2.2.2.1, x.2.2.2.2.1, x.2.2.2.2.2.1)
def yks : List QF := []
def y6X (t : ytk) : St := ⟨.dead :: vI t.1 :: .box 2 0 :: dd 2 (vI t.2.1 :: dd 15 []), [(2, .box [yT t.2.2.1, yx t.2.2.2.1, zh t.2.2.2.2.1, yL t.2.2.2.2.2.1, zH t.2.2.2.2.2.2.1, vI t.2.2.2.2.2.2.2])]⟩
def yiw : Gk qv := fun κ => Wr (fun t => κ none ⟨dd 4 (vB t :: dd 16 []), []⟩) (fun t => κ (some 0) ⟨dd 21 [], []⟩)
def ykt : Lp := lpC 2 (unG yyZ y6X) @yiw lpN
theorem yqM : LF yks ykt 194 2 Tryz.f194 0 y6X @yiw fun t => t := fun R κ again t => by kernel_rfl
theorem yqN : LK yks ykt 194 Tryz.f194 0 := lkN (u := (unG yyZ y6X)) (yt fun t => by kernel_rfl) yqM
theorem yvo : EV yks ykt 194 Tryz.f194 yp1 y9z [.bool] kv := fun x => by kernel_rfl
def yAl : QF := ⟨194, kv, okN (n := 1) Tryz.func194 ⟨yqN, trivial⟩ yvo⟩
def Z4 (x : y9y) : Option Int :=
 Option.bind (j7 (x.2.2.1, x.2.2.2.2.2.2)) fun r1 => Option.bind (kv x) fun r2 => Option.bind (bif (!r2) then some true else some ((List.length r1 : Int) != (1 : Int))) fun u3 => bif u3 then some (0 : Int) else if (0 : Int) ≤ (0 : Int) then if (0 : Int) < (List.length r1 : Int) then some (zu r1 (0 : Int)) else none else none
theorem yvp : EV [yux, yAl] lpN 172 Tryz.f172 yp2 y9z [(.int .i64)] Z4 := fun x => by kernel_rfl
def yAm : QF := ⟨172, Z4, okN (n := 0) Tryz.func172 trivial yvp⟩
def K0 (x : ysB) : Option Bool :=
 Option.bind (Z4 (x.1, x.2.1, x.2.2.1, x.2.2.2.1, x.2.2.2.2.1, x.2.2.2.2.2.1, x.2.2.2.2.2.2.2.1)) fun r1 => bif (r1 == (0 : Int)) then some false else Option.bind (j9 (x.1, x.2.1, x.2.2.2.2.2.2.1, r1)) fun r2 => some (!r2.2.2.2.2.2)
theorem yvq : EV [yv0, yAm] lpN 207 Tryz.f207 yp3 ysC [.bool] K0 := fun x => by kernel_rfl
def yBx : QF := ⟨207, K0, okN (n := 0) Tryz.func207 trivial yvq⟩
def Ws (x : yAP) : Option Bool :=
 bif (x.2.2.2.2.2.2.1 == (1 : Int)) then Option.bind (jn (x.1, x.2.1, x.2.2.1, x.2.2.2.1, x.2.2.2.2.1, x.2.2.2.2.2.1, x.2.2.2.2.2.2.2)) fun r1 => some (!r1) else bif (x.2.2.2.2.2.2.1 == (2 : Int)) then Option.bind (YU (x.1, x.2.1, x.2.2.1, x.2.2.2.2.2.2.2.1, x.2.2.2.2.2.2.2.2.1)) fun r2 => Option.bind (bif (x.2.2.2.2.2.2.2.2.2.1 == (2 : Int)) then some (!r2.2.2.2.2.2) else some false) fun u3 => some u3 else Option.bind (K0 (x.1, x.2.1, x.2.2.1, x.2.2.2.1, x.2.2.2.2.1, x.2.2.2.2.2.1, x.2.2.2.2.2.2.2)) fun r4 => some r4
theorem yvr : EV [yAj, yBw, yBx] lpN 192 Tryz.f192 yp4 yAQ [.bool] Ws := fun x => by kernel_rfl
def yBy : QF := ⟨192, Ws, okN (n := 0) Tryz.func192 trivial yvr⟩
abbrev vu : Type := yje
def J2 (k0 : yAR → Option R) (k1 : yek → Option R) (again : vu → Option R) (t3 : vu) : Option R :=
 bif (decide (t3.2.1 < (List.length t3.2.2.2.2.2.2.2.2 : Int))) then if (0 : Int) ≤ t3.2.1 then if t3.2.1 < (List.length t3.2.2.2.2.2.2.2.2 : Int) then bif ((y6 t3.2.2.2.2.2.2.2.2 t3.2.1).2.1 == t3.1) then k0 (t3.1, false, t3.2.2.1, t3.2.2.2.1, t3.2.2.2.2.1, t3.2.2.2.2.2.1, t3.2.2.2.2.2.2.1, t3.2.2.2.2.2.2.2.1) else again (t3.1, (Go.IntKind.wrap .i64 (t3.2.1 + (1 : Int))), t3.2.2.1, t3.2.2.2.1, t3.2.2.2.2.1, t3.2.2.2.2.2.1, t3.2.2.2.2.2.2.1, t3.2.2.2.2.2.2.2.1, t3.2.2.2.2.2.2.2.2) else none else none else k1 (t3.1, t3.2.2.1, t3.2.2.2.1, t3.2.2.2.2.1, t3.2.2.2.2.2.1, t3.2.2.2.2.2.2.1, t3.2.2.2.2.2.2.2.1)
def Qv k0 k1 := zL (@J2 R k0 k1) Y4
def Wv (x : y9y) : Option Bool :=
 Option.bind (yM (x.1, x.2.1)) fun r1 => Qv (fun x2 => some x2.2.1) (fun x3 => Option.bind (kv (x3.2.1, x3.2.2.1, x3.2.2.2.1, x3.2.2.2.2.1, x3.2.2.2.2.2.1, x3.2.2.2.2.2.2, x3.1)) fun r4 => Option.bind (bif r4 then Option.bind (j7 (x3.2.2.2.1, x3.1)) fun r6 => some (decide ((List.length r6 : Int) ≤ (1 : Int))) else some false) fun u5 => some u5) (x.2.2.2.2.2.2, (0 : Int), x.1, x.2.1, x.2.2.1, x.2.2.2.1, x.2.2.2.2.1, x.2.2.2.2.2.1, r1)
def yku : List QF := [yjG, yux, yAl]
def y6Y (t : yje) : St := ⟨.dead :: vI t.1 :: .box 2 0 :: dd 2 (.own 10000000 :: vI t.2.1 :: dd 27 []), [(2, .box [yT t.2.2.1, yx t.2.2.2.1, zh t.2.2.2.2.1, yL t.2.2.2.2.2.1, zH t.2.2.2.2.2.2.1, vI t.2.2.2.2.2.2.2.1]), (10000000, .root true 63 yi t.2.2.2.2.2.2.2.2)]⟩
def yix : Gk vu := fun κ => J2 (fun t => κ none ⟨.dead :: vI t.1 :: .box 2 0 :: .dead :: vB t.2.1 :: dd 29 [], [(2, .box [yT t.2.2.1, yx t.2.2.2.1, zh t.2.2.2.2.1, yL t.2.2.2.2.2.1, zH t.2.2.2.2.2.2.1, vI t.2.2.2.2.2.2.2])]⟩) (fun t => κ (some 0) ⟨.dead :: vI t.1 :: .box 2 0 :: dd 31 [], [(2, .box [yT t.2.1, yx t.2.2.1, zh t.2.2.2.1, yL t.2.2.2.2.1, zH t.2.2.2.2.2.1, vI t.2.2.2.2.2.2])]⟩)
def ykv : Lp := lpC 3 (unG ylY y6Y) @yix lpN
theorem yqO : LF yku ykv 193 3 Tryz.f193 0 y6Y @yix fun t => t := fun R κ again t => by kernel_rfl
theorem yqP : LK yku ykv 193 Tryz.f193 0 := lkN (u := (unG ylY y6Y)) (yt fun t => by kernel_rfl) yqO
theorem yvs : EV yku ykv 193 Tryz.f193 yp5 y9z [.bool] Wv := fun x => by kernel_rfl
def yBz : QF := ⟨193, Wv, okN (n := 1) Tryz.func193 ⟨yqP, trivial⟩ yvs⟩
abbrev kw : Type := yje
def ZC (k0 : yt6 → Option R) (k1 : yjh → Option R) (again : kw → Option R) (t8 : kw) : Option R :=
 bif (decide (t8.2.1 < (List.length t8.2.2.2.2.2.2.2.2 : Int))) then if (0 : Int) ≤ t8.2.1 then if t8.2.1 < (List.length t8.2.2.2.2.2.2.2.2 : Int) then Option.bind (Ws (t8.2.2.1, t8.2.2.2.1, t8.2.2.2.2.1, t8.2.2.2.2.2.1, t8.2.2.2.2.2.2.1, t8.2.2.2.2.2.2.2.1, t8.1, (y6 t8.2.2.2.2.2.2.2.2 t8.2.1).1, (y6 t8.2.2.2.2.2.2.2.2 t8.2.1).2.1, (y6 t8.2.2.2.2.2.2.2.2 t8.2.1).2.2.1, (y6 t8.2.2.2.2.2.2.2.2 t8.2.1).2.2.2.1, (y6 t8.2.2.2.2.2.2.2.2 t8.2.1).2.2.2.2)) fun r3 => bif r3 then k0 (t8.1, t8.2.1, t8.1, t8.2.2) else again (t8.1, (Go.IntKind.wrap .i64 (t8.2.1 + (1 : Int))), t8.2.2.1, t8.2.2.2.1, t8.2.2.2.2.1, t8.2.2.2.2.2.1, t8.2.2.2.2.2.2.1, t8.2.2.2.2.2.2.2.1, t8.2.2.2.2.2.2.2.2) else none else none else k1 (t8.1, t8.2.2)
def VL k0 k1 := zL (@ZC R k0 k1) Y4
abbrev kz : Type := yjh
def ZD (k0 : ytk → Option R) (k1 : Qz9 → Option R) (again : kz → Option R) (t5 : kz) : Option R :=
 bif (decide (t5.1 ≤ (3 : Int))) then VL (fun x4 => k0 (x4.1, x4.2.1, x4.2.2.2.1, x4.2.2.2.2.1, x4.2.2.2.2.2.1, x4.2.2.2.2.2.2.1, x4.2.2.2.2.2.2.2.1, x4.2.2.2.2.2.2.2.2.1)) (fun x5 => again ((Go.IntKind.wrap .i64 (x5.1 + (1 : Int))), x5.2.1, x5.2.2.1, x5.2.2.2.1, x5.2.2.2.2.1, x5.2.2.2.2.2.1, x5.2.2.2.2.2.2.1, x5.2.2.2.2.2.2.2)) (t5.1, (0 : Int), t5.2.1, t5.2.2.1, t5.2.2.2.1, t5.2.2.2.2.1, t5.2.2.2.2.2.1, t5.2.2.2.2.2.2.1, t5.2.2.2.2.2.2.2) else k1 (t5.2.1, t5.2.2.1, t5.2.2.2.1, t5.2.2.2.2.1, t5.2.2.2.2.2.1, t5.2.2.2.2.2.2.1)
def VM k0 k1 := zL (@ZD R k0 k1) Y4
abbrev Ww : Type := yek
def Z5 (k0 : ylS → Option R) (k1 : Unit → Option R) (again : Ww → Option R) (t13 : Ww) : Option R :=
 bif (decide (t13.1 < (List.length t13.2.2.2.1 : Int))) then if (0 : Int) ≤ t13.1 then if t13.1 < (List.length t13.2.2.2.1 : Int) then Option.bind (Wv (t13.2.1, t13.2.2.1, t13.2.2.2.1, t13.2.2.2.2.1, t13.2.2.2.2.2.1, t13.2.2.2.2.2.2, (yO t13.2.2.2.1 t13.1).1)) fun r8 => bif r8 then k0 ((4 : Int), t13.1) else again ((Go.IntKind.wrap .i64 (t13.1 + (1 : Int))), t13.2.1, t13.2.2.1, t13.2.2.2.1, t13.2.2.2.2.1, t13.2.2.2.2.2.1, t13.2.2.2.2.2.2) else none else none else k1 ()
def Vc k0 k1 := zL (@Z5 R k0 k1) Y4
def J3 (x : Qz9) : Option ylS :=
 Option.bind (yJ x) fun r1 => bif (!r1) then some ((0 : Int), (0 : Int)) else Option.bind (yM (x.1, x.2.1)) fun r2 => VM (fun x6 => some (x6.1, x6.2.1)) (fun x7 => Vc (fun x9 => some x9) (fun x10 => some ((0 : Int), (0 : Int))) ((0 : Int), x7.1, x7.2.1, x7.2.2.1, x7.2.2.2.1, x7.2.2.2.2.1, x7.2.2.2.2.2)) ((1 : Int), x.1, x.2.1, x.2.2.1, x.2.2.2.1, x.2.2.2.2.1, x.2.2.2.2.2, r2)
def yab : List QF := [yjX, yjG, yBy, yBz]
def y6Z (t : yje) : St := ⟨.dead :: .box 1 0 :: dd 2 (.own 10000000 :: vI t.1 :: vI t.2.1 :: dd 42 []), [(1, .box [yT t.2.2.1, yx t.2.2.2.1, zh t.2.2.2.2.1, yL t.2.2.2.2.2.1, zH t.2.2.2.2.2.2.1, vI t.2.2.2.2.2.2.2.1]), (10000000, .root true 63 yi t.2.2.2.2.2.2.2.2)]⟩
def yiy : Gk kw := fun κ => ZC (fun t => κ none ⟨.dead :: .box 1 0 :: vI t.1 :: vI t.2.1 :: .own 10000000 :: vI t.2.2.1 :: dd 43 [], [(1, .box [yT t.2.2.2.1, yx t.2.2.2.2.1, zh t.2.2.2.2.2.1, yL t.2.2.2.2.2.2.1, zH t.2.2.2.2.2.2.2.1, vI t.2.2.2.2.2.2.2.2.1]), (10000000, .root true 63 yi t.2.2.2.2.2.2.2.2.2)]⟩) (fun t => κ (some 2) ⟨.dead :: .box 1 0 :: dd 2 (.own 10000000 :: vI t.1 :: dd 43 []), [(1, .box [yT t.2.1, yx t.2.2.1, zh t.2.2.2.1, yL t.2.2.2.2.1, zH t.2.2.2.2.2.1, vI t.2.2.2.2.2.2.1]), (10000000, .root true 63 yi t.2.2.2.2.2.2.2)]⟩)
def y70 (t : yjh) : St := ⟨.dead :: .box 1 0 :: dd 2 (.own 10000000 :: vI t.1 :: dd 43 []), [(1, .box [yT t.2.1, yx t.2.2.1, zh t.2.2.2.1, yL t.2.2.2.2.1, zH t.2.2.2.2.2.1, vI t.2.2.2.2.2.2.1]), (10000000, .root true 63 yi t.2.2.2.2.2.2.2)]⟩
def yiz : Gk kz := fun κ => ZD (fun t => κ none ⟨.dead :: .box 1 0 :: vI t.1 :: vI t.2.1 :: dd 45 [], [(1, .box [yT t.2.2.1, yx t.2.2.2.1, zh t.2.2.2.2.1, yL t.2.2.2.2.2.1, zH t.2.2.2.2.2.2.1, vI t.2.2.2.2.2.2.2])]⟩) (fun t => κ (some 0) ⟨.dead :: .box 1 0 :: dd 47 [], [(1, .box [yT t.1, yx t.2.1, zh t.2.2.1, yL t.2.2.2.1, zH t.2.2.2.2.1, vI t.2.2.2.2.2])]⟩)
def y3Z (t : yek) : St := ⟨.dead :: .box 1 0 :: dd 5 (vI t.1 :: dd 41 []), [(1, .box [yT t.2.1, yx t.2.2.1, zh t.2.2.2.1, yL t.2.2.2.2.1, zH t.2.2.2.2.2.1, vI t.2.2.2.2.2.2])]⟩
def yeQ : Gk Ww := fun κ => Z5 (fun t => κ none ⟨dd 2 (vI t.1 :: vI t.2 :: dd 45 []), []⟩) (fun t => κ (some 4) ⟨dd 49 [], []⟩)
def yac : Lp := lpC 13 (unG ylV y3Z) @yeQ (lpC 5 (unG ymo y70) @yiz (lpC 8 (unG ylY y6Z) @yiy lpN))
theorem yqQ : LF yab yac 170 8 Tryz.f170 1 y6Z @yiy fun t => t := fun R κ again t => by kernel_rfl
theorem yqR : LK yab yac 170 Tryz.f170 1 := lkN (u := (unG ylY y6Z)) (yt fun t => by kernel_rfl) yqQ
theorem yqS : LF yab yac 170 5 Tryz.f170 0 y70 @yiz fun t => t := fun R κ again t => by kernel_rfl
theorem yqT : LK yab yac 170 Tryz.f170 0 := lkN (u := (unG ymo y70)) (yt fun t => by kernel_rfl) yqS
theorem ykw : LF yab yac 170 13 Tryz.f170 2 y3Z @yeQ fun t => t := fun R κ again t => by kernel_rfl
theorem ykx : LK yab yac 170 Tryz.f170 2 := lkN (u := (unG ylV y3Z)) (yt fun t => by kernel_rfl) ykw
theorem yvt : EV yab yac 170 Tryz.f170 yp6 qz9 ymk J3 := fun x => by kernel_rfl
def yBA : QF := ⟨170, J3, okN (n := 3) Tryz.func170 ⟨yqT, yqR, ykx, trivial⟩ yvt⟩
def Zm (x : ysB) : Option yjd :=
 Option.bind (zD (x.1, x.2.1, x.2.2.1, x.2.2.2.1, x.2.2.2.2.1, x.2.2.2.2.2.1, x.2.2.2.2.2.2.1, x.2.2.2.2.2.2.2.1, (0 : Int), (0 : Int), (0 : Int))) fun r1 => some r1
theorem yvu : EV [yvb] lpN 171 Tryz.f171 yp7 ysC yt5 Zm := fun x => by kernel_rfl
def yBB : QF := ⟨171, Zm, okN (n := 0) Tryz.func171 trivial yvu⟩
abbrev vv : Type := ymp
def Wx (k0 : List ya → Option R) (again : vv → Option R) (t6 : vv) : Option R :=
 bif (decide (t6.2.2.2.1 < (List.length t6.1 : Int))) then if (0 : Int) ≤ t6.2.2.2.1 then if t6.2.2.2.1 < (List.length t6.1 : Int) then bif ((yO t6.1 t6.2.2.2.1).2 == t6.2.1) then if (0 : Int) ≤ t6.2.2.1 then if t6.2.2.1 < (List.length t6.1 : Int) then bif (t6.2.2.2.1 != t6.2.2.1) then if (List.length t6.2.2.2.2 + List.length ([((yO t6.1 t6.2.2.2.1).1, (yO t6.1 t6.2.2.1).2)] : List ya)) * 16 < 140737488355328 then again (t6.1, t6.2.1, t6.2.2.1, (Go.IntKind.wrap .i64 (t6.2.2.2.1 + (1 : Int))), (t6.2.2.2.2 ++ ([((yO t6.1 t6.2.2.2.1).1, (yO t6.1 t6.2.2.1).2)] : List ya))) else none else again (t6.1, t6.2.1, t6.2.2.1, (Go.IntKind.wrap .i64 (t6.2.2.2.1 + (1 : Int))), t6.2.2.2.2) else none else none else bif (t6.2.2.2.1 != t6.2.2.1) then if (List.length t6.2.2.2.2 + List.length ([((yO t6.1 t6.2.2.2.1).1, (yO t6.1 t6.2.2.2.1).2)] : List ya)) * 16 < 140737488355328 then again (t6.1, t6.2.1, t6.2.2.1, (Go.IntKind.wrap .i64 (t6.2.2.2.1 + (1 : Int))), (t6.2.2.2.2 ++ ([((yO t6.1 t6.2.2.2.1).1, (yO t6.1 t6.2.2.2.1).2)] : List ya))) else none else again (t6.1, t6.2.1, t6.2.2.1, (Go.IntKind.wrap .i64 (t6.2.2.2.1 + (1 : Int))), t6.2.2.2.2) else none else none else k0 t6.2.2.2.2
def Qw k0 := zL (@Wx R k0) Y4
def JM (x : yfz) : Option ysu :=
 Option.bind (zK x) fun r1 => Option.bind (bif (decide (r1 < (0 : Int))) then some true else Option.bind (YZ x.1) fun r3 => some (!r3)) fun u2 => bif u2 then if (List.length ([] : List ya) + List.length x.1) * 16 < 140737488355328 then some ((([] : List ya) ++ x.1), false) else none else Qw (fun x4 => some (x4, true)) (x.1, x.2, r1, (0 : Int), ([] : List ya))
def yky : List QF := [yut, ym0]
def y71 (t : ymp) : St := ⟨zh t.1 :: vI t.2.1 :: dd 4 (vI t.2.2.1 :: .own 10000000 :: vI t.2.2.2.1 :: dd 43 []), [(10000000, .root true 67 yk t.2.2.2.2)]⟩
def yiA : Gk vv := fun κ => Wx (fun t => κ (some 0) ⟨dd 7 (.own 10000000 :: dd 44 []), [(10000000, .root true 67 yk t)]⟩)
def ykz : Lp := lpC 6 (unG ymq y71) @yiA lpN
theorem yqU : LF yky ykz 173 6 Tryz.f173 0 y71 @yiA fun t => t := fun R κ again t => by kernel_rfl
theorem yqV : LK yky ykz 173 Tryz.f173 0 := lkN (u := (unG ymq y71)) (yt fun t => by kernel_rfl) yqU
theorem yvv : EV yky ykz 173 Tryz.f173 yp8 yfA yyb JM := fun x => by kernel_rfl
def yBC : QF := ⟨173, JM, okN (n := 1) Tryz.func173 ⟨yqV, trivial⟩ yvv⟩
def Y5 (x : Qz9) : Option ycZ :=
 Option.bind (yl x) fun r1 => Option.bind (J3 x) fun r2 => Option.bind (yM (x.1, x.2.1)) fun r3 => bif (r2.1 == (1 : Int)) then bif (r2.1 == (1 : Int)) then if (0 : Int) ≤ r2.2 then if r2.2 < (List.length r3 : Int) then Option.bind (Zm (r1.1, r1.2.1, r1.2.2.1, r1.2.2.2.1, r1.2.2.2.2.1, r1.2.2.2.2.2, (y6 r3 r2.2).1, (y6 r3 r2.2).2.1, (y6 r3 r2.2).2.2.1, (y6 r3 r2.2).2.2.2.1, (y6 r3 r2.2).2.2.2.2)) fun r4 => Option.bind (bif (!r4.1) then some true else Option.bind (yJ r4.2) fun r6 => some (!r6)) fun u5 => bif u5 then Option.bind (yl x) fun r7 => some (r7.1, r7.2.1, r7.2.2.1, r7.2.2.2.1, r7.2.2.2.2.1, r7.2.2.2.2.2, false) else some (r4.2.1, r4.2.2.1, r4.2.2.2.1, r4.2.2.2.2.1, r4.2.2.2.2.2.1, r4.2.2.2.2.2.2, true) else none else none else bif (r2.1 == (3 : Int)) then if (0 : Int) ≤ r2.2 then if r2.2 < (List.length r3 : Int) then Option.bind (zU (r1.1, r1.2.1, (y6 r3 r2.2).1, (y6 r3 r2.2).2.1, (0 : Int), (0 : Int), (0 : Int))) fun r8 => Option.bind (Z4 (x.1, x.2.1, x.2.2.1, x.2.2.2.1, x.2.2.2.2.1, x.2.2.2.2.2, (y6 r3 r2.2).2.1)) fun r9 => Option.bind (zU (r8.1, r8.2.1, (y6 r3 r2.2).1, r9, (y6 r3 r2.2).2.2.1, (y6 r3 r2.2).2.2.2.1, (y6 r3 r2.2).2.2.2.2)) fun r10 => Option.bind (bif r8.2.2 then some r10.2.2 else some false) fun u11 => Option.bind (bif (!u11) then some true else Option.bind (yJ (r10.1, r10.2.1, r1.2.2)) fun r13 => some (!r13)) fun u12 => bif u12 then Option.bind (yl x) fun r14 => some (r14.1, r14.2.1, r14.2.2.1, r14.2.2.2.1, r14.2.2.2.2.1, r14.2.2.2.2.2, false) else some (r10.1, r10.2.1, r1.2.2.1, r1.2.2.2.1, r1.2.2.2.2.1, r1.2.2.2.2.2, true) else none else none else bif (r2.1 == (4 : Int)) then if (0 : Int) ≤ r2.2 then if r2.2 < (List.length x.2.2.1 : Int) then Option.bind (JM (x.2.2.1, (yO x.2.2.1 r2.2).1)) fun r15 => Option.bind (bif (!r15.2) then some true else Option.bind (yJ (r1.1, r1.2.1, r15.1, r1.2.2.2)) fun r17 => some (!r17)) fun u16 => bif u16 then Option.bind (yl x) fun r18 => some (r18.1, r18.2.1, r18.2.2.1, r18.2.2.2.1, r18.2.2.2.2.1, r18.2.2.2.2.2, false) else some (r1.1, r1.2.1, r15.1, r1.2.2.2.1, r1.2.2.2.2.1, r1.2.2.2.2.2, true) else none else none else Option.bind (bif (!(r2.1 != (0 : Int))) then some true else Option.bind (yJ r1) fun r20 => some (!r20)) fun u19 => bif u19 then Option.bind (yl x) fun r21 => some (r21.1, r21.2.1, r21.2.2.1, r21.2.2.2.1, r21.2.2.2.2.1, r21.2.2.2.2.2, false) else some (r1.1, r1.2.1, r1.2.2.1, r1.2.2.2.1, r1.2.2.2.2.1, r1.2.2.2.2.2, true) else bif (r2.1 == (2 : Int)) then if (0 : Int) ≤ r2.2 then if r2.2 < (List.length r3 : Int) then Option.bind (Zm (r1.1, r1.2.1, r1.2.2.1, r1.2.2.2.1, r1.2.2.2.2.1, r1.2.2.2.2.2, (y6 r3 r2.2).1, (y6 r3 r2.2).2.1, (y6 r3 r2.2).2.2.1, (y6 r3 r2.2).2.2.2.1, (y6 r3 r2.2).2.2.2.2)) fun r22 => Option.bind (bif (!r22.1) then some true else Option.bind (yJ r22.2) fun r24 => some (!r24)) fun u23 => bif u23 then Option.bind (yl x) fun r25 => some (r25.1, r25.2.1, r25.2.2.1, r25.2.2.2.1, r25.2.2.2.2.1, r25.2.2.2.2.2, false) else some (r22.2.1, r22.2.2.1, r22.2.2.2.1, r22.2.2.2.2.1, r22.2.2.2.2.2.1, r22.2.2.2.2.2.2, true) else none else none else bif (r2.1 == (3 : Int)) then if (0 : Int) ≤ r2.2 then if r2.2 < (List.length r3 : Int) then Option.bind (zU (r1.1, r1.2.1, (y6 r3 r2.2).1, (y6 r3 r2.2).2.1, (0 : Int), (0 : Int), (0 : Int))) fun r26 => Option.bind (Z4 (x.1, x.2.1, x.2.2.1, x.2.2.2.1, x.2.2.2.2.1, x.2.2.2.2.2, (y6 r3 r2.2).2.1)) fun r27 => Option.bind (zU (r26.1, r26.2.1, (y6 r3 r2.2).1, r27, (y6 r3 r2.2).2.2.1, (y6 r3 r2.2).2.2.2.1, (y6 r3 r2.2).2.2.2.2)) fun r28 => Option.bind (bif r26.2.2 then some r28.2.2 else some false) fun u29 => Option.bind (bif (!u29) then some true else Option.bind (yJ (r28.1, r28.2.1, r1.2.2)) fun r31 => some (!r31)) fun u30 => bif u30 then Option.bind (yl x) fun r32 => some (r32.1, r32.2.1, r32.2.2.1, r32.2.2.2.1, r32.2.2.2.2.1, r32.2.2.2.2.2, false) else some (r28.1, r28.2.1, r1.2.2.1, r1.2.2.2.1, r1.2.2.2.2.1, r1.2.2.2.2.2, true) else none else none else bif (r2.1 == (4 : Int)) then if (0 : Int) ≤ r2.2 then if r2.2 < (List.length x.2.2.1 : Int) then Option.bind (JM (x.2.2.1, (yO x.2.2.1 r2.2).1)) fun r33 => Option.bind (bif (!r33.2) then some true else Option.bind (yJ (r1.1, r1.2.1, r33.1, r1.2.2.2)) fun r35 => some (!r35)) fun u34 => bif u34 then Option.bind (yl x) fun r36 => some (r36.1, r36.2.1, r36.2.2.1, r36.2.2.2.1, r36.2.2.2.2.1, r36.2.2.2.2.2, false) else some (r1.1, r1.2.1, r33.1, r1.2.2.2.1, r1.2.2.2.2.1, r1.2.2.2.2.2, true) else none else none else Option.bind (bif (!(r2.1 != (0 : Int))) then some true else Option.bind (yJ r1) fun r38 => some (!r38)) fun u37 => bif u37 then Option.bind (yl x) fun r39 => some (r39.1, r39.2.1, r39.2.2.1, r39.2.2.2.1, r39.2.2.2.2.1, r39.2.2.2.2.2, false) else some (r1.1, r1.2.1, r1.2.2.1, r1.2.2.2.1, r1.2.2.2.2.1, r1.2.2.2.2.2, true)
theorem yvw : EV [yjX, yeI, yjG, yv7, yBA, yBB, yAm, yBC] lpN 152 Tryz.f152 yp9 qz9 yd0 Y5 := fun x => by kernel_rfl
def yBD : QF := ⟨152, Y5, okN (n := 0) Tryz.func152 trivial yvw⟩
def Wy (x : List y9) : Option (List y9) :=
 Option.bind (yD x) fun r1 => Option.bind (yS r1) fun r2 => some r2
theorem yvx : EV [yjD, ysF] lpN 195 Tryz.f195 ypa [(.sl 58 yp)] [(.sl 58 yp)] Wy := fun x => by kernel_rfl
def yBE : QF := ⟨195, Wy, okN (n := 0) Tryz.func195 trivial yvx⟩
def J4 (x : ylT) : Option Qz8 :=
 Option.bind (Z1 (x.1, x.2.1)) fun r1 => Option.bind (yC (x.2.2, (0 : Int), (Go.IntKind.wrap .i64 ((List.length x.2.1 : Int) - (1 : Int))))) fun r2 => bif r2 then if (0 : Int) ≤ x.2.2 then if x.2.2 < (List.length x.2.1 : Int) then Option.bind (Wy (yf x.2.1 x.2.2)) fun r3 => if (0 : Int) ≤ x.2.2 then if x.2.2 < (List.length r1.2 : Int) then some (r1.1, (List.set r1.2 (Int.toNat x.2.2) r3)) else none else none else none else none else some r1
theorem yvy : EV [y6j, yuF, yBE] lpN 174 Tryz.f174 ypb ylU qz8 J4 := fun x => by kernel_rfl
def yBF : QF := ⟨174, J4, okN (n := 0) Tryz.func174 trivial yvy⟩
def Yi (x : y9y) : Option ycZ :=
 Option.bind (yl (x.1, x.2.1, x.2.2.1, x.2.2.2.1, x.2.2.2.2.1, x.2.2.2.2.2.1)) fun r1 => Option.bind (yJ (x.1, x.2.1, x.2.2.1, x.2.2.2.1, x.2.2.2.2.1, x.2.2.2.2.2.1)) fun r2 => Option.bind (bif (!r2) then some true else Option.bind (yC (x.2.2.2.2.2.2, (0 : Int), (Go.IntKind.wrap .i64 ((List.length x.2.1 : Int) - (1 : Int))))) fun r4 => some (!r4)) fun u3 => bif u3 then some (r1.1, r1.2.1, r1.2.2.1, r1.2.2.2.1, r1.2.2.2.2.1, r1.2.2.2.2.2, false) else Option.bind (J4 (x.1, x.2.1, x.2.2.2.2.2.2)) fun r5 => some (r5.1, r5.2, r1.2.2.1, r1.2.2.2.1, r1.2.2.2.2.1, r1.2.2.2.2.2, true)
theorem yvz : EV [yjX, yeI, y6j, yBF] lpN 153 Tryz.f153 ypc y9z yd0 Yi := fun x => by kernel_rfl
def yBG : QF := ⟨153, Yi, okN (n := 0) Tryz.func153 trivial yvz⟩
abbrev vw : Type := ymr
def J5 (k0 : ygk → Option R) (k1 : ygk → Option R) (again : vw → Option R) (t3 : vw) : Option R :=
 bif (decide (t3.2.1 < (List.length t3.2.2.2.2.2.2.2 : Int))) then if (0 : Int) ≤ t3.2.1 then if t3.2.1 < (List.length t3.2.2.2.2.2.2.2 : Int) then Option.bind (bif ((y6 t3.2.2.2.2.2.2.2 t3.2.1).2.2.1 == (1 : Int)) then if (0 : Int) ≤ t3.2.1 then if t3.2.1 < (List.length t3.2.2.2.2.2.2.2 : Int) then some ((y6 t3.2.2.2.2.2.2.2 t3.2.1).2.2.2.1 == t3.1) else none else none else some false) fun u2 => bif u2 then if (0 : Int) ≤ t3.2.1 then if t3.2.1 < (List.length t3.2.2.2.2.2.2.2 : Int) then k0 ((y6 t3.2.2.2.2.2.2.2 t3.2.1).1, (y6 t3.2.2.2.2.2.2.2 t3.2.1).2.1, (y6 t3.2.2.2.2.2.2.2 t3.2.1).2.2.1, (y6 t3.2.2.2.2.2.2.2 t3.2.1).2.2.2.1, (y6 t3.2.2.2.2.2.2.2 t3.2.1).2.2.2.2) else none else none else again (t3.1, (Go.IntKind.wrap .i64 (t3.2.1 + (1 : Int))), t3.2.2.1, t3.2.2.2.1, t3.2.2.2.2.1, t3.2.2.2.2.2.1, t3.2.2.2.2.2.2.1, t3.2.2.2.2.2.2.2) else none else none else k1 (t3.2.2.1, t3.2.2.2.1, t3.2.2.2.2.1, t3.2.2.2.2.2.1, t3.2.2.2.2.2.2.1)
def Qx k0 k1 := zL (@J5 R k0 k1) Y4
def Wz (x : y9y) : Option ygk :=
 Option.bind (yM (x.1, x.2.1)) fun r1 => Qx (fun x3 => some x3) (fun x4 => some ((0 : Int), (0 : Int), (0 : Int), (0 : Int), (0 : Int))) (x.2.2.2.2.2.2, (0 : Int), (0 : Int), (0 : Int), (0 : Int), (0 : Int), (0 : Int), r1)
def ykA : List QF := [yjG]
def y72 (t : ymr) : St := ⟨.dead :: vI t.1 :: dd 2 (.box 4 0 :: .own 10000000 :: vI t.2.1 :: dd 29 []), [(4, .box [vI t.2.2.1, vI t.2.2.2.1, vI t.2.2.2.2.1, vI t.2.2.2.2.2.1, vI t.2.2.2.2.2.2.1]), (10000000, .root true 63 yi t.2.2.2.2.2.2.2)]⟩
def yiB : Gk vw := fun κ => J5 (fun t => κ none ⟨dd 4 (.box 4 0 :: dd 31 []), [(4, .box [vI t.1, vI t.2.1, vI t.2.2.1, vI t.2.2.2.1, vI t.2.2.2.2])]⟩) (fun t => κ (some 0) ⟨dd 4 (.box 4 0 :: dd 31 []), [(4, .box [vI t.1, vI t.2.1, vI t.2.2.1, vI t.2.2.2.1, vI t.2.2.2.2])]⟩)
def ykB : Lp := lpC 3 (unG yms y72) @yiB lpN
theorem yqW : LF ykA ykB 175 3 Tryz.f175 0 y72 @yiB fun t => t := fun R κ again t => by kernel_rfl
theorem yqX : LK ykA ykB 175 Tryz.f175 0 := lkN (u := (unG yms y72)) (yt fun t => by kernel_rfl) yqW
theorem yvA : EV ykA ykB 175 Tryz.f175 ypd y9z qt Wz := fun x => by kernel_rfl
def yBH : QF := ⟨175, Wz, okN (n := 1) Tryz.func175 ⟨yqX, trivial⟩ yvA⟩
def Yj (x : y9y) : Option ycZ :=
 Option.bind (yl (x.1, x.2.1, x.2.2.1, x.2.2.2.1, x.2.2.2.2.1, x.2.2.2.2.2.1)) fun r1 => Option.bind (yJ (x.1, x.2.1, x.2.2.1, x.2.2.2.1, x.2.2.2.2.1, x.2.2.2.2.2.1)) fun r2 => Option.bind (bif (!r2) then some true else Option.bind (yC (x.2.2.2.2.2.2, (0 : Int), (Go.IntKind.wrap .i64 ((List.length x.2.2.2.1 : Int) - (1 : Int))))) fun r4 => some (!r4)) fun u3 => Option.bind (bif u3 then some true else if (0 : Int) ≤ x.2.2.2.2.2.2 then if x.2.2.2.2.2.2 < (List.length x.2.2.2.1 : Int) then some (!((ym x.2.2.2.1 x.2.2.2.2.2.2).2.1)) else none else none) fun u5 => bif u5 then some (r1.1, r1.2.1, r1.2.2.1, r1.2.2.2.1, r1.2.2.2.2.1, r1.2.2.2.2.2, false) else Option.bind (Wz x) fun r6 => if (0 : Int) ≤ x.2.2.2.2.2.2 then if x.2.2.2.2.2.2 < (List.length x.2.2.2.1 : Int) then Option.bind (zY (x.2.2.2.1, (ym x.2.2.2.1 x.2.2.2.2.2.2).2.2)) fun r7 => Option.bind (bif (!r7.2.2) then some true else some (decide (r7.2.1 > x.2.2.2.2.2.2))) fun u8 => bif u8 then some (r1.1, r1.2.1, r1.2.2.1, r1.2.2.2.1, r1.2.2.2.2.1, r1.2.2.2.2.2, false) else if (0 : Int) ≤ r7.2.1 then if r7.2.1 < (List.length r7.1 : Int) then Option.bind (zU (x.1, x.2.1, r6.1, r6.2.1, r6.2.2.1, r7.2.1, (ym r7.1 r7.2.1).1)) fun r9 => Option.bind (ZB (r7.1, x.2.2.2.2.2.2)) fun r10 => Option.bind (bif (!r9.2.2) then some true else Option.bind (yJ (r9.1, r9.2.1, r1.2.2.1, r10, r1.2.2.2.2)) fun r12 => some (!r12)) fun u11 => bif u11 then Option.bind (yl (x.1, x.2.1, x.2.2.1, x.2.2.2.1, x.2.2.2.2.1, x.2.2.2.2.2.1)) fun r13 => some (r13.1, r13.2.1, r13.2.2.1, r13.2.2.2.1, r13.2.2.2.2.1, r13.2.2.2.2.2, false) else some (r9.1, r9.2.1, r1.2.2.1, r10, r1.2.2.2.2.1, r1.2.2.2.2.2, true) else none else none else none else none
theorem yvB : EV [yjX, yeI, y6j, yAd, yv7, yBH, yAg] lpN 154 Tryz.f154 ype y9z yd0 Yj := fun x => by kernel_rfl
def yBI : QF := ⟨154, Yj, okN (n := 0) Tryz.func154 trivial yvB⟩
def K1 (x : yji) : Option ycZ :=
 bif (x.2.2.2.2.2.2.1 == (7 : Int)) then Option.bind (Y5 (x.1, x.2.1, x.2.2.1, x.2.2.2.1, x.2.2.2.2.1, x.2.2.2.2.2.1)) fun r1 => some r1 else bif (x.2.2.2.2.2.2.1 == (8 : Int)) then Option.bind (Yi (x.1, x.2.1, x.2.2.1, x.2.2.2.1, x.2.2.2.2.1, x.2.2.2.2.2.1, x.2.2.2.2.2.2.2.2.2.1)) fun r2 => some r2 else Option.bind (Yj (x.1, x.2.1, x.2.2.1, x.2.2.2.1, x.2.2.2.2.1, x.2.2.2.2.2.1, x.2.2.2.2.2.2.2.2.2.1)) fun r3 => some r3
theorem yvC : EV [yBD, yBG, yBI] lpN 116 Tryz.f116 ypf yjj yd0 K1 := fun x => by kernel_rfl
def yBJ : QF := ⟨116, K1, okN (n := 0) Tryz.func116 trivial yvC⟩
def J6 (x : yji) : Option y9y :=
 Option.bind (v9 x.2.2.2.2.2.2) fun r1 => Option.bind (bif (!r1) then some true else Option.bind (yJ (x.1, x.2.1, x.2.2.1, x.2.2.2.1, x.2.2.2.2.1, x.2.2.2.2.2.1)) fun r3 => some (!r3)) fun u2 => bif u2 then Option.bind (yl (x.1, x.2.1, x.2.2.1, x.2.2.2.1, x.2.2.2.2.1, x.2.2.2.2.2.1)) fun r4 => some (r4.1, r4.2.1, r4.2.2.1, r4.2.2.2.1, r4.2.2.2.2.1, r4.2.2.2.2.2, (1 : Int)) else bif (x.2.2.2.2.2.2.1 == (1 : Int)) then Option.bind (JG (x.1, x.2.1, x.2.2.1, x.2.2.2.1, x.2.2.2.2.1, x.2.2.2.2.2.1, x.2.2.2.2.2.2.2.1, x.2.2.2.2.2.2.2.2.2.1)) fun r5 => some r5 else bif (x.2.2.2.2.2.2.1 == (2 : Int)) then Option.bind (kr (x.1, x.2.1, x.2.2.1, x.2.2.2.1, x.2.2.2.2.1, x.2.2.2.2.2.1, x.2.2.2.2.2.2.2.1, x.2.2.2.2.2.2.2.2.1, (x.2.2.2.2.2.2.2.2.2.2 == (1 : Int)))) fun r6 => some r6 else bif (x.2.2.2.2.2.2.1 == (3 : Int)) then Option.bind (kt (x.1, x.2.1, x.2.2.1, x.2.2.2.1, x.2.2.2.2.1, x.2.2.2.2.2.1, x.2.2.2.2.2.2.2.1)) fun r7 => some r7 else bif (x.2.2.2.2.2.2.1 == (4 : Int)) then Option.bind (W2 (x.1, x.2.1, x.2.2.1, x.2.2.2.1, x.2.2.2.2.1, x.2.2.2.2.2.1, x.2.2.2.2.2.2.2.1, x.2.2.2.2.2.2.2.2.2)) fun r8 => some r8 else bif (x.2.2.2.2.2.2.1 == (5 : Int)) then Option.bind (jz (x.1, x.2.1, x.2.2.1, x.2.2.2.1, x.2.2.2.2.1, x.2.2.2.2.2.1, x.2.2.2.2.2.2.2.1, x.2.2.2.2.2.2.2.2.2.1)) fun r9 => some r9 else bif (x.2.2.2.2.2.2.1 == (6 : Int)) then Option.bind (JL (x.1, x.2.1, x.2.2.1, x.2.2.2.1, x.2.2.2.2.1, x.2.2.2.2.2.1, x.2.2.2.2.2.2.2.1, x.2.2.2.2.2.2.2.2.2.1)) fun r10 => some r10 else Option.bind (K1 x) fun r11 => bif (!r11.2.2.2.2.2.2) then some (r11.1, r11.2.1, r11.2.2.1, r11.2.2.2.1, r11.2.2.2.2.1, r11.2.2.2.2.2.1, (2 : Int)) else some (r11.1, r11.2.1, r11.2.2.1, r11.2.2.2.1, r11.2.2.2.2.1, r11.2.2.2.2.2.1, (0 : Int))
theorem yBK : EV [yB5, yjX, yeI, yBg, yBh, yBi, yBp, yBs, yBt, yBJ] lpN 70 Tryz.f70 yz8 yjj y9z J6 := fun x => by kernel_rfl
def q70 : QF := ⟨70, J6, okN (n := 0) Tryz.func70 trivial yBK⟩
abbrev wJ : Type := yel ⊕ yem
def jo (k0 : ytl → Option R) (k1 : ytm → Option R) (again : wJ → Option R) : wJ → Option R
 | .inl t3 => bif (decide (t3.1 > (0 : Int))) then Option.bind (YC (t3.2.1, t3.2.2.1, t3.2.2.2.1)) fun r3 => Option.bind (J6 (t3.2.2.2.2.2.2.1, t3.2.2.2.2.2.2.2.1, t3.2.2.2.2.2.2.2.2.1, t3.2.2.2.2.2.2.2.2.2.1, t3.2.2.2.2.2.2.2.2.2.2, t3.2.2.2.2.2.1, r3.1, r3.2.1, r3.2.2.1, r3.2.2.2.1, r3.2.2.2.2.1)) fun r4 => again (Sum.inr ((Go.IntKind.wrap .i64 (t3.1 - (1 : Int))), r3.2.2.2.2.2.1, r3.2.2.2.2.2.2.1, r3.2.2.2.2.2.2.2, t3.2.2.2.2.1, r4.1, r4.2.1, r4.2.2.1, r4.2.2.2.2.2.1, r4.2.2.2.1, r4.2.2.2.2.1)) else k0 t3.2
 | .inr t3 => bif (decide (t3.1 > (0 : Int))) then Option.bind (YC (t3.2.1, t3.2.2.1, t3.2.2.2.1)) fun r5 => Option.bind (J6 (t3.2.2.2.2.2.1, t3.2.2.2.2.2.2.1, t3.2.2.2.2.2.2.2.1, t3.2.2.2.2.2.2.2.2.2.1, t3.2.2.2.2.2.2.2.2.2.2, t3.2.2.2.2.2.2.2.2.1, r5.1, r5.2.1, r5.2.2.1, r5.2.2.2.1, r5.2.2.2.2.1)) fun r6 => again (Sum.inr ((Go.IntKind.wrap .i64 (t3.1 - (1 : Int))), r5.2.2.2.2.2.1, r5.2.2.2.2.2.2.1, r5.2.2.2.2.2.2.2, t3.2.2.2.2.1, r6.1, r6.2.1, r6.2.2.1, r6.2.2.2.2.2.1, r6.2.2.2.1, r6.2.2.2.2.1)) else k1 t3.2
def qU k0 k1 := zL (@jo R k0 k1) Y4
def ws (x : Qz3) : Option ytn :=
 Option.bind (kZ ()) fun r1 => Option.bind (yy (x.1, x.2.1, x.2.2.1, (Go.IntKind.wrap .i64 (x.2.2.2 + (1 : Int))))) fun r2 => qU (fun x7 => some (x7.2.2.2.2.2.1, x7.2.2.2.2.2.2.1, x7.2.2.2.2.2.2.2.1, x7.2.2.2.2.2.2.2.2.1, x7.2.2.2.2.2.2.2.2.2, x7.2.2.2.2.1, x7.1, x7.2.1, x7.2.2.1)) (fun x8 => some (x8.2.2.2.2.1, x8.2.2.2.2.2.1, x8.2.2.2.2.2.2.1, x8.2.2.2.2.2.2.2.2.1, x8.2.2.2.2.2.2.2.2.2, x8.2.2.2.2.2.2.2.1, x8.1, x8.2.1, x8.2.2.1)) (Sum.inl (r2.1, r2.2.1, r2.2.2.1, r2.2.2.2, (0 : Int), r1.2.2.2.2.2, r1.1, r1.2.1, r1.2.2.1, r1.2.2.2.1, r1.2.2.2.2.1))
def yqY : List QF := [q35, q68, q69, q70]
def y73 (t : yel) : St := ⟨.box 900 0 :: dd 3 (.box 4 0 :: .box 5 0 :: vI t.1 :: dd 17 []), [(900, .box [ygi t.2.1, vI t.2.2.1, vI t.2.2.2.1]), (4, .box [.nils, .nils, .nils, .nils, .nils, vI t.2.2.2.2.1]), (5, .box [.own 10000000, .own 10000001, .own 10000002, .own 10000003, .own 10000004, vI t.2.2.2.2.2.1]), (10000000, .root true 3 yd t.2.2.2.2.2.2.1), (10000001, .root true 99 yg t.2.2.2.2.2.2.2.1), (10000002, .root true 67 yk t.2.2.2.2.2.2.2.2.1), (10000003, .root true 53 yc t.2.2.2.2.2.2.2.2.2.1), (10000004, .root true 41 yz t.2.2.2.2.2.2.2.2.2.2)]⟩
theorem ykC : ∀ s t, unG ymt y73 s = some t → y73 t = s := yt fun t => by kernel_rfl
def y74 (t : yem) : St := ⟨.box 900 0 :: dd 3 (.box 4 0 :: .box 5 0 :: vI t.1 :: dd 17 []), [(900, .box [ygi t.2.1, vI t.2.2.1, vI t.2.2.2.1]), (4, .box [.nils, .nils, .nils, .nils, .nils, vI t.2.2.2.2.1]), (5, .box [yT t.2.2.2.2.2.1, yx t.2.2.2.2.2.2.1, zh t.2.2.2.2.2.2.2.1, .own 10000000, .own 10000001, vI t.2.2.2.2.2.2.2.2.1]), (10000000, .root true 53 yc t.2.2.2.2.2.2.2.2.2.1), (10000001, .root true 41 yz t.2.2.2.2.2.2.2.2.2.2)]⟩
theorem ykD : ∀ s t, unG ymu y74 s = some t → y74 t = s := yt fun t => by kernel_rfl
def y75 : (yel ⊕ yem) → St := Sum.elim y73 y74
def yad (s : St) : Option (yel ⊕ yem) := ((unG ymt y73 s).map Sum.inl).or (((unG ymu y74) s).map Sum.inr)
theorem ykE : ∀ s t, yad s = some t → y75 t = s := y4U ykC ykD
def ygz : Gk wJ := fun κ => jo (fun t => κ (some 0) ⟨.box 900 0 :: dd 3 (.box 4 0 :: .box 5 0 :: dd 18 []), [(900, .box [ygi t.1, vI t.2.1, vI t.2.2.1]), (4, .box [.nils, .nils, .nils, .nils, .nils, vI t.2.2.2.1]), (5, .box [.own 10000000, .own 10000001, .own 10000002, .own 10000003, .own 10000004, vI t.2.2.2.2.1]), (10000000, .root true 3 yd t.2.2.2.2.2.1), (10000001, .root true 99 yg t.2.2.2.2.2.2.1), (10000002, .root true 67 yk t.2.2.2.2.2.2.2.1), (10000003, .root true 53 yc t.2.2.2.2.2.2.2.2.1), (10000004, .root true 41 yz t.2.2.2.2.2.2.2.2.2)]⟩) (fun t => κ (some 0) ⟨.box 900 0 :: dd 3 (.box 4 0 :: .box 5 0 :: dd 18 []), [(900, .box [ygi t.1, vI t.2.1, vI t.2.2.1]), (4, .box [.nils, .nils, .nils, .nils, .nils, vI t.2.2.2.1]), (5, .box [yT t.2.2.2.2.1, yx t.2.2.2.2.2.1, zh t.2.2.2.2.2.2.1, .own 10000000, .own 10000001, vI t.2.2.2.2.2.2.2.1]), (10000000, .root true 53 yc t.2.2.2.2.2.2.2.2.1), (10000001, .root true 41 yz t.2.2.2.2.2.2.2.2.2)]⟩)
def yqZ : Lp := lpC 3 yad @ygz lpN
theorem ykF : LF yqY yqZ 33 3 Tryz.f33 0 y75 @ygz fun v : yel => .inl v := fun R κ again v => by kernel_rfl
theorem ykG : LF yqY yqZ 33 3 Tryz.f33 0 y75 @ygz fun v : yem => .inr v := fun R κ again v => by kernel_rfl
theorem yvD : LF yqY yqZ 33 3 Tryz.f33 0 y75 @ygz fun t => t := (LC.sum ykF ykG)
theorem yvE : LK yqY yqZ 33 Tryz.f33 0 := lkN (u := yad) ykE yvD
theorem yBL : EV yqY yqZ 33 Tryz.f33 yz9 qz3 yto ws := fun x => by kernel_rfl
def q33 : QF := ⟨33, ws, okN (n := 1) Tryz.func33 ⟨yvE, trivial⟩ yBL⟩
def WA (x : Qz1) : Option Int :=
 bif (decide ((Go.IntKind.wrap .i64 ((3 : Int) + (Go.IntKind.wrap .i64 (Int.tdiv (List.length x.1 : Int) (12 : Int))))) > x.2)) then some x.2 else some (Go.IntKind.wrap .i64 ((3 : Int) + (Go.IntKind.wrap .i64 (Int.tdiv (List.length x.1 : Int) (12 : Int)))))
theorem yBM : EV [] lpN 34 Tryz.f34 yza qz1 [(.int .i64)] WA := fun x => by kernel_rfl
def q34 : QF := ⟨34, WA, okN (n := 0) Tryz.func34 trivial yBM⟩
def J7 (x : List y2D) : Option yji :=
 Option.bind (V7 x) fun r1 => Option.bind (WA (x, (30 : Int))) fun r2 => Option.bind (ws (r1.1, r1.2.1, r1.2.2, (Go.IntKind.wrap .i64 ((8 : Int) + r2)))) fun r3 => Option.bind (YC r3.2.2.2.2.2.2) fun r4 => some (r3.1, r3.2.1, r3.2.2.1, r3.2.2.2.1, r3.2.2.2.2.1, r3.2.2.2.2.2.1, r4.1, r4.2.1, r4.2.2.1, r4.2.2.2.1, r4.2.2.2.2.1)
theorem ev8 : EV [q32, q33, q34, q35] lpN 8 Tryz.f8 sg8 [(.sl 5 W9)] yjj J7 := fun x => by kernel_rfl
def q8 : QF := ⟨8, J7, okN (n := 0) Tryz.func8 trivial ev8⟩
def vx (x : Qz1) : Option Int :=
 bif (decide (x.2 < (List.length x.1 : Int))) then if (0 : Int) ≤ x.2 then if x.2 < (List.length x.1 : Int) then some (Go.IntKind.wrap .i64 (ygh x.1 x.2)) else none else none else some (Int.tmod (Go.IntKind.wrap .i64 ((Go.IntKind.wrap .i64 (x.2 * (31 : Int))) + (Go.IntKind.wrap .i64 ((List.length x.1 : Int) * (7 : Int))))) (256 : Int))
theorem yBN : EV [] lpN 10 Tryz.f10 yzb qz1 [(.int .i64)] vx := fun x => by kernel_rfl
def q10 : QF := ⟨10, vx, okN (n := 0) Tryz.func10 trivial yBN⟩
abbrev kA : Type := ymv
def ZE (k0 : Bool → Option R) (k1 : Unit → Option R) (again : kA → Option R) (t4 : kA) : Option R :=
 bif (decide (t4.2.2 < (List.length t4.1 : Int))) then if (0 : Int) ≤ t4.2.2 then if t4.2.2 < (List.length t4.1 : Int) then if (0 : Int) ≤ t4.2.2 then if t4.2.2 < (List.length t4.2.1 : Int) then bif ((zu t4.1 t4.2.2) != (zu t4.2.1 t4.2.2)) then k0 false else again (t4.1, t4.2.1, (Go.IntKind.wrap .i64 (t4.2.2 + (1 : Int)))) else none else none else none else none else k1 ()
def VN k0 k1 := zL (@ZE R k0 k1) Y4
def J8 (x : ymx) : Option Bool :=
 bif ((List.length x.1 : Int) != (List.length x.2 : Int)) then some false else VN (fun x1 => some x1) (fun x2 => some true) (x.1, x.2, (0 : Int))
def yvF : List QF := []
def yae (t : ymv) : St := ⟨yT t.1 :: yT t.2.1 :: dd 3 (vI t.2.2 :: dd 20 []), []⟩
def yr0 : Gk kA := fun κ => ZE (fun t => κ none ⟨dd 4 (vB t :: dd 21 []), []⟩) (fun t => κ (some 0) ⟨dd 26 [], []⟩)
def yvG : Lp := lpC 4 (unG ymw yae) @yr0 lpN
theorem yvH : LF yvF yvG 83 4 Tryz.f83 0 yae @yr0 fun t => t := fun R κ again t => by kernel_rfl
theorem yvI : LK yvF yvG 83 Tryz.f83 0 := lkN (u := (unG ymw yae)) (yt fun t => by kernel_rfl) yvH
theorem yBO : EV yvF yvG 83 Tryz.f83 yzc ymy [.bool] J8 := fun x => by kernel_rfl
def q83 : QF := ⟨83, J8, okN (n := 1) Tryz.func83 ⟨yvI, trivial⟩ yBO⟩
abbrev kB : Type := ymz
def ZF (k0 : Bool → Option R) (k1 : Unit → Option R) (again : kB → Option R) (t4 : kB) : Option R :=
 bif (decide (t4.2.2 < (List.length t4.1 : Int))) then if (0 : Int) ≤ t4.2.2 then if t4.2.2 < (List.length t4.1 : Int) then if (0 : Int) ≤ t4.2.2 then if t4.2.2 < (List.length t4.2.1 : Int) then bif (!(((y6 t4.1 t4.2.2).1 == (y6 t4.2.1 t4.2.2).1) && (((y6 t4.1 t4.2.2).2.1 == (y6 t4.2.1 t4.2.2).2.1) && (((y6 t4.1 t4.2.2).2.2.1 == (y6 t4.2.1 t4.2.2).2.2.1) && (((y6 t4.1 t4.2.2).2.2.2.1 == (y6 t4.2.1 t4.2.2).2.2.2.1) && (((y6 t4.1 t4.2.2).2.2.2.2 == (y6 t4.2.1 t4.2.2).2.2.2.2) && true)))))) then k0 false else again (t4.1, t4.2.1, (Go.IntKind.wrap .i64 (t4.2.2 + (1 : Int)))) else none else none else none else none else k1 ()
def VO k0 k1 := zL (@ZF R k0 k1) Y4
def J9 (x : ysZ) : Option Bool :=
 bif ((List.length x.1 : Int) != (List.length x.2 : Int)) then some false else VO (fun x1 => some x1) (fun x2 => some true) (x.1, x.2, (0 : Int))
def ykH : List QF := []
def y76 (t : ymz) : St := ⟨qs t.1 :: qs t.2.1 :: dd 3 (vI t.2.2 :: dd 20 []), []⟩
def yiC : Gk kB := fun κ => ZF (fun t => κ none ⟨dd 4 (vB t :: dd 21 []), []⟩) (fun t => κ (some 0) ⟨dd 26 [], []⟩)
def ykI : Lp := lpC 4 (unG ymA y76) @yiC lpN
theorem yr1 : LF ykH ykI 123 4 Tryz.f123 0 y76 @yiC fun t => t := fun R κ again t => by kernel_rfl
theorem yr2 : LK ykH ykI 123 Tryz.f123 0 := lkN (u := (unG ymA y76)) (yt fun t => by kernel_rfl) yr1
theorem yvJ : EV ykH ykI 123 Tryz.f123 ypg yt0 [.bool] J9 := fun x => by kernel_rfl
def yBP : QF := ⟨123, J9, okN (n := 1) Tryz.func123 ⟨yr2, trivial⟩ yvJ⟩
abbrev kC : Type := yjf
def ZG (k0 : Bool → Option R) (k1 : Unit → Option R) (again : kC → Option R) (t4 : kC) : Option R :=
 bif (decide (t4.1 < (List.length t4.2.1 : Int))) then if (0 : Int) ≤ t4.1 then if t4.1 < (List.length t4.2.1 : Int) then if (0 : Int) ≤ t4.1 then if t4.1 < (List.length t4.2.2 : Int) then Option.bind (J9 ((yq t4.2.1 t4.1), (yq t4.2.2 t4.1))) fun r1 => bif (!r1) then k0 false else again ((Go.IntKind.wrap .i64 (t4.1 + (1 : Int))), t4.2.1, t4.2.2) else none else none else none else none else k1 ()
def VP k0 k1 := zL (@ZG R k0 k1) Y4
def Ja (x : ytp) : Option Bool :=
 bif ((List.length x.1 : Int) != (List.length x.2 : Int)) then some false else VP (fun x2 => some x2) (fun x3 => some true) ((0 : Int), x.1, x.2)
def yvK : List QF := [yBP]
def yaf (t : yjf) : St := ⟨dd 2 (.box 2 0 :: .box 3 0 :: .dead :: vI t.1 :: dd 26 []), [(2, .box [Yr t.2.1]), (3, .box [Yr t.2.2])]⟩
def yr3 : Gk kC := fun κ => ZG (fun t => κ none ⟨dd 4 (vB t :: dd 27 []), []⟩) (fun t => κ (some 0) ⟨dd 32 [], []⟩)
def yvL : Lp := lpC 4 (unG ysv yaf) @yr3 lpN
theorem yvM : LF yvK yvL 84 4 Tryz.f84 0 yaf @yr3 fun t => t := fun R κ again t => by kernel_rfl
theorem yvN : LK yvK yvL 84 Tryz.f84 0 := lkN (u := (unG ysv yaf)) (yt fun t => by kernel_rfl) yvM
theorem yBQ : EV yvK yvL 84 Tryz.f84 yzd ytq [.bool] Ja := fun x => by kernel_rfl
def q84 : QF := ⟨84, Ja, okN (n := 1) Tryz.func84 ⟨yvN, trivial⟩ yBQ⟩
abbrev kD : Type := yjg
def ZH (k0 : Bool → Option R) (k1 : Unit → Option R) (again : kD → Option R) (t4 : kD) : Option R :=
 bif (decide (t4.1 < (List.length t4.2.2.1 : Int))) then if (0 : Int) ≤ t4.1 then if t4.1 < (List.length t4.2.2.1 : Int) then if (0 : Int) ≤ t4.1 then if t4.1 < (List.length t4.2.2.2.2 : Int) then Option.bind (Ja ((yf t4.2.2.1 t4.1), (yf t4.2.2.2.2 t4.1))) fun r3 => bif (!r3) then k0 false else again ((Go.IntKind.wrap .i64 (t4.1 + (1 : Int))), t4.2.1, t4.2.2.1, t4.2.2.2.1, t4.2.2.2.2) else none else none else none else none else k1 ()
def VQ k0 k1 := zL (@ZH R k0 k1) Y4
def Jb (x : ytr) : Option Bool :=
 Option.bind (J8 (x.1, x.2.2.1)) fun r1 => Option.bind (bif (!r1) then some true else some ((List.length x.2.1 : Int) != (List.length x.2.2.2 : Int))) fun u2 => bif u2 then some false else VQ (fun x4 => some x4) (fun x5 => some true) ((0 : Int), x.1, x.2.1, x.2.2.1, x.2.2.2)
def yvO : List QF := [q83, q84]
def yag (t : yjg) : St := ⟨dd 2 (.box 2 0 :: .box 3 0 :: .dead :: vI t.1 :: dd 34 []), [(2, .box [yT t.2.1, yx t.2.2.1]), (3, .box [yT t.2.2.2.1, yx t.2.2.2.2])]⟩
def yr4 : Gk kD := fun κ => ZH (fun t => κ none ⟨dd 4 (vB t :: dd 35 []), []⟩) (fun t => κ (some 0) ⟨dd 40 [], []⟩)
def yvP : Lp := lpC 4 (unG ysw yag) @yr4 lpN
theorem yvQ : LF yvO yvP 43 4 Tryz.f43 0 yag @yr4 fun t => t := fun R κ again t => by kernel_rfl
theorem yvR : LK yvO yvP 43 Tryz.f43 0 := lkN (u := (unG ysw yag)) (yt fun t => by kernel_rfl) yvQ
theorem yBR : EV yvO yvP 43 Tryz.f43 yze yts [.bool] Jb := fun x => by kernel_rfl
def q43 : QF := ⟨43, Jb, okN (n := 1) Tryz.func43 ⟨yvR, trivial⟩ yBR⟩
abbrev kE : Type := ymB
def ZI (k0 : Bool → Option R) (k1 : Unit → Option R) (again : kE → Option R) (t4 : kE) : Option R :=
 bif (decide (t4.2.2 < (List.length t4.1 : Int))) then if (0 : Int) ≤ t4.2.2 then if t4.2.2 < (List.length t4.1 : Int) then if (0 : Int) ≤ t4.2.2 then if t4.2.2 < (List.length t4.2.1 : Int) then bif (!(((yO t4.1 t4.2.2).1 == (yO t4.2.1 t4.2.2).1) && (((yO t4.1 t4.2.2).2 == (yO t4.2.1 t4.2.2).2) && true))) then k0 false else again (t4.1, t4.2.1, (Go.IntKind.wrap .i64 (t4.2.2 + (1 : Int)))) else none else none else none else none else k1 ()
def VR k0 k1 := zL (@ZI R k0 k1) Y4
def Jc (x : ytt) : Option Bool :=
 bif ((List.length x.1 : Int) != (List.length x.2 : Int)) then some false else VR (fun x1 => some x1) (fun x2 => some true) (x.1, x.2, (0 : Int))
def yvS : List QF := []
def yah (t : ymB) : St := ⟨zh t.1 :: zh t.2.1 :: dd 3 (vI t.2.2 :: dd 20 []), []⟩
def yr5 : Gk kE := fun κ => ZI (fun t => κ none ⟨dd 4 (vB t :: dd 21 []), []⟩) (fun t => κ (some 0) ⟨dd 26 [], []⟩)
def yvT : Lp := lpC 4 (unG ymC yah) @yr5 lpN
theorem yvU : LF yvS yvT 44 4 Tryz.f44 0 yah @yr5 fun t => t := fun R κ again t => by kernel_rfl
theorem yvV : LK yvS yvT 44 Tryz.f44 0 := lkN (u := (unG ymC yah)) (yt fun t => by kernel_rfl) yvU
theorem yBS : EV yvS yvT 44 Tryz.f44 yzf ytu [.bool] Jc := fun x => by kernel_rfl
def q44 : QF := ⟨44, Jc, okN (n := 1) Tryz.func44 ⟨yvV, trivial⟩ yBS⟩
abbrev WB : Type := ymD
def Z6 (k0 : Bool → Option R) (k1 : Unit → Option R) (again : WB → Option R) (t4 : WB) : Option R :=
 bif (decide (t4.2.2 < (List.length t4.1 : Int))) then if (0 : Int) ≤ t4.2.2 then if t4.2.2 < (List.length t4.1 : Int) then if (0 : Int) ≤ t4.2.2 then if t4.2.2 < (List.length t4.2.1 : Int) then bif (!(((ym t4.1 t4.2.2).1 == (ym t4.2.1 t4.2.2).1) && (((ym t4.1 t4.2.2).2.1 == (ym t4.2.1 t4.2.2).2.1) && (((ym t4.1 t4.2.2).2.2 == (ym t4.2.1 t4.2.2).2.2) && true)))) then k0 false else again (t4.1, t4.2.1, (Go.IntKind.wrap .i64 (t4.2.2 + (1 : Int)))) else none else none else none else none else k1 ()
def Vd k0 k1 := zL (@Z6 R k0 k1) Y4
def jp (x : ytv) : Option Bool :=
 bif ((List.length x.1 : Int) != (List.length x.2 : Int)) then some false else Vd (fun x1 => some x1) (fun x2 => some true) (x.1, x.2, (0 : Int))
def yvW : List QF := []
def yai (t : ymD) : St := ⟨yL t.1 :: yL t.2.1 :: dd 3 (vI t.2.2 :: dd 20 []), []⟩
def yr6 : Gk WB := fun κ => Z6 (fun t => κ none ⟨dd 4 (vB t :: dd 21 []), []⟩) (fun t => κ (some 0) ⟨dd 26 [], []⟩)
def yvX : Lp := lpC 4 (unG ymE yai) @yr6 lpN
theorem yvY : LF yvW yvX 45 4 Tryz.f45 0 yai @yr6 fun t => t := fun R κ again t => by kernel_rfl
theorem yvZ : LK yvW yvX 45 Tryz.f45 0 := lkN (u := (unG ymE yai)) (yt fun t => by kernel_rfl) yvY
theorem yBT : EV yvW yvX 45 Tryz.f45 yzg ytw [.bool] jp := fun x => by kernel_rfl
def q45 : QF := ⟨45, jp, okN (n := 1) Tryz.func45 ⟨yvZ, trivial⟩ yBT⟩
abbrev kF : Type := ymF
def ZJ (k0 : Bool → Option R) (k1 : Unit → Option R) (again : kF → Option R) (t4 : kF) : Option R :=
 bif (decide (t4.1 < (List.length t4.2.2.2.2.2.1 : Int))) then if (0 : Int) ≤ t4.1 then if t4.1 < (List.length t4.2.2.2.2.2.1 : Int) then if (0 : Int) ≤ t4.1 then if t4.1 < (List.length t4.2.2.2.2.2.2.2.2.2.2.2.1 : Int) then bif (!((ByteArray.toList ((yj t4.2.2.2.2.2.1 t4.1).1) == ByteArray.toList ((yj t4.2.2.2.2.2.2.2.2.2.2.2.1 t4.1).1)) && (((yj t4.2.2.2.2.2.1 t4.1).2.1 == (yj t4.2.2.2.2.2.2.2.2.2.2.2.1 t4.1).2.1) && (((yj t4.2.2.2.2.2.1 t4.1).2.2.1 == (yj t4.2.2.2.2.2.2.2.2.2.2.2.1 t4.1).2.2.1) && (((yj t4.2.2.2.2.2.1 t4.1).2.2.2 == (yj t4.2.2.2.2.2.2.2.2.2.2.2.1 t4.1).2.2.2) && true))))) then k0 false else again ((Go.IntKind.wrap .i64 (t4.1 + (1 : Int))), t4.2.1, t4.2.2.1, t4.2.2.2.1, t4.2.2.2.2.1, t4.2.2.2.2.2.1, t4.2.2.2.2.2.2.1, t4.2.2.2.2.2.2.2.1, t4.2.2.2.2.2.2.2.2.1, t4.2.2.2.2.2.2.2.2.2.1, t4.2.2.2.2.2.2.2.2.2.2.1, t4.2.2.2.2.2.2.2.2.2.2.2.1, t4.2.2.2.2.2.2.2.2.2.2.2.2) else none else none else none else none else k1 ()
def kG k0 k1 := zL (@ZJ R k0 k1) Y4
def zZ (x : ytx) : Option Bool :=
 Option.bind (Jb (x.1, x.2.1, x.2.2.2.2.2.2.1, x.2.2.2.2.2.2.2.1)) fun r1 => Option.bind (bif (!r1) then some true else Option.bind (Jc (x.2.2.1, x.2.2.2.2.2.2.2.2.1)) fun r3 => some (!r3)) fun u2 => Option.bind (bif u2 then some true else Option.bind (jp (x.2.2.2.1, x.2.2.2.2.2.2.2.2.2.1)) fun r5 => some (!r5)) fun u4 => Option.bind (bif u4 then some true else some ((List.length x.2.2.2.2.1 : Int) != (List.length x.2.2.2.2.2.2.2.2.2.2.1 : Int))) fun u6 => Option.bind (bif u6 then some true else some (x.2.2.2.2.2.1 != x.2.2.2.2.2.2.2.2.2.2.2)) fun u7 => bif u7 then some false else kG (fun x8 => some x8) (fun x9 => some true) ((0 : Int), x.1, x.2.1, x.2.2.1, x.2.2.2.1, x.2.2.2.2.1, x.2.2.2.2.2.1, x.2.2.2.2.2.2.1, x.2.2.2.2.2.2.2.1, x.2.2.2.2.2.2.2.2.1, x.2.2.2.2.2.2.2.2.2.1, x.2.2.2.2.2.2.2.2.2.2.1, x.2.2.2.2.2.2.2.2.2.2.2)
def yw0 : List QF := [q43, q44, q45]
def yaj (t : ymF) : St := ⟨dd 2 (.box 2 0 :: .box 3 0 :: .dead :: vI t.1 :: dd 56 []), [(2, .box [yT t.2.1, yx t.2.2.1, zh t.2.2.2.1, yL t.2.2.2.2.1, zH t.2.2.2.2.2.1, vI t.2.2.2.2.2.2.1]), (3, .box [yT t.2.2.2.2.2.2.2.1, yx t.2.2.2.2.2.2.2.2.1, zh t.2.2.2.2.2.2.2.2.2.1, yL t.2.2.2.2.2.2.2.2.2.2.1, zH t.2.2.2.2.2.2.2.2.2.2.2.1, vI t.2.2.2.2.2.2.2.2.2.2.2.2])]⟩
def yr7 : Gk kF := fun κ => ZJ (fun t => κ none ⟨dd 4 (vB t :: dd 57 []), []⟩) (fun t => κ (some 0) ⟨dd 62 [], []⟩)
def yw1 : Lp := lpC 4 (unG ymG yaj) @yr7 lpN
theorem yw2 : LF yw0 yw1 12 4 Tryz.f12 0 yaj @yr7 fun t => t := fun R κ again t => by kernel_rfl
theorem yw3 : LK yw0 yw1 12 Tryz.f12 0 := lkN (u := (unG ymG yaj)) (yt fun t => by kernel_rfl) yw2
theorem yBU : EV yw0 yw1 12 Tryz.f12 yzh yty [.bool] zZ := fun x => by kernel_rfl
def q12 : QF := ⟨12, zZ, okN (n := 1) Tryz.func12 ⟨yw3, trivial⟩ yBU⟩
def yF (x : ysX) : Option Bool :=
 Option.bind (bif (decide (x.1 ≥ x.2.1)) then some (decide (x.1 ≤ x.2.2)) else some false) fun u1 => some u1
theorem yBV : EV [] lpN 47 Tryz.f47 yzi ysY [.bool] yF := fun x => by kernel_rfl
def q47 : QF := ⟨47, yF, okN (n := 0) Tryz.func47 trivial yBV⟩
def jA (x : ysn) : Option Bool :=
 Option.bind (bif (decide (x.1 < x.2.2.2.2.2.1)) then some true else Option.bind (bif (x.1 == x.2.2.2.2.2.1) then some (decide (x.2.1 < x.2.2.2.2.2.2.1)) else some false) fun u2 => some u2) fun u1 => some u1
theorem yw4 : EV [] lpN 157 Tryz.f157 yph yso [.bool] jA := fun x => by kernel_rfl
def yAn : QF := ⟨157, jA, okN (n := 0) Tryz.func157 trivial yw4⟩
def ZK (x : ysn) : Option Bool :=
 Option.bind (bif (x.1 == x.2.2.2.2.2.1) then some (x.2.1 == x.2.2.2.2.2.2.1) else some false) fun u1 => some u1
theorem yw5 : EV [] lpN 158 Tryz.f158 ypi yso [.bool] ZK := fun x => by kernel_rfl
def yBW : QF := ⟨158, ZK, okN (n := 0) Tryz.func158 trivial yw5⟩
abbrev WC : Type := ymH
def YJ (k0 : yy1 → Option R) (again : WC → Option R) (t4 : WC) : Option R :=
 bif (decide (t4.2.2.2.1 < t4.2.2.1)) then if (0 : Int) ≤ t4.2.2.2.1 then if t4.2.2.2.1 < (List.length t4.2.1 : Int) then Option.bind (bif (!t4.1) then Option.bind (jA ((y6 t4.2.1 t4.2.2.2.1).1, (y6 t4.2.1 t4.2.2.2.1).2.1, (y6 t4.2.1 t4.2.2.2.1).2.2.1, (y6 t4.2.1 t4.2.2.2.1).2.2.2.1, (y6 t4.2.1 t4.2.2.2.1).2.2.2.2, t4.2.2.2.2.1, t4.2.2.2.2.2.1, t4.2.2.2.2.2.2.1, t4.2.2.2.2.2.2.2.1, t4.2.2.2.2.2.2.2.2.1)) fun r2 => some (!r2) else some false) fun u1 => bif u1 then if (List.length t4.2.2.2.2.2.2.2.2.2 + List.length ([(t4.2.2.2.2.1, t4.2.2.2.2.2.1, t4.2.2.2.2.2.2.1, t4.2.2.2.2.2.2.2.1, t4.2.2.2.2.2.2.2.2.1)] : List y8)) * 40 < 140737488355328 then Option.bind (ZK ((y6 t4.2.1 t4.2.2.2.1).1, (y6 t4.2.1 t4.2.2.2.1).2.1, (y6 t4.2.1 t4.2.2.2.1).2.2.1, (y6 t4.2.1 t4.2.2.2.1).2.2.2.1, (y6 t4.2.1 t4.2.2.2.1).2.2.2.2, t4.2.2.2.2.1, t4.2.2.2.2.2.1, t4.2.2.2.2.2.2.1, t4.2.2.2.2.2.2.2.1, t4.2.2.2.2.2.2.2.2.1)) fun r3 => bif (!r3) then if (List.length (t4.2.2.2.2.2.2.2.2.2 ++ ([(t4.2.2.2.2.1, t4.2.2.2.2.2.1, t4.2.2.2.2.2.2.1, t4.2.2.2.2.2.2.2.1, t4.2.2.2.2.2.2.2.2.1)] : List y8)) + List.length ([((y6 t4.2.1 t4.2.2.2.1).1, (y6 t4.2.1 t4.2.2.2.1).2.1, (y6 t4.2.1 t4.2.2.2.1).2.2.1, (y6 t4.2.1 t4.2.2.2.1).2.2.2.1, (y6 t4.2.1 t4.2.2.2.1).2.2.2.2)] : List y8)) * 40 < 140737488355328 then again (true, t4.2.1, t4.2.2.1, (Go.IntKind.wrap .i64 (t4.2.2.2.1 + (1 : Int))), t4.2.2.2.2.1, t4.2.2.2.2.2.1, t4.2.2.2.2.2.2.1, t4.2.2.2.2.2.2.2.1, t4.2.2.2.2.2.2.2.2.1, ((t4.2.2.2.2.2.2.2.2.2 ++ ([(t4.2.2.2.2.1, t4.2.2.2.2.2.1, t4.2.2.2.2.2.2.1, t4.2.2.2.2.2.2.2.1, t4.2.2.2.2.2.2.2.2.1)] : List y8)) ++ ([((y6 t4.2.1 t4.2.2.2.1).1, (y6 t4.2.1 t4.2.2.2.1).2.1, (y6 t4.2.1 t4.2.2.2.1).2.2.1, (y6 t4.2.1 t4.2.2.2.1).2.2.2.1, (y6 t4.2.1 t4.2.2.2.1).2.2.2.2)] : List y8))) else none else again (true, t4.2.1, t4.2.2.1, (Go.IntKind.wrap .i64 (t4.2.2.2.1 + (1 : Int))), t4.2.2.2.2.1, t4.2.2.2.2.2.1, t4.2.2.2.2.2.2.1, t4.2.2.2.2.2.2.2.1, t4.2.2.2.2.2.2.2.2.1, (t4.2.2.2.2.2.2.2.2.2 ++ ([(t4.2.2.2.2.1, t4.2.2.2.2.2.1, t4.2.2.2.2.2.2.1, t4.2.2.2.2.2.2.2.1, t4.2.2.2.2.2.2.2.2.1)] : List y8))) else none else Option.bind (ZK ((y6 t4.2.1 t4.2.2.2.1).1, (y6 t4.2.1 t4.2.2.2.1).2.1, (y6 t4.2.1 t4.2.2.2.1).2.2.1, (y6 t4.2.1 t4.2.2.2.1).2.2.2.1, (y6 t4.2.1 t4.2.2.2.1).2.2.2.2, t4.2.2.2.2.1, t4.2.2.2.2.2.1, t4.2.2.2.2.2.2.1, t4.2.2.2.2.2.2.2.1, t4.2.2.2.2.2.2.2.2.1)) fun r4 => bif (!r4) then if (List.length t4.2.2.2.2.2.2.2.2.2 + List.length ([((y6 t4.2.1 t4.2.2.2.1).1, (y6 t4.2.1 t4.2.2.2.1).2.1, (y6 t4.2.1 t4.2.2.2.1).2.2.1, (y6 t4.2.1 t4.2.2.2.1).2.2.2.1, (y6 t4.2.1 t4.2.2.2.1).2.2.2.2)] : List y8)) * 40 < 140737488355328 then again (t4.1, t4.2.1, t4.2.2.1, (Go.IntKind.wrap .i64 (t4.2.2.2.1 + (1 : Int))), t4.2.2.2.2.1, t4.2.2.2.2.2.1, t4.2.2.2.2.2.2.1, t4.2.2.2.2.2.2.2.1, t4.2.2.2.2.2.2.2.2.1, (t4.2.2.2.2.2.2.2.2.2 ++ ([((y6 t4.2.1 t4.2.2.2.1).1, (y6 t4.2.1 t4.2.2.2.1).2.1, (y6 t4.2.1 t4.2.2.2.1).2.2.1, (y6 t4.2.1 t4.2.2.2.1).2.2.2.1, (y6 t4.2.1 t4.2.2.2.1).2.2.2.2)] : List y8))) else none else again (t4.1, t4.2.1, t4.2.2.1, (Go.IntKind.wrap .i64 (t4.2.2.2.1 + (1 : Int))), t4.2.2.2.2.1, t4.2.2.2.2.2.1, t4.2.2.2.2.2.2.1, t4.2.2.2.2.2.2.2.1, t4.2.2.2.2.2.2.2.2.1, t4.2.2.2.2.2.2.2.2.2) else none else none else k0 (t4.1, t4.2.2.2.2)
def vy k0 := zL (@YJ R k0) Y4
def jb (x : yy2) : Option (List y8) :=
 vy (fun x5 => bif (!x5.1) then if (List.length x5.2.2.2.2.2.2 + List.length ([(x5.2.1, x5.2.2.1, x5.2.2.2.1, x5.2.2.2.2.1, x5.2.2.2.2.2.1)] : List y8)) * 40 < 140737488355328 then some (x5.2.2.2.2.2.2 ++ ([(x5.2.1, x5.2.2.1, x5.2.2.2.1, x5.2.2.2.2.1, x5.2.2.2.2.2.1)] : List y8)) else none else some x5.2.2.2.2.2.2) (false, x.1, (List.length x.1 : Int), (0 : Int), x.2.1, x.2.2.1, x.2.2.2.1, x.2.2.2.2.1, x.2.2.2.2.2, ([] : List y8))
def ykJ : List QF := [yAn, yBW]
def y77 (t : ymH) : St := ⟨dd 3 (.box 3 0 :: .dead :: .own 10000000 :: vB t.1 :: dd 3 (qs t.2.1 :: vI t.2.2.1 :: vI t.2.2.2.1 :: dd 31 [])), [(3, .box [vI t.2.2.2.2.1, vI t.2.2.2.2.2.1, vI t.2.2.2.2.2.2.1, vI t.2.2.2.2.2.2.2.1, vI t.2.2.2.2.2.2.2.2.1]), (10000000, .root true 63 yi t.2.2.2.2.2.2.2.2.2)]⟩
def yiD : Gk WC := fun κ => YJ (fun t => κ (some 0) ⟨dd 3 (.box 3 0 :: .dead :: .own 10000000 :: vB t.1 :: dd 37 []), [(3, .box [vI t.2.1, vI t.2.2.1, vI t.2.2.2.1, vI t.2.2.2.2.1, vI t.2.2.2.2.2.1]), (10000000, .root true 63 yi t.2.2.2.2.2.2)]⟩)
def ykK : Lp := lpC 4 (unG ymI y77) @yiD lpN
theorem yr8 : LF ykJ ykK 125 4 Tryz.f125 0 y77 @yiD fun t => t := fun R κ again t => by kernel_rfl
theorem yr9 : LK ykJ ykK 125 Tryz.f125 0 := lkN (u := (unG ymI y77)) (yt fun t => by kernel_rfl) yr8
theorem yw6 : EV ykJ ykK 125 Tryz.f125 ypj yy3 [(.sl 63 yi)] jb := fun x => by kernel_rfl
def yw7 : QF := ⟨125, jb, okN (n := 1) Tryz.func125 ⟨yr9, trivial⟩ yw6⟩
def Y0 (x : List y8) : Option (List y8) :=
 if (List.length ([] : List y8) + List.length x) * 40 < 140737488355328 then some (([] : List y8) ++ x) else none
theorem yw8 : EV [] lpN 126 Tryz.f126 ypk [(.sl 63 yi)] [(.sl 63 yi)] Y0 := fun x => by kernel_rfl
def yw9 : QF := ⟨126, Y0, okN (n := 0) Tryz.func126 trivial yw8⟩
abbrev WD : Type := ygn
def Z7 (k0 : List y8 → Option R) (again : WD → Option R) (t3 : WD) : Option R :=
 bif (decide (t3.2.2.1 < t3.2.1)) then if (0 : Int) ≤ t3.2.2.1 then if t3.2.2.1 < (List.length t3.1 : Int) then Option.bind (jb (t3.2.2.2, (y6 t3.1 t3.2.2.1).1, (y6 t3.1 t3.2.2.1).2.1, (y6 t3.1 t3.2.2.1).2.2.1, (y6 t3.1 t3.2.2.1).2.2.2.1, (y6 t3.1 t3.2.2.1).2.2.2.2)) fun r2 => again (t3.1, t3.2.1, (Go.IntKind.wrap .i64 (t3.2.2.1 + (1 : Int))), r2) else none else none else k0 t3.2.2.2
def Ve k0 := zL (@Z7 R k0) Y4
def YV (x : ysZ) : Option (List y8) :=
 Option.bind (Y0 x.1) fun r1 => Ve (fun x3 => some x3) (x.2, (List.length x.2 : Int), (0 : Int), r1)
def ykL : List QF := [yw7, yw9]
def y78 (t : ygn) : St := ⟨dd 5 (.own 10000000 :: dd 4 (qs t.1 :: vI t.2.1 :: vI t.2.2.1 :: dd 8 [])), [(10000000, .root true 63 yi t.2.2.2)]⟩
def yiE : Gk WD := fun κ => Z7 (fun t => κ (some 0) ⟨dd 5 (.own 10000000 :: dd 15 []), [(10000000, .root true 63 yi t)]⟩)
def ykM : Lp := lpC 3 (unG ygo y78) @yiE lpN
theorem yra : LF ykL ykM 101 3 Tryz.f101 0 y78 @yiE fun t => t := fun R κ again t => by kernel_rfl
theorem yrb : LK ykL ykM 101 Tryz.f101 0 := lkN (u := (unG ygo y78)) (yt fun t => by kernel_rfl) yra
theorem ywa : EV ykL ykM 101 Tryz.f101 ypl yt0 [(.sl 63 yi)] YV := fun x => by kernel_rfl
def yBX : QF := ⟨101, YV, okN (n := 1) Tryz.func101 ⟨yrb, trivial⟩ ywa⟩
abbrev qz : Type := ygn
def WE (k0 : List y8 → Option R) (again : qz → Option R) (t3 : qz) : Option R :=
 bif (decide (t3.2.2.1 < t3.2.1)) then if (0 : Int) ≤ t3.2.2.1 then if t3.2.2.1 < (List.length t3.1 : Int) then bif ((y6 t3.1 t3.2.2.1).2.2.1 != (0 : Int)) then if (List.length t3.2.2.2 + List.length ([((y6 t3.1 t3.2.2.1).1, (y6 t3.1 t3.2.2.1).2.1, (y6 t3.1 t3.2.2.1).2.2.1, (y6 t3.1 t3.2.2.1).2.2.2.1, (y6 t3.1 t3.2.2.1).2.2.2.2)] : List y8)) * 40 < 140737488355328 then again (t3.1, t3.2.1, (Go.IntKind.wrap .i64 (t3.2.2.1 + (1 : Int))), (t3.2.2.2 ++ ([((y6 t3.1 t3.2.2.1).1, (y6 t3.1 t3.2.2.1).2.1, (y6 t3.1 t3.2.2.1).2.2.1, (y6 t3.1 t3.2.2.1).2.2.2.1, (y6 t3.1 t3.2.2.1).2.2.2.2)] : List y8))) else none else again (t3.1, t3.2.1, (Go.IntKind.wrap .i64 (t3.2.2.1 + (1 : Int))), t3.2.2.2) else none else none else k0 t3.2.2.2
def y1u k0 := zL (@WE R k0) Y4
def Jd (x : List y8) : Option (List y8) :=
 y1u (fun x1 => some x1) (x, (List.length x : Int), (0 : Int), ([] : List y8))
def ykN : List QF := []
def y79 (t : ygn) : St := ⟨dd 3 (.own 10000000 :: dd 3 (qs t.1 :: vI t.2.1 :: vI t.2.2.1 :: dd 12 [])), [(10000000, .root true 63 yi t.2.2.2)]⟩
def yiF : Gk qz := fun κ => WE (fun t => κ (some 0) ⟨dd 3 (.own 10000000 :: dd 18 []), [(10000000, .root true 63 yi t)]⟩)
def ykO : Lp := lpC 3 (unG ygo y79) @yiF lpN
theorem yrc : LF ykN ykO 102 3 Tryz.f102 0 y79 @yiF fun t => t := fun R κ again t => by kernel_rfl
theorem yrd : LK ykN ykO 102 Tryz.f102 0 := lkN (u := (unG ygo y79)) (yt fun t => by kernel_rfl) yrc
theorem ywb : EV ykN ykO 102 Tryz.f102 ypm [(.sl 63 yi)] [(.sl 63 yi)] Jd := fun x => by kernel_rfl
def yAo : QF := ⟨102, Jd, okN (n := 1) Tryz.func102 ⟨yrd, trivial⟩ ywb⟩
abbrev kH : Type := ymJ
def ZL (k0 : List y8 → Option R) (again : kH → Option R) (t3 : kH) : Option R :=
 bif (decide (t3.2.2.1 < t3.2.1)) then if (0 : Int) ≤ t3.2.2.1 then if t3.2.2.1 < (List.length t3.1 : Int) then Option.bind (YV (t3.2.2.2, (yq t3.1 t3.2.2.1))) fun r1 => again (t3.1, t3.2.1, (Go.IntKind.wrap .i64 (t3.2.2.1 + (1 : Int))), r1) else none else none else k0 t3.2.2.2
def VS k0 := zL (@ZL R k0) Y4
def yN (x : List y9) : Option (List y8) :=
 VS (fun x2 => Option.bind (Jd x2) fun r3 => some r3) (x, (List.length x : Int), (0 : Int), ([] : List y8))
def ywc : List QF := [yBX, yAo]
def yak (t : ymJ) : St := ⟨dd 3 (.own 10000000 :: dd 4 (Yr t.1 :: vI t.2.1 :: vI t.2.2.1 :: dd 9 [])), [(10000000, .root true 63 yi t.2.2.2)]⟩
def yre : Gk kH := fun κ => ZL (fun t => κ (some 0) ⟨dd 3 (.own 10000000 :: dd 16 []), [(10000000, .root true 63 yi t)]⟩)
def ywd : Lp := lpC 3 (unG ymK yak) @yre lpN
theorem ywe : LF ywc ywd 63 3 Tryz.f63 0 yak @yre fun t => t := fun R κ again t => by kernel_rfl
theorem ywf : LK ywc ywd 63 Tryz.f63 0 := lkN (u := (unG ymK yak)) (yt fun t => by kernel_rfl) ywe
theorem yBY : EV ywc ywd 63 Tryz.f63 yzj [(.sl 58 yp)] [(.sl 63 yi)] yN := fun x => by kernel_rfl
def q63 : QF := ⟨63, yN, okN (n := 1) Tryz.func63 ⟨ywf, trivial⟩ yBY⟩
def W3 (x : ygk) : Option Bool :=
 Option.bind (yF (x.1, (0 : Int), (15 : Int))) fun r1 => Option.bind (bif (!r1) then some true else Option.bind (yF (x.2.1, (1 : Int), (60 : Int))) fun r3 => some (!r3)) fun u2 => Option.bind (bif u2 then some true else Option.bind (yF (x.2.2.1, (0 : Int), (2 : Int))) fun r5 => some (!r5)) fun u4 => bif u4 then some false else bif (x.2.2.1 != (1 : Int)) then Option.bind (bif (x.2.2.2.1 == (0 : Int)) then some (x.2.2.2.2 == (0 : Int)) else some false) fun u6 => some u6 else Option.bind (yF (x.2.2.2.1, (0 : Int), (23 : Int))) fun r7 => Option.bind (bif r7 then Option.bind (yF (x.2.2.2.2, (0 : Int), (999 : Int))) fun r9 => some r9 else some false) fun u8 => some u8
theorem yBZ : EV [q47] lpN 87 Tryz.f87 yzk qt [.bool] W3 := fun x => by kernel_rfl
def q87 : QF := ⟨87, W3, okN (n := 0) Tryz.func87 trivial yBZ⟩
abbrev Vo : Type := ymL
def wu (k0 : yxW → Option R) (k1 : List y8 → Option R) (again : Vo → Option R) (t2 : Vo) : Option R :=
 bif (decide (t2.2.2.2 < t2.2.2.1)) then if (0 : Int) ≤ t2.2.2.2 then if t2.2.2.2 < (List.length t2.2.1 : Int) then Option.bind (W3 ((y6 t2.2.1 t2.2.2.2).1, (y6 t2.2.1 t2.2.2.2).2.1, (y6 t2.2.1 t2.2.2.2).2.2.1, (y6 t2.2.1 t2.2.2.2).2.2.2.1, (y6 t2.2.1 t2.2.2.2).2.2.2.2)) fun r1 => Option.bind (bif (!r1) then some true else Option.bind (bif (decide (t2.2.2.2 > (0 : Int))) then if (0 : Int) ≤ (Go.IntKind.wrap .i64 (t2.2.2.2 - (1 : Int))) then if (Go.IntKind.wrap .i64 (t2.2.2.2 - (1 : Int))) < (List.length t2.1 : Int) then Option.bind (jA ((y6 t2.1 (Go.IntKind.wrap .i64 (t2.2.2.2 - (1 : Int)))).1, (y6 t2.1 (Go.IntKind.wrap .i64 (t2.2.2.2 - (1 : Int)))).2.1, (y6 t2.1 (Go.IntKind.wrap .i64 (t2.2.2.2 - (1 : Int)))).2.2.1, (y6 t2.1 (Go.IntKind.wrap .i64 (t2.2.2.2 - (1 : Int)))).2.2.2.1, (y6 t2.1 (Go.IntKind.wrap .i64 (t2.2.2.2 - (1 : Int)))).2.2.2.2, (y6 t2.2.1 t2.2.2.2).1, (y6 t2.2.1 t2.2.2.2).2.1, (y6 t2.2.1 t2.2.2.2).2.2.1, (y6 t2.2.1 t2.2.2.2).2.2.2.1, (y6 t2.2.1 t2.2.2.2).2.2.2.2)) fun r4 => some (!r4) else none else none else some false) fun u3 => some u3) fun u2 => bif u2 then k0 (t2.1, false) else again (t2.1, t2.2.1, t2.2.2.1, (Go.IntKind.wrap .i64 (t2.2.2.2 + (1 : Int)))) else none else none else k1 t2.1
def y0F k0 k1 := zL (@wu R k0 k1) Y4
def Kf (x : List y8) : Option Bool :=
 y0F (fun x5 => some x5.2) (fun x6 => some (decide ((List.length x6 : Int) ≤ (60 : Int)))) (x, x, (List.length x : Int), (0 : Int))
def ykP : List QF := [q87, yAn]
def y7a (t : ymL) : St := ⟨qs t.1 :: dd 4 (qs t.2.1 :: vI t.2.2.1 :: vI t.2.2.2 :: dd 25 []), []⟩
def yiG : Gk Vo := fun κ => wu (fun t => κ none ⟨qs t.1 :: .dead :: vB t.2 :: dd 30 [], []⟩) (fun t => κ (some 0) ⟨qs t :: dd 32 [], []⟩)
def ykQ : Lp := lpC 2 (unG ymM y7a) @yiG lpN
theorem yrf : LF ykP ykQ 127 2 Tryz.f127 0 y7a @yiG fun t => t := fun R κ again t => by kernel_rfl
theorem yrg : LK ykP ykQ 127 Tryz.f127 0 := lkN (u := (unG ymM y7a)) (yt fun t => by kernel_rfl) yrf
theorem ywg : EV ykP ykQ 127 Tryz.f127 ypn [(.sl 63 yi)] [.bool] Kf := fun x => by kernel_rfl
def yC0 : QF := ⟨127, Kf, okN (n := 1) Tryz.func127 ⟨yrg, trivial⟩ ywg⟩
abbrev vz : Type := ymN
def Je (k0 : ytz → Option R) (k1 : yhS → Option R) (again : vz → Option R) (t3 : vz) : Option R :=
 bif (decide (t3.2.2.2.1 < t3.2.2.1)) then if (0 : Int) ≤ t3.2.2.2.1 then if t3.2.2.2.1 < (List.length t3.2.1 : Int) then Option.bind (Kf (yq t3.2.1 t3.2.2.2.1)) fun r1 => Option.bind (bif (!r1) then some true else some ((List.length (yq t3.2.1 t3.2.2.2.1) : Int) == (0 : Int))) fun u2 => bif u2 then k0 (false, t3.1, t3.2.2.2.2) else again ((Go.IntKind.wrap .i64 (t3.1 + (List.length (yq t3.2.1 t3.2.2.2.1) : Int))), t3.2.1, t3.2.2.1, (Go.IntKind.wrap .i64 (t3.2.2.2.1 + (1 : Int))), t3.2.2.2.2) else none else none else k1 (t3.1, t3.2.2.2.2)
def Qy k0 k1 := zL (@Je R k0 k1) Y4
def zE (x : List y9) : Option Bool :=
 Qy (fun x3 => some x3.1) (fun x4 => Option.bind (bif (decide ((List.length x4.2 : Int) ≤ (3 : Int))) then some (decide (x4.1 ≤ (8 : Int))) else some false) fun u5 => some u5) ((0 : Int), x, (List.length x : Int), (0 : Int), x)
def ywh : List QF := [yC0]
def yal (t : ymN) : St := ⟨.dead :: .box 1 0 :: .dead :: vI t.1 :: dd 3 (Yr t.2.1 :: vI t.2.2.1 :: vI t.2.2.2.1 :: dd 24 []), [(1, .box [Yr t.2.2.2.2])]⟩
def yrh : Gk vz := fun κ => Je (fun t => κ none ⟨.dead :: .box 1 0 :: vB t.1 :: vI t.2.1 :: dd 30 [], [(1, .box [Yr t.2.2])]⟩) (fun t => κ (some 0) ⟨.dead :: .box 1 0 :: .dead :: vI t.1 :: dd 30 [], [(1, .box [Yr t.2])]⟩)
def ywi : Lp := lpC 3 (unG ymO yal) @yrh lpN
theorem ywj : LF ywh ywi 95 3 Tryz.f95 0 yal @yrh fun t => t := fun R κ again t => by kernel_rfl
theorem ywk : LK ywh ywi 95 Tryz.f95 0 := lkN (u := (unG ymO yal)) (yt fun t => by kernel_rfl) ywj
theorem yC1 : EV ywh ywi 95 Tryz.f95 yzl [(.sl 58 yp)] [.bool] zE := fun x => by kernel_rfl
def q95 : QF := ⟨95, zE, okN (n := 1) Tryz.func95 ⟨ywk, trivial⟩ yC1⟩
def Z8 (x : ylS) : Option Int :=
 some (Go.IntKind.wrap .i64 ((Go.IntKind.wrap .i64 ((64 : Int) * x.1)) + x.2))
theorem yC2 : EV [] lpN 92 Tryz.f92 yzm ymk [(.int .i64)] Z8 := fun x => by kernel_rfl
def q92 : QF := ⟨92, Z8, okN (n := 0) Tryz.func92 trivial yC2⟩
abbrev kI : Type := ymP
def ZM (k0 : ytA → Option R) (k1 : yjk → Option R) (again : kI → Option R) (t5 : kI) : Option R :=
 bif (decide (t5.2.2.2.2.2.2.1 < t5.2.2.2.2.2.1)) then if (0 : Int) ≤ t5.2.2.2.2.2.2.1 then if t5.2.2.2.2.2.2.1 < (List.length t5.2.2.2.2.1 : Int) then Option.bind (Z8 ((y6 t5.2.2.2.2.1 t5.2.2.2.2.2.2.1).1, (y6 t5.2.2.2.2.1 t5.2.2.2.2.2.2.1).2.1)) fun r1 => if (0 : Int) ≤ t5.1 then if t5.1 < (List.length t5.2.2.2.2.2.2.2.1 : Int) then Option.bind (bif (decide (r1 < (zu t5.2.2.2.2.2.2.2.1 t5.1))) then some true else Option.bind (bif (decide ((Go.IntKind.wrap .i64 (t5.1 + (1 : Int))) < (List.length t5.2.2.2.2.2.2.2.1 : Int))) then if (0 : Int) ≤ (Go.IntKind.wrap .i64 (t5.1 + (1 : Int))) then if (Go.IntKind.wrap .i64 (t5.1 + (1 : Int))) < (List.length t5.2.2.2.2.2.2.2.1 : Int) then some (decide (r1 ≥ (zu t5.2.2.2.2.2.2.2.1 (Go.IntKind.wrap .i64 (t5.1 + (1 : Int)))))) else none else none else some false) fun u3 => some u3) fun u2 => bif u2 then k0 (t5.1, false, t5.2.1, t5.2.2.1, t5.2.2.2.1, t5.2.2.2.2.2.2.2) else again (t5.1, t5.2.1, t5.2.2.1, t5.2.2.2.1, t5.2.2.2.2.1, t5.2.2.2.2.2.1, (Go.IntKind.wrap .i64 (t5.2.2.2.2.2.2.1 + (1 : Int))), t5.2.2.2.2.2.2.2.1, t5.2.2.2.2.2.2.2.2) else none else none else none else none else k1 (t5.1, t5.2.1, t5.2.2.1, t5.2.2.2.1, t5.2.2.2.2.2.2.2)
def kJ k0 k1 := zL (@ZM R k0 k1) Y4
abbrev kK : Type := yjk
def ZN (k0 : Bool → Option R) (k1 : Unit → Option R) (again : kK → Option R) (t2 : kK) : Option R :=
 bif (decide (t2.2.2.2.1 < t2.2.2.1)) then if (0 : Int) ≤ t2.2.2.2.1 then if t2.2.2.2.1 < (List.length t2.2.1 : Int) then kJ (fun x4 => k0 x4.2.1) (fun x5 => again (x5.1, x5.2.1, x5.2.2.1, (Go.IntKind.wrap .i64 (x5.2.2.2.1 + (1 : Int))), x5.2.2.2.2.1, x5.2.2.2.2.2)) (t2.1, t2.2.1, t2.2.2.1, t2.2.2.2.1, (yq t2.2.1 t2.2.2.2.1), (List.length (yq t2.2.1 t2.2.2.2.1) : Int), (0 : Int), t2.2.2.2.2.1, t2.2.2.2.2.2) else none else none else k1 ()
def VT k0 k1 := zL (@ZN R k0 k1) Y4
def Jf (x : ylT) : Option Bool :=
 if (0 : Int) ≤ x.2.2 then if x.2.2 < (List.length x.2.1 : Int) then VT (fun x6 => some x6) (fun x7 => some true) (x.2.2, (yf x.2.1 x.2.2), (List.length (yf x.2.1 x.2.2) : Int), (0 : Int), x.1, x.2.1) else none else none
def yri : List QF := [q92]
def yam (t : ymP) : St := ⟨.dead :: vI t.1 :: .box 2 0 :: dd 12 (Yr t.2.1 :: vI t.2.2.1 :: vI t.2.2.2.1 :: dd 3 (qs t.2.2.2.2.1 :: vI t.2.2.2.2.2.1 :: vI t.2.2.2.2.2.2.1 :: dd 35 [])), [(2, .box [yT t.2.2.2.2.2.2.2.1, yx t.2.2.2.2.2.2.2.2])]⟩
def yrj : Gk kI := fun κ => ZM (fun t => κ none ⟨.dead :: vI t.1 :: .box 2 0 :: .dead :: vB t.2.1 :: dd 10 (Yr t.2.2.1 :: vI t.2.2.2.1 :: vI t.2.2.2.2.1 :: dd 41 []), [(2, .box [yT t.2.2.2.2.2.1, yx t.2.2.2.2.2.2])]⟩) (fun t => κ (some 2) ⟨.dead :: vI t.1 :: .box 2 0 :: dd 12 (Yr t.2.1 :: vI t.2.2.1 :: vI t.2.2.2.1 :: dd 41 []), [(2, .box [yT t.2.2.2.2.1, yx t.2.2.2.2.2])]⟩)
def yan (t : yjk) : St := ⟨.dead :: vI t.1 :: .box 2 0 :: dd 12 (Yr t.2.1 :: vI t.2.2.1 :: vI t.2.2.2.1 :: dd 41 []), [(2, .box [yT t.2.2.2.2.1, yx t.2.2.2.2.2])]⟩
def yrk : Gk kK := fun κ => ZN (fun t => κ none ⟨dd 4 (vB t :: dd 54 []), []⟩) (fun t => κ (some 0) ⟨dd 59 [], []⟩)
def yrl : Lp := lpC 2 (unG ymR yan) @yrk (lpC 5 (unG ymQ yam) @yrj lpN)
theorem ywl : LF yri yrl 96 5 Tryz.f96 1 yam @yrj fun t => t := fun R κ again t => by kernel_rfl
theorem ywm : LK yri yrl 96 Tryz.f96 1 := lkN (u := (unG ymQ yam)) (yt fun t => by kernel_rfl) ywl
theorem ywn : LF yri yrl 96 2 Tryz.f96 0 yan @yrk fun t => t := fun R κ again t => by kernel_rfl
theorem ywo : LK yri yrl 96 Tryz.f96 0 := lkN (u := (unG ymR yan)) (yt fun t => by kernel_rfl) ywn
theorem yC3 : EV yri yrl 96 Tryz.f96 yzn ylU [.bool] Jf := fun x => by kernel_rfl
def q96 : QF := ⟨96, Jf, okN (n := 2) Tryz.func96 ⟨ywo, ywm, trivial⟩ yC3⟩
abbrev vA : Type := ymS
def Jg (k0 : ymU → Option R) (k1 : Int → Option R) (again : vA → Option R) (t5 : vA) : Option R :=
 bif (decide (t5.2.2.2.1 < t5.2.2.1)) then if (0 : Int) ≤ t5.2.2.2.1 then if t5.2.2.2.1 < (List.length t5.2.1 : Int) then Option.bind (bif (decide (t5.2.2.2.1 > (0 : Int))) then if (0 : Int) ≤ (Go.IntKind.wrap .i64 (t5.2.2.2.1 - (1 : Int))) then if (Go.IntKind.wrap .i64 (t5.2.2.2.1 - (1 : Int))) < (List.length t5.2.2.2.2.1 : Int) then if (0 : Int) ≤ t5.2.2.2.1 then if t5.2.2.2.1 < (List.length t5.2.2.2.2.1 : Int) then some (decide ((zu t5.2.2.2.2.1 (Go.IntKind.wrap .i64 (t5.2.2.2.1 - (1 : Int)))) ≥ (zu t5.2.2.2.2.1 t5.2.2.2.1))) else none else none else none else none else some false) fun u4 => Option.bind (bif u4 then some true else Option.bind (zE (yf t5.2.1 t5.2.2.2.1)) fun r6 => some (!r6)) fun u5 => Option.bind (bif u5 then some true else Option.bind (Jf (t5.2.2.2.2.1, t5.2.2.2.2.2, t5.2.2.2.1)) fun r8 => some (!r8)) fun u7 => bif u7 then k0 (false, t5.1) else Option.bind (yN (yf t5.2.1 t5.2.2.2.1)) fun r9 => Option.bind (bif (decide (t5.2.2.2.1 > (0 : Int))) then some ((List.length r9 : Int) == (0 : Int)) else some false) fun u10 => bif u10 then k0 (false, t5.1) else again ((Go.IntKind.wrap .i64 (t5.1 + (List.length r9 : Int))), t5.2.1, t5.2.2.1, (Go.IntKind.wrap .i64 (t5.2.2.2.1 + (1 : Int))), t5.2.2.2.2.1, t5.2.2.2.2.2) else none else none else k1 t5.1
def Qz k0 k1 := zL (@Jg R k0 k1) Y4
def Yh (x : Qz8) : Option Bool :=
 Option.bind (yF ((List.length x.2 : Int), (1 : Int), (20 : Int))) fun r1 => Option.bind (bif (!r1) then some true else some ((List.length x.1 : Int) != (List.length x.2 : Int))) fun u2 => Option.bind (bif u2 then some true else if (0 : Int) ≤ (0 : Int) then if (0 : Int) < (List.length x.1 : Int) then some ((zu x.1 (0 : Int)) != (0 : Int)) else none else none) fun u3 => bif u3 then some false else Qz (fun x11 => some x11.1) (fun x12 => some (decide (x12 ≤ (60 : Int)))) ((0 : Int), x.2, (List.length x.2 : Int), (0 : Int), x.1, x.2)
def ywp : List QF := [q47, q63, q95, q96]
def yao (t : ymS) : St := ⟨.dead :: .box 1 0 :: .dead :: vI t.1 :: dd 25 (yx t.2.1 :: vI t.2.2.1 :: vI t.2.2.2.1 :: dd 46 []), [(1, .box [yT t.2.2.2.2.1, yx t.2.2.2.2.2])]⟩
def yrm : Gk vA := fun κ => Jg (fun t => κ none ⟨dd 2 (vB t.1 :: vI t.2 :: dd 74 []), []⟩) (fun t => κ (some 0) ⟨dd 3 (vI t :: dd 74 []), []⟩)
def ywq : Lp := lpC 5 (unG ymT yao) @yrm lpN
theorem ywr : LF ywp ywq 53 5 Tryz.f53 0 yao @yrm fun t => t := fun R κ again t => by kernel_rfl
theorem yws : LK ywp ywq 53 Tryz.f53 0 := lkN (u := (unG ymT yao)) (yt fun t => by kernel_rfl) ywr
theorem yC4 : EV ywp ywq 53 Tryz.f53 yzo qz8 [.bool] Yh := fun x => by kernel_rfl
def q53 : QF := ⟨53, Yh, okN (n := 1) Tryz.func53 ⟨yws, trivial⟩ yC4⟩
def K2 (x : ysX) : Option ymU :=
 some ((x.1 == x.2.2), x.2.2)
theorem ywt : EV [] lpN 129 Tryz.f129 ypo ysY ytB K2 := fun x => by kernel_rfl
def yC5 : QF := ⟨129, K2, okN (n := 0) Tryz.func129 trivial ywt⟩
abbrev zI : Type := ymV
def yW (k0 : ylS → Option R) (k1 : Int → Option R) (again : zI → Option R) (t2 : zI) : Option R :=
 bif (decide (t2.2.2.1 < t2.2.1)) then if (0 : Int) ≤ t2.2.2.1 then if t2.2.2.1 < (List.length t2.1 : Int) then Option.bind (K2 ((yO t2.1 t2.2.2.1).1, (yO t2.1 t2.2.2.1).2, t2.2.2.2)) fun r1 => bif r1.1 then k0 (t2.2.2.1, r1.2) else again (t2.1, t2.2.1, (Go.IntKind.wrap .i64 (t2.2.2.1 + (1 : Int))), r1.2) else none else none else k1 t2.2.2.2
def Yv k0 k1 := zL (@yW R k0 k1) Y4
def z3 (x : yfz) : Option ylS :=
 Yv (fun x2 => some x2) (fun x3 => some ((-1 : Int), x3)) (x.1, (List.length x.1 : Int), (0 : Int), x.2)
def y7b : List QF := [yC5]
def y0U (t : ymV) : St := ⟨zh t.1 :: .clo 129 901 :: dd 5 (vI t.2.1 :: vI t.2.2.1 :: dd 10 []), [(901, .box [vI t.2.2.2])]⟩
def y8H : Gk zI := fun κ => yW (fun t => κ none ⟨.dead :: .clo 129 901 :: dd 2 (vI t.1 :: dd 14 []), [(901, .box [vI t.2])]⟩) (fun t => κ (some 0) ⟨.dead :: .clo 129 901 :: dd 17 [], [(901, .box [vI t])]⟩)
def y7c : Lp := lpC 2 (unG ymW y0U) @y8H lpN
theorem yeR : LF y7b y7c 100000 2 Tryz.f128 0 y0U @y8H fun t => t := fun R κ again t => by kernel_rfl
theorem yeS : LK y7b y7c 100000 Tryz.f128 0 := lkN (u := (unG ymW y0U)) (yt fun t => by kernel_rfl) yeR
theorem ygA : EV y7b y7c 100000 Tryz.f128 ybD yfA ymk z3 := fun x => by kernel_rfl
def ykR : QF := ⟨100000, z3, okN (n := 1) Tryz.func128 ⟨yeS, trivial⟩ ygA⟩
def Z9 (x : yfz) : Option Int :=
 Option.bind (z3 x) fun r1 => some r1.1
theorem yC6 : EV [ykR] lpN 97 Tryz.f97 yzp yfA [(.int .i64)] Z9 := fun x => by kernel_rfl
def q97 : QF := ⟨97, Z9, okN (n := 0) Tryz.func97 trivial yC6⟩
abbrev vC : Type := ymX
def Jh (k0 : ysu → Option R) (k1 : List ya → Option R) (again : vC → Option R) (t2 : vC) : Option R :=
 bif (decide (t2.2.2.2 < t2.2.2.1)) then if (0 : Int) ≤ t2.2.2.2 then if t2.2.2.2 < (List.length t2.2.1 : Int) then Option.bind (yF ((yO t2.2.1 t2.2.2.2).1, (1 : Int), (60 : Int))) fun r1 => Option.bind (bif (!r1) then some true else Option.bind (bif (decide (t2.2.2.2 > (0 : Int))) then if (0 : Int) ≤ (Go.IntKind.wrap .i64 (t2.2.2.2 - (1 : Int))) then if (Go.IntKind.wrap .i64 (t2.2.2.2 - (1 : Int))) < (List.length t2.1 : Int) then some (decide ((yO t2.1 (Go.IntKind.wrap .i64 (t2.2.2.2 - (1 : Int)))).1 ≥ (yO t2.2.1 t2.2.2.2).1)) else none else none else some false) fun u3 => some u3) fun u2 => Option.bind (bif u2 then some true else Option.bind (bif ((yO t2.2.1 t2.2.2.2).2 != (0 : Int)) then if (0 : Int) ≤ (0 : Int) then if (0 : Int) ≤ t2.2.2.2 then if t2.2.2.2 ≤ (List.length t2.1 : Int) then Option.bind (Z9 ((List.drop (Int.toNat (0 : Int)) (List.take (Int.toNat t2.2.2.2) t2.1)), (yO t2.2.1 t2.2.2.2).2)) fun r6 => some (decide (r6 < (0 : Int))) else none else none else none else some false) fun u5 => some u5) fun u4 => bif u4 then k0 (t2.1, false) else again (t2.1, t2.2.1, t2.2.2.1, (Go.IntKind.wrap .i64 (t2.2.2.2 + (1 : Int)))) else none else none else k1 t2.1
def QA k0 k1 := zL (@Jh R k0 k1) Y4
def WF (x : List ya) : Option Bool :=
 QA (fun x7 => some x7.2) (fun x8 => some (decide ((List.length x8 : Int) ≤ (16 : Int)))) (x, x, (List.length x : Int), (0 : Int))
def ywu : List QF := [q47, q97]
def yap (t : ymX) : St := ⟨zh t.1 :: dd 4 (zh t.2.1 :: vI t.2.2.1 :: vI t.2.2.2 :: dd 41 []), []⟩
def yrn : Gk vC := fun κ => Jh (fun t => κ none ⟨zh t.1 :: .dead :: vB t.2 :: dd 46 [], []⟩) (fun t => κ (some 0) ⟨zh t :: dd 48 [], []⟩)
def ywv : Lp := lpC 2 (unG ymY yap) @yrn lpN
theorem yww : LF ywu ywv 54 2 Tryz.f54 0 yap @yrn fun t => t := fun R κ again t => by kernel_rfl
theorem ywx : LK ywu ywv 54 Tryz.f54 0 := lkN (u := (unG ymY yap)) (yt fun t => by kernel_rfl) yww
theorem yC7 : EV ywu ywv 54 Tryz.f54 yzq [(.sl 67 yk)] [.bool] WF := fun x => by kernel_rfl
def q54 : QF := ⟨54, WF, okN (n := 1) Tryz.func54 ⟨ywx, trivial⟩ yC7⟩
def JN (x : Int) : Option Bool :=
 Option.bind (yF (x, (0 : Int), (65535 : Int))) fun r1 => some r1
theorem yC8 : EV [q47] lpN 38 Tryz.f38 yzr [(.int .i64)] [.bool] JN := fun x => by kernel_rfl
def q38 : QF := ⟨38, JN, okN (n := 0) Tryz.func38 trivial yC8⟩
abbrev Ky : Type := ymZ
def jq (k0 : yyc → Option R) (k1 : List y7 → Option R) (again : Ky → Option R) (t2 : Ky) : Option R :=
 bif (decide (t2.2.2.2 < t2.2.2.1)) then if (0 : Int) ≤ t2.2.2.2 then if t2.2.2.2 < (List.length t2.2.1 : Int) then Option.bind (yF ((ym t2.2.1 t2.2.2.2).1, (0 : Int), (999 : Int))) fun r1 => Option.bind (bif (!r1) then some true else Option.bind (JN ((ym t2.2.1 t2.2.2.2).2.2)) fun r3 => some (!r3)) fun u2 => Option.bind (bif u2 then some true else Option.bind (bif ((ym t2.2.1 t2.2.2.2).2.2 != (0 : Int)) then some (!((ym t2.2.1 t2.2.2.2).2.1)) else some false) fun u5 => some u5) fun u4 => bif u4 then k0 (t2.1, false) else again (t2.1, t2.2.1, t2.2.2.1, (Go.IntKind.wrap .i64 (t2.2.2.2 + (1 : Int)))) else none else none else k1 t2.1
def qV k0 k1 := zL (@jq R k0 k1) Y4
def Zn (x : List y7) : Option Bool :=
 qV (fun x6 => some x6.2) (fun x7 => some ((List.length x7 : Int) == (24 : Int))) (x, x, (List.length x : Int), (0 : Int))
def ywy : List QF := [q38, q47]
def yaq (t : ymZ) : St := ⟨yL t.1 :: dd 4 (yL t.2.1 :: vI t.2.2.1 :: vI t.2.2.2 :: dd 27 []), []⟩
def yro : Gk Ky := fun κ => jq (fun t => κ none ⟨yL t.1 :: .dead :: vB t.2 :: dd 32 [], []⟩) (fun t => κ (some 0) ⟨yL t :: dd 34 [], []⟩)
def ywz : Lp := lpC 2 (unG yn0 yaq) @yro lpN
theorem ywA : LF ywy ywz 55 2 Tryz.f55 0 yaq @yro fun t => t := fun R κ again t => by kernel_rfl
theorem ywB : LK ywy ywz 55 Tryz.f55 0 := lkN (u := (unG yn0 yaq)) (yt fun t => by kernel_rfl) ywA
theorem yC9 : EV ywy ywz 55 Tryz.f55 yzs [(.sl 53 yc)] [.bool] Zn := fun x => by kernel_rfl
def q55 : QF := ⟨55, Zn, okN (n := 1) Tryz.func55 ⟨ywB, trivial⟩ yC9⟩
abbrev vD : Type := yn1
def Ji (k0 : List yb → Option R) (again : vD → Option R) (t5 : vD) : Option R :=
 bif (decide (t5.2.2.2.1 < t5.2.2.1)) then if (0 : Int) ≤ t5.2.2.2.1 then if t5.2.2.2.1 < (List.length t5.2.1 : Int) then bif ((yO t5.2.1 t5.2.2.2.1).2 == t5.1) then if (List.length t5.2.2.2.2 + List.length ([(yO t5.2.1 t5.2.2.2.1).1] : List yb)) * 8 < 140737488355328 then again (t5.1, t5.2.1, t5.2.2.1, (Go.IntKind.wrap .i64 (t5.2.2.2.1 + (1 : Int))), (t5.2.2.2.2 ++ ([(yO t5.2.1 t5.2.2.2.1).1] : List yb))) else none else again (t5.1, t5.2.1, t5.2.2.1, (Go.IntKind.wrap .i64 (t5.2.2.2.1 + (1 : Int))), t5.2.2.2.2) else none else none else k0 t5.2.2.2.2
def QB k0 := zL (@Ji R k0) Y4
def WG (x : yfz) : Option (List yb) :=
 bif (x.2 == (0 : Int)) then some ([] : List yb) else QB (fun x1 => some x1) (x.2, x.1, (List.length x.1 : Int), (0 : Int), ([] : List yb))
def ywC : List QF := []
def yar (t : yn1) : St := ⟨.dead :: vI t.1 :: dd 3 (.own 10000000 :: dd 6 (zh t.2.1 :: vI t.2.2.1 :: vI t.2.2.2.1 :: dd 14 [])), [(10000000, .root true 3 yd t.2.2.2.2)]⟩
def yrp : Gk vD := fun κ => Ji (fun t => κ (some 0) ⟨dd 5 (.own 10000000 :: dd 23 []), [(10000000, .root true 3 yd t)]⟩)
def ywD : Lp := lpC 5 (unG yn2 yar) @yrp lpN
theorem ywE : LF ywC ywD 28 5 Tryz.f28 0 yar @yrp fun t => t := fun R κ again t => by kernel_rfl
theorem ywF : LK ywC ywD 28 Tryz.f28 0 := lkN (u := (unG yn2 yar)) (yt fun t => by kernel_rfl) ywE
theorem yCa : EV ywC ywD 28 Tryz.f28 yzt yfA [(.sl 3 yd)] WG := fun x => by kernel_rfl
def q28 : QF := ⟨28, WG, okN (n := 1) Tryz.func28 ⟨ywF, trivial⟩ yCa⟩
abbrev vE : Type := ysl
def vF (k0 : yxU → Option R) (k1 : ByteArray → Option R) (again : vE → Option R) (t2 : vE) : Option R :=
 bif (decide (t2.2 < ((ByteArray.size t2.1 : Nat) : Int))) then if (0 : Int) ≤ t2.2 then if h1 : Int.toNat t2.2 < ByteArray.size t2.1 then Option.bind (yF ((Go.IntKind.wrap .i64 ((UInt8.toNat (ByteArray.get t2.1 (Int.toNat t2.2) h1) : Nat) : Int)), (97 : Int), (122 : Int))) fun r2 => Option.bind (bif (!r2) then if (0 : Int) ≤ t2.2 then if h4 : Int.toNat t2.2 < ByteArray.size t2.1 then Option.bind (yF ((Go.IntKind.wrap .i64 ((UInt8.toNat (ByteArray.get t2.1 (Int.toNat t2.2) h4) : Nat) : Int)), (48 : Int), (57 : Int))) fun r5 => some (!r5) else none else none else some false) fun u3 => bif u3 then k0 (t2.1, false) else again (t2.1, (Go.IntKind.wrap .i64 (t2.2 + (1 : Int)))) else none else none else k1 t2.1
def QC k0 k1 := zL (@vF R k0 k1) Y4
def WH (x : ByteArray) : Option Bool :=
 QC (fun x6 => some x6.2) (fun x7 => Option.bind (yF (((ByteArray.size x7 : Nat) : Int), (1 : Int), (6 : Int))) fun r8 => some r8) (x, (0 : Int))
def ywG : List QF := [q47]
def yas (t : ysl) : St := ⟨vS t.1 :: dd 2 (vI t.2 :: dd 23 []), []⟩
def yrq : Gk vE := fun κ => vF (fun t => κ none ⟨vS t.1 :: .dead :: vB t.2 :: dd 24 [], []⟩) (fun t => κ (some 0) ⟨vS t :: dd 26 [], []⟩)
def ywH : Lp := lpC 2 (unG ysm yas) @yrq lpN
theorem ywI : LF ywG ywH 76 2 Tryz.f76 0 yas @yrq fun t => t := fun R κ again t => by kernel_rfl
theorem ywJ : LK ywG ywH 76 Tryz.f76 0 := lkN (u := (unG ysm yas)) (yt fun t => by kernel_rfl) ywI
theorem yCb : EV ywG ywH 76 Tryz.f76 yzu [.str] [.bool] WH := fun x => by kernel_rfl
def q76 : QF := ⟨76, WH, okN (n := 1) Tryz.func76 ⟨ywJ, trivial⟩ yCb⟩
def WI (x : ytC) : Option yn3 :=
 some ((x.2.1 == x.2.2.2.2.2.1), x.2.2.2.2.1, x.2.2.2.2.2.1, x.2.2.2.2.2.2.1, x.2.2.2.2.2.2.2)
theorem yCc : EV [] lpN 98 Tryz.f98 yzv ytD yn4 WI := fun x => by kernel_rfl
def q98 : QF := ⟨98, WI, okN (n := 0) Tryz.func98 trivial yCc⟩
abbrev zF : Type := yn5
def yR (k0 : yn7 → Option R) (k1 : ytF → Option R) (again : zF → Option R) (t2 : zF) : Option R :=
 bif (decide (t2.2.2.1 < t2.2.1)) then if (0 : Int) ≤ t2.2.2.1 then if t2.2.2.1 < (List.length t2.1 : Int) then Option.bind (WI ((yj t2.1 t2.2.2.1).1, (yj t2.1 t2.2.2.1).2.1, (yj t2.1 t2.2.2.1).2.2.1, (yj t2.1 t2.2.2.1).2.2.2, t2.2.2.2.1, t2.2.2.2.2.1, t2.2.2.2.2.2.1, t2.2.2.2.2.2.2)) fun r1 => bif r1.1 then k0 (t2.2.2.1, r1.2) else again (t2.1, t2.2.1, (Go.IntKind.wrap .i64 (t2.2.2.1 + (1 : Int))), r1.2.1, r1.2.2.1, r1.2.2.2.1, r1.2.2.2.2) else none else none else k1 t2.2.2.2
def Yp k0 k1 := zL (@yR R k0 k1) Y4
def yY (x : yt8) : Option yn7 :=
 Yp (fun x2 => some x2) (fun x3 => some ((-1 : Int), x3.1, x3.2.1, x3.2.2.1, x3.2.2.2)) (x.1, (List.length x.1 : Int), (0 : Int), x.2.1, x.2.2.1, x.2.2.2.1, x.2.2.2.2)
def y7d : List QF := [q98]
def y0V (t : yn5) : St := ⟨zH t.1 :: .clo 98 901 :: dd 5 (vI t.2.1 :: vI t.2.2.1 :: dd 10 []), [(901, .box [vS t.2.2.2.1, vI t.2.2.2.2.1, vI t.2.2.2.2.2.1, vB t.2.2.2.2.2.2])]⟩
def y8I : Gk zF := fun κ => yR (fun t => κ none ⟨.dead :: .clo 98 901 :: dd 2 (vI t.1 :: dd 14 []), [(901, .box [vS t.2.1, vI t.2.2.1, vI t.2.2.2.1, vB t.2.2.2.2])]⟩) (fun t => κ (some 0) ⟨.dead :: .clo 98 901 :: dd 17 [], [(901, .box [vS t.1, vI t.2.1, vI t.2.2.1, vB t.2.2.2])]⟩)
def y7e : Lp := lpC 2 (unG yn6 y0V) @y8I lpN
theorem yeT : LF y7d y7e 100002 2 Tryz.f103 0 y0V @y8I fun t => t := fun R κ again t => by kernel_rfl
theorem yeU : LK y7d y7e 100002 Tryz.f103 0 := lkN (u := (unG yn6 y0V)) (yt fun t => by kernel_rfl) yeT
theorem ygB : EV y7d y7e 100002 Tryz.f103 ybE yt9 ytE yY := fun x => by kernel_rfl
def ykS : QF := ⟨100002, yY, okN (n := 1) Tryz.func103 ⟨yeU, trivial⟩ ygB⟩
def yG (x : yt8) : Option yn3 :=
 Option.bind (yY x) fun r1 => some ((decide (r1.1 ≥ (0 : Int))), r1.2.1, r1.2.2.1, r1.2.2.2.1, r1.2.2.2.2)
theorem ygC : EV [ykS] lpN 100001 Tryz.f66 ybF yt9 yn4 yG := fun x => by kernel_rfl
def ykT : QF := ⟨100001, yG, okN (n := 0) Tryz.func66 trivial ygC⟩
abbrev vG : Type := yn8
def Jj (k0 : yjd → Option R) (k1 : Qz9 → Option R) (again : vG → Option R) (t2 : vG) : Option R :=
 bif (decide (t2.2.2.1 < t2.2.1)) then if (0 : Int) ≤ t2.2.2.1 then if t2.2.2.1 < (List.length t2.1 : Int) then Option.bind (WH ((yj t2.1 t2.2.2.1).1)) fun r1 => Option.bind (bif (!r1) then some true else Option.bind (bif (decide (t2.2.2.1 > (0 : Int))) then if (0 : Int) ≤ (Go.IntKind.wrap .i64 (t2.2.2.1 - (1 : Int))) then if (Go.IntKind.wrap .i64 (t2.2.2.1 - (1 : Int))) < (List.length t2.2.2.2.2.2.2.2.1 : Int) then some (!Go.Op.bytesLess (ByteArray.toList ((yj t2.2.2.2.2.2.2.2.1 (Go.IntKind.wrap .i64 (t2.2.2.1 - (1 : Int)))).1)) (ByteArray.toList ((yj t2.1 t2.2.2.1).1))) else none else none else some false) fun u3 => some u3) fun u2 => Option.bind (bif u2 then some true else Option.bind (yF ((yj t2.1 t2.2.2.1).2.2.1, (1 : Int), (12 : Int))) fun r5 => some (!r5)) fun u4 => bif u4 then k0 (false, t2.2.2.2) else Option.bind (Z9 (t2.2.2.2.2.2.1, (yj t2.1 t2.2.2.1).2.1)) fun r6 => Option.bind (bif (decide (r6 < (0 : Int))) then some true else Option.bind (WG (t2.2.2.2.2.2.1, (yj t2.1 t2.2.2.1).2.1)) fun r8 => some (decide ((List.length r8 : Int) > (0 : Int)))) fun u7 => bif u7 then k0 (false, t2.2.2.2) else if (0 : Int) ≤ (0 : Int) then if (0 : Int) ≤ t2.2.2.1 then if t2.2.2.1 ≤ (List.length t2.2.2.2.2.2.2.2.1 : Int) then Option.bind (yG ((List.drop (Int.toNat (0 : Int)) (List.take (Int.toNat t2.2.2.1) t2.2.2.2.2.2.2.2.1)), (yj t2.1 t2.2.2.1).1, (yj t2.1 t2.2.2.1).2.1, (yj t2.1 t2.2.2.1).2.2.1, (yj t2.1 t2.2.2.1).2.2.2)) fun r9 => bif r9.1 then k0 (false, t2.2.2.2) else again (t2.1, t2.2.1, (Go.IntKind.wrap .i64 (t2.2.2.1 + (1 : Int))), t2.2.2.2.1, t2.2.2.2.2.1, t2.2.2.2.2.2.1, t2.2.2.2.2.2.2.1, t2.2.2.2.2.2.2.2.1, t2.2.2.2.2.2.2.2.2) else none else none else none else none else none else k1 t2.2.2.2
def QD k0 k1 := zL (@Jj R k0 k1) Y4
def WJ (x : Qz9) : Option Bool :=
 QD (fun x10 => some x10.1) (fun x11 => some (decide ((List.length x11.2.2.2.2.1 : Int) ≤ (6 : Int)))) (x.2.2.2.2.1, (List.length x.2.2.2.2.1 : Int), (0 : Int), x.1, x.2.1, x.2.2.1, x.2.2.2.1, x.2.2.2.2.1, x.2.2.2.2.2)
def ywK : List QF := [q28, q47, q76, q97, ykT]
def yat (t : yn8) : St := ⟨.dead :: .box 1 0 :: dd 4 (zH t.1 :: vI t.2.1 :: vI t.2.2.1 :: dd 56 []), [(1, .box [yT t.2.2.2.1, yx t.2.2.2.2.1, zh t.2.2.2.2.2.1, yL t.2.2.2.2.2.2.1, zH t.2.2.2.2.2.2.2.1, vI t.2.2.2.2.2.2.2.2])]⟩
def yrr : Gk vG := fun κ => Jj (fun t => κ none ⟨.dead :: .box 1 0 :: vB t.1 :: dd 62 [], [(1, .box [yT t.2.1, yx t.2.2.1, zh t.2.2.2.1, yL t.2.2.2.2.1, zH t.2.2.2.2.2.1, vI t.2.2.2.2.2.2])]⟩) (fun t => κ (some 0) ⟨.dead :: .box 1 0 :: dd 63 [], [(1, .box [yT t.1, yx t.2.1, zh t.2.2.1, yL t.2.2.2.1, zH t.2.2.2.2.1, vI t.2.2.2.2.2])]⟩)
def ywL : Lp := lpC 2 (unG yn9 yat) @yrr lpN
theorem ywM : LF ywK ywL 56 2 Tryz.f56 0 yat @yrr fun t => t := fun R κ again t => by kernel_rfl
theorem ywN : LK ywK ywL 56 Tryz.f56 0 := lkN (u := (unG yn9 yat)) (yt fun t => by kernel_rfl) ywM
theorem yCd : EV ywK ywL 56 Tryz.f56 yzw qz9 [.bool] WJ := fun x => by kernel_rfl
def q56 : QF := ⟨56, WJ, okN (n := 1) Tryz.func56 ⟨ywN, trivial⟩ yCd⟩
abbrev WK : Type := yna
def Za (k0 : Int → Option R) (again : WK → Option R) (t3 : WK) : Option R :=
 bif (decide (t3.2.2.2 < t3.2.2.1)) then if (0 : Int) ≤ t3.2.2.2 then if t3.2.2.2 < (List.length t3.2.1 : Int) then bif (ym t3.2.1 t3.2.2.2).2.1 then again ((Go.IntKind.wrap .i64 (t3.1 + (1 : Int))), t3.2.1, t3.2.2.1, (Go.IntKind.wrap .i64 (t3.2.2.2 + (1 : Int)))) else again (t3.1, t3.2.1, t3.2.2.1, (Go.IntKind.wrap .i64 (t3.2.2.2 + (1 : Int)))) else none else none else k0 t3.1
def Vf k0 := zL (@Za R k0) Y4
def zx (x : List y7) : Option Int :=
 Vf (fun x1 => some x1) ((0 : Int), x, (List.length x : Int), (0 : Int))
def ywO : List QF := []
def yau (t : yna) : St := ⟨dd 3 (vI t.1 :: dd 2 (yL t.2.1 :: vI t.2.2.1 :: vI t.2.2.2 :: dd 9 [])), []⟩
def yrs : Gk WK := fun κ => Za (fun t => κ (some 0) ⟨dd 3 (vI t :: dd 14 []), []⟩)
def ywP : Lp := lpC 3 (unG ynb yau) @yrs lpN
theorem ywQ : LF ywO ywP 18 3 Tryz.f18 0 yau @yrs fun t => t := fun R κ again t => by kernel_rfl
theorem ywR : LK ywO ywP 18 Tryz.f18 0 := lkN (u := (unG ynb yau)) (yt fun t => by kernel_rfl) ywQ
theorem yCe : EV ywO ywP 18 Tryz.f18 yzx [(.sl 53 yc)] [(.int .i64)] zx := fun x => by kernel_rfl
def q18 : QF := ⟨18, zx, okN (n := 1) Tryz.func18 ⟨ywR, trivial⟩ yCe⟩
abbrev kL : Type := ync
def ZO (k0 : List y8 → Option R) (again : kL → Option R) (t3 : kL) : Option R :=
 bif (decide (t3.2.2.1 < t3.2.1)) then if (0 : Int) ≤ t3.2.2.1 then if t3.2.2.1 < (List.length t3.1 : Int) then Option.bind (yN (yf t3.1 t3.2.2.1)) fun r1 => if (List.length t3.2.2.2 + List.length r1) * 40 < 140737488355328 then again (t3.1, t3.2.1, (Go.IntKind.wrap .i64 (t3.2.2.1 + (1 : Int))), (t3.2.2.2 ++ r1)) else none else none else none else k0 t3.2.2.2
def VU k0 := zL (@ZO R k0) Y4
def zN (x : Qz8) : Option (List y8) :=
 VU (fun x2 => some x2) (x.2, (List.length x.2 : Int), (0 : Int), ([] : List y8))
def ywS : List QF := [q63]
def yav (t : ync) : St := ⟨dd 3 (.own 10000000 :: dd 4 (yx t.1 :: vI t.2.1 :: vI t.2.2.1 :: dd 9 [])), [(10000000, .root true 63 yi t.2.2.2)]⟩
def yrt : Gk kL := fun κ => ZO (fun t => κ (some 0) ⟨dd 3 (.own 10000000 :: dd 16 []), [(10000000, .root true 63 yi t)]⟩)
def ywT : Lp := lpC 3 (unG ynd yav) @yrt lpN
theorem ywU : LF ywS ywT 23 3 Tryz.f23 0 yav @yrt fun t => t := fun R κ again t => by kernel_rfl
theorem ywV : LK ywS ywT 23 Tryz.f23 0 := lkN (u := (unG ynd yav)) (yt fun t => by kernel_rfl) ywU
theorem yCf : EV ywS ywT 23 Tryz.f23 yzy qz8 [(.sl 63 yi)] zN := fun x => by kernel_rfl
def q23 : QF := ⟨23, zN, okN (n := 1) Tryz.func23 ⟨ywV, trivial⟩ yCf⟩
def JO (x : ylW) : Option yyh :=
 Option.bind (yF (x.2.1, (0 : Int), (Go.IntKind.wrap .i64 ((List.length x.1 : Int) - (1 : Int))))) fun r1 => Option.bind (bif (!r1) then some true else if (0 : Int) ≤ x.2.1 then if x.2.1 < (List.length x.1 : Int) then some (!((ym x.1 x.2.1).2.1)) else none else none) fun u2 => Option.bind (bif u2 then some true else if (0 : Int) ≤ x.2.1 then if x.2.1 < (List.length x.1 : Int) then some ((ym x.1 x.2.1).1 != x.2.2) else none else none) fun u3 => bif u3 then some ((0 : Int), false) else if (0 : Int) ≤ x.2.1 then if x.2.1 < (List.length x.1 : Int) then some ((ym x.1 x.2.1).2.2, true) else none else none
theorem yCg : EV [q47] lpN 78 Tryz.f78 yzz ylX yyi JO := fun x => by kernel_rfl
def q78 : QF := ⟨78, JO, okN (n := 0) Tryz.func78 trivial yCg⟩
abbrev Kz : Type := yne
def jr (k0 : yt4 → Option R) (k1 : yek → Option R) (again : Kz → Option R) (t4 : Kz) : Option R :=
 bif (decide (t4.2.2.1 < t4.2.1)) then if (0 : Int) ≤ t4.2.2.1 then if t4.2.2.1 < (List.length t4.2.2.2.2.2.2.2.2.2.2 : Int) then Option.bind (Z9 (t4.2.2.2.2.2.1, (y6 t4.2.2.2.2.2.2.2.2.2.2 t4.2.2.1).2.1)) fun r2 => bif (decide (r2 < (0 : Int))) then k0 (false, t4.1, t4.2.2.2.1, t4.2.2.2.2.1, t4.2.2.2.2.2.1, t4.2.2.2.2.2.2.1, t4.2.2.2.2.2.2.2.1, t4.2.2.2.2.2.2.2.2.1) else bif ((y6 t4.2.2.2.2.2.2.2.2.2.2 t4.2.2.1).2.2.1 != (1 : Int)) then again (t4.1, t4.2.1, (Go.IntKind.wrap .i64 (t4.2.2.1 + (1 : Int))), t4.2.2.2.1, t4.2.2.2.2.1, t4.2.2.2.2.2.1, t4.2.2.2.2.2.2.1, t4.2.2.2.2.2.2.2.1, t4.2.2.2.2.2.2.2.2.1, t4.2.2.2.2.2.2.2.2.2.1, t4.2.2.2.2.2.2.2.2.2.2) else Option.bind (JO (t4.2.2.2.2.2.2.1, (y6 t4.2.2.2.2.2.2.2.2.2.2 t4.2.2.1).2.2.2.1, (y6 t4.2.2.2.2.2.2.2.2.2.2 t4.2.2.1).2.2.2.2)) fun r3 => Option.bind (bif (!r3.2) then some true else if (0 : Int) ≤ (y6 t4.2.2.2.2.2.2.2.2.2.2 t4.2.2.1).2.2.2.1 then if (y6 t4.2.2.2.2.2.2.2.2.2.2 t4.2.2.1).2.2.2.1 < (List.length t4.2.2.2.2.2.2.2.2.2.1 : Int) then some (yej t4.2.2.2.2.2.2.2.2.2.1 ((y6 t4.2.2.2.2.2.2.2.2.2.2 t4.2.2.1).2.2.2.1)) else none else none) fun u4 => bif u4 then k0 (false, t4.1, t4.2.2.2.1, t4.2.2.2.2.1, t4.2.2.2.2.2.1, t4.2.2.2.2.2.2.1, t4.2.2.2.2.2.2.2.1, t4.2.2.2.2.2.2.2.2.1) else if (0 : Int) ≤ (y6 t4.2.2.2.2.2.2.2.2.2.2 t4.2.2.1).2.2.2.1 then if (y6 t4.2.2.2.2.2.2.2.2.2.2 t4.2.2.1).2.2.2.1 < (List.length t4.2.2.2.2.2.2.2.2.2.1 : Int) then again ((Go.IntKind.wrap .i64 (t4.1 + (1 : Int))), t4.2.1, (Go.IntKind.wrap .i64 (t4.2.2.1 + (1 : Int))), t4.2.2.2.1, t4.2.2.2.2.1, t4.2.2.2.2.2.1, t4.2.2.2.2.2.2.1, t4.2.2.2.2.2.2.2.1, t4.2.2.2.2.2.2.2.2.1, (List.set t4.2.2.2.2.2.2.2.2.2.1 (Int.toNat ((y6 t4.2.2.2.2.2.2.2.2.2.2 t4.2.2.1).2.2.2.1)) true), t4.2.2.2.2.2.2.2.2.2.2) else none else none else none else none else k1 (t4.1, t4.2.2.2.1, t4.2.2.2.2.1, t4.2.2.2.2.2.1, t4.2.2.2.2.2.2.1, t4.2.2.2.2.2.2.2.1, t4.2.2.2.2.2.2.2.2.1)
def qW k0 k1 := zL (@jr R k0 k1) Y4
def wv (x : Qz9) : Option Bool :=
 if (0 : Int) ≤ (24 : Int) then if (24 : Int) ≤ (24 : Int) then if (24 : Int) * ((1 : Nat) : Int) ≤ 140737488351232 then Option.bind (zN (x.1, x.2.1)) fun r1 => qW (fun x5 => some x5.1) (fun x6 => Option.bind (zx x6.2.2.2.2.1) fun r7 => some (r7 == x6.1)) ((0 : Int), (List.length r1 : Int), (0 : Int), x.1, x.2.1, x.2.2.1, x.2.2.2.1, x.2.2.2.2.1, x.2.2.2.2.2, (List.replicate (Int.toNat (24 : Int)) yei), r1) else none else none else none
def ywW : List QF := [q18, q23, q78, q97]
def yaw (t : yne) : St := ⟨.dead :: .box 1 0 :: .dead :: .own 10000000 :: vI t.1 :: dd 7 (.own 10000001 :: vI t.2.1 :: vI t.2.2.1 :: dd 43 []), [(1, .box [yT t.2.2.2.1, yx t.2.2.2.2.1, zh t.2.2.2.2.2.1, yL t.2.2.2.2.2.2.1, zH t.2.2.2.2.2.2.2.1, vI t.2.2.2.2.2.2.2.2.1]), (10000000, .root true 4 y3W t.2.2.2.2.2.2.2.2.2.1), (10000001, .root true 63 yi t.2.2.2.2.2.2.2.2.2.2)]⟩
def yru : Gk Kz := fun κ => jr (fun t => κ none ⟨.dead :: .box 1 0 :: vB t.1 :: .dead :: vI t.2.1 :: dd 53 [], [(1, .box [yT t.2.2.1, yx t.2.2.2.1, zh t.2.2.2.2.1, yL t.2.2.2.2.2.1, zH t.2.2.2.2.2.2.1, vI t.2.2.2.2.2.2.2])]⟩) (fun t => κ (some 0) ⟨.dead :: .box 1 0 :: dd 2 (vI t.1 :: dd 53 []), [(1, .box [yT t.2.1, yx t.2.2.1, zh t.2.2.2.1, yL t.2.2.2.2.1, zH t.2.2.2.2.2.1, vI t.2.2.2.2.2.2])]⟩)
def ywX : Lp := lpC 4 (unG ynf yaw) @yru lpN
theorem ywY : LF ywW ywX 57 4 Tryz.f57 0 yaw @yru fun t => t := fun R κ again t => by kernel_rfl
theorem ywZ : LK ywW ywX 57 Tryz.f57 0 := lkN (u := (unG ynf yaw)) (yt fun t => by kernel_rfl) ywY
theorem yCh : EV ywW ywX 57 Tryz.f57 yzA qz9 [.bool] wv := fun x => by kernel_rfl
def q57 : QF := ⟨57, wv, okN (n := 1) Tryz.func57 ⟨ywZ, trivial⟩ yCh⟩
abbrev vH : Type := yng
def Jk (k0 : yjd → Option R) (k1 : Qz9 → Option R) (again : vH → Option R) (t4 : vH) : Option R :=
 bif (decide (t4.2.2.1 < t4.2.1)) then if (0 : Int) ≤ t4.2.2.1 then if t4.2.2.1 < (List.length t4.1 : Int) then bif (decide ((yO t4.1 t4.2.2.1).1 ≥ t4.2.2.2.2.2.2.2.2)) then k0 (false, t4.2.2.2) else again (t4.1, t4.2.1, (Go.IntKind.wrap .i64 (t4.2.2.1 + (1 : Int))), t4.2.2.2.1, t4.2.2.2.2.1, t4.2.2.2.2.2.1, t4.2.2.2.2.2.2.1, t4.2.2.2.2.2.2.2.1, t4.2.2.2.2.2.2.2.2) else none else none else k1 t4.2.2.2
def QE k0 k1 := zL (@Jk R k0 k1) Y4
def zG (x : Qz9) : Option Bool :=
 Option.bind (Yh (x.1, x.2.1)) fun r1 => Option.bind (bif (!r1) then some true else Option.bind (WF x.2.2.1) fun r3 => some (!r3)) fun u2 => Option.bind (bif u2 then some true else Option.bind (Zn x.2.2.2.1) fun r5 => some (!r5)) fun u4 => Option.bind (bif u4 then some true else Option.bind (yF (x.2.2.2.2.2, (1 : Int), (61 : Int))) fun r7 => some (!r7)) fun u6 => bif u6 then some false else QE (fun x8 => some x8.1) (fun x9 => Option.bind (WJ x9) fun r10 => Option.bind (bif r10 then Option.bind (wv x9) fun r12 => some r12 else some false) fun u11 => some u11) (x.2.2.1, (List.length x.2.2.1 : Int), (0 : Int), x.1, x.2.1, x.2.2.1, x.2.2.2.1, x.2.2.2.2.1, x.2.2.2.2.2)
def yx0 : List QF := [q47, q53, q54, q55, q56, q57]
def yax (t : yng) : St := ⟨.dead :: .box 1 0 :: dd 26 (zh t.1 :: vI t.2.1 :: vI t.2.2.1 :: dd 15 []), [(1, .box [yT t.2.2.2.1, yx t.2.2.2.2.1, zh t.2.2.2.2.2.1, yL t.2.2.2.2.2.2.1, zH t.2.2.2.2.2.2.2.1, vI t.2.2.2.2.2.2.2.2])]⟩
def yrv : Gk vH := fun κ => Jk (fun t => κ none ⟨.dead :: .box 1 0 :: vB t.1 :: dd 43 [], [(1, .box [yT t.2.1, yx t.2.2.1, zh t.2.2.2.1, yL t.2.2.2.2.1, zH t.2.2.2.2.2.1, vI t.2.2.2.2.2.2])]⟩) (fun t => κ (some 0) ⟨.dead :: .box 1 0 :: dd 44 [], [(1, .box [yT t.1, yx t.2.1, zh t.2.2.1, yL t.2.2.2.1, zH t.2.2.2.2.1, vI t.2.2.2.2.2])]⟩)
def yx1 : Lp := lpC 4 (unG ynh yax) @yrv lpN
theorem yx2 : LF yx0 yx1 19 4 Tryz.f19 0 yax @yrv fun t => t := fun R κ again t => by kernel_rfl
theorem yx3 : LK yx0 yx1 19 Tryz.f19 0 := lkN (u := (unG ynh yax)) (yt fun t => by kernel_rfl) yx2
theorem yCi : EV yx0 yx1 19 Tryz.f19 yzB qz9 [.bool] zG := fun x => by kernel_rfl
def q19 : QF := ⟨19, zG, okN (n := 1) Tryz.func19 ⟨yx3, trivial⟩ yCi⟩
def ZP (x : List yb) : Option (List yb) :=
 if (List.length ([] : List yb) + List.length x) * 8 < 140737488355328 then some (([] : List yb) ++ x) else none
theorem yx4 : EV [] lpN 120 Tryz.f120 ypp [(.sl 3 yd)] [(.sl 3 yd)] ZP := fun x => by kernel_rfl
def yAp : QF := ⟨120, ZP, okN (n := 0) Tryz.func120 trivial yx4⟩
abbrev kM : Type := ylZ ⊕ yeo
def Yc (k0 : Unit → Option R) (k1 : List y9 → Option R) (again : kM → Option R) : kM → Option R
 | .inl t3 => bif (decide (t3.2.2 < t3.2.1)) then if (0 : Int) ≤ t3.2.2 then if t3.2.2 < (List.length t3.1 : Int) then Option.bind (Y0 (yq t3.1 t3.2.2)) fun r1 => if List.length ([r1] : List y9) * 24 < 140737488355328 then again (Sum.inr (t3.1, t3.2.1, (Go.IntKind.wrap .i64 (t3.2.2 + (1 : Int))), ([r1] : List y9))) else none else none else none else k0 ()
 | .inr t3 => bif (decide (t3.2.2.1 < t3.2.1)) then if (0 : Int) ≤ t3.2.2.1 then if t3.2.2.1 < (List.length t3.1 : Int) then Option.bind (Y0 (yq t3.1 t3.2.2.1)) fun r2 => if (List.length t3.2.2.2 + List.length ([r2] : List y9)) * 24 < 140737488355328 then again (Sum.inr (t3.1, t3.2.1, (Go.IntKind.wrap .i64 (t3.2.2.1 + (1 : Int))), (t3.2.2.2 ++ ([r2] : List y9)))) else none else none else none else k1 t3.2.2.2
def VV k0 k1 := zL (@Yc R k0 k1) Y4
def zv (x : List y9) : Option (List y9) :=
 VV (fun x3 => some ([] : List y9)) (fun x4 => some x4) (Sum.inl (x, (List.length x : Int), (0 : Int)))
def yeV : List QF := [yw9]
def y3f (t : ylZ) : St := ⟨dd 2 (.box 2 0 :: .box 3 0 :: dd 4 (Yr t.1 :: vI t.2.1 :: vI t.2.2 :: dd 12 [])), [(2, .box [.nils]), (3, .box [.nils])]⟩
theorem ygD : ∀ s t, unG ytd y3f s = some t → y3f t = s := yt fun t => by kernel_rfl
def y3g (t : yeo) : St := ⟨dd 2 (.box 2 0 :: .box 3 0 :: dd 4 (Yr t.1 :: vI t.2.1 :: vI t.2.2.1 :: dd 12 [])), [(2, .box [.nils]), (3, .box [.own 10000000]), (10000000, .root true 58 yp t.2.2.2)]⟩
theorem ygE : ∀ s t, unG yni y3g s = some t → y3g t = s := yt fun t => by kernel_rfl
def y3h : (ylZ ⊕ yeo) → St := Sum.elim y3f y3g
def y7f (s : St) : Option (ylZ ⊕ yeo) := ((unG ytd y3f s).map Sum.inl).or (((unG yni y3g) s).map Sum.inr)
theorem ygF : ∀ s t, y7f s = some t → y3h t = s := y4U ygD ygE
def ybJ : Gk kM := fun κ => Yc (fun t => κ (some 0) ⟨dd 2 (.box 2 0 :: .box 3 0 :: dd 19 []), [(2, .box [.nils]), (3, .box [.nils])]⟩) (fun t => κ (some 0) ⟨dd 2 (.box 2 0 :: .box 3 0 :: dd 19 []), [(2, .box [.nils]), (3, .box [.own 10000000]), (10000000, .root true 58 yp t)]⟩)
def yeW : Lp := lpC 3 y7f @ybJ lpN
theorem ygG : LF yeV yeW 121 3 Tryz.f121 0 y3h @ybJ fun v : ylZ => .inl v := fun R κ again v => by kernel_rfl
theorem ygH : LF yeV yeW 121 3 Tryz.f121 0 y3h @ybJ fun v : yeo => .inr v := fun R κ again v => by kernel_rfl
theorem yrw : LF yeV yeW 121 3 Tryz.f121 0 y3h @ybJ fun t => t := (LC.sum ygG ygH)
theorem yrx : LK yeV yeW 121 Tryz.f121 0 := lkN (u := y7f) ygF yrw
theorem yx5 : EV yeV yeW 121 Tryz.f121 ypq [(.sl 58 yp)] [(.sl 58 yp)] zv := fun x => by kernel_rfl
def yAq : QF := ⟨121, zv, okN (n := 1) Tryz.func121 ⟨yrx, trivial⟩ yx5⟩
abbrev kN : Type := yep ⊕ yeq
def Yd (k0 : List yb → Option R) (k1 : Qz8 → Option R) (again : kN → Option R) : kN → Option R
 | .inl t3 => bif (decide (t3.2.2.1 < t3.2.1)) then if (0 : Int) ≤ t3.2.2.1 then if t3.2.2.1 < (List.length t3.1 : Int) then Option.bind (zv (yf t3.1 t3.2.2.1)) fun r2 => if List.length ([r2] : List y0) * 24 < 140737488355328 then again (Sum.inr (t3.1, t3.2.1, (Go.IntKind.wrap .i64 (t3.2.2.1 + (1 : Int))), t3.2.2.2, ([r2] : List y0))) else none else none else none else k0 t3.2.2.2
 | .inr t3 => bif (decide (t3.2.2.1 < t3.2.1)) then if (0 : Int) ≤ t3.2.2.1 then if t3.2.2.1 < (List.length t3.1 : Int) then Option.bind (zv (yf t3.1 t3.2.2.1)) fun r3 => if (List.length t3.2.2.2.2 + List.length ([r3] : List y0)) * 24 < 140737488355328 then again (Sum.inr (t3.1, t3.2.1, (Go.IntKind.wrap .i64 (t3.2.2.1 + (1 : Int))), t3.2.2.2.1, (t3.2.2.2.2 ++ ([r3] : List y0)))) else none else none else none else k1 t3.2.2.2
def VW k0 k1 := zL (@Yd R k0 k1) Y4
def zr (x : Qz8) : Option Qz8 :=
 Option.bind (ZP x.1) fun r1 => VW (fun x4 => some (x4, ([] : List y0))) (fun x5 => some x5) (Sum.inl (x.2, (List.length x.2 : Int), (0 : Int), r1))
def yry : List QF := [yAp, yAq]
def y7g (t : yep) : St := ⟨dd 2 (.box 2 0 :: .box 3 0 :: dd 7 (yx t.1 :: vI t.2.1 :: vI t.2.2.1 :: dd 12 [])), [(2, .box [.nils, .nils]), (3, .box [.own 10000000, .nils]), (10000000, .root true 3 yd t.2.2.2)]⟩
theorem ykU : ∀ s t, unG ynj y7g s = some t → y7g t = s := yt fun t => by kernel_rfl
def y7h (t : yeq) : St := ⟨dd 2 (.box 2 0 :: .box 3 0 :: dd 7 (yx t.1 :: vI t.2.1 :: vI t.2.2.1 :: dd 12 [])), [(2, .box [.nils, .nils]), (3, .box [.own 10000000, .own 10000001]), (10000000, .root true 3 yd t.2.2.2.1), (10000001, .root true 99 yg t.2.2.2.2)]⟩
theorem ykV : ∀ s t, unG ynk y7h s = some t → y7h t = s := yt fun t => by kernel_rfl
def y7i : (yep ⊕ yeq) → St := Sum.elim y7g y7h
def yay (s : St) : Option (yep ⊕ yeq) := ((unG ynj y7g s).map Sum.inl).or (((unG ynk y7h) s).map Sum.inr)
theorem ykW : ∀ s t, yay s = some t → y7i t = s := y4U ykU ykV
def ygI : Gk kN := fun κ => Yd (fun t => κ (some 0) ⟨dd 2 (.box 2 0 :: .box 3 0 :: dd 22 []), [(2, .box [.nils, .nils]), (3, .box [.own 10000000, .nils]), (10000000, .root true 3 yd t)]⟩) (fun t => κ (some 0) ⟨dd 2 (.box 2 0 :: .box 3 0 :: dd 22 []), [(2, .box [.nils, .nils]), (3, .box [.own 10000000, .own 10000001]), (10000000, .root true 3 yd t.1), (10000001, .root true 99 yg t.2)]⟩)
def yrz : Lp := lpC 3 yay @ygI lpN
theorem ykX : LF yry yrz 79 3 Tryz.f79 0 y7i @ygI fun v : yep => .inl v := fun R κ again v => by kernel_rfl
theorem ykY : LF yry yrz 79 3 Tryz.f79 0 y7i @ygI fun v : yeq => .inr v := fun R κ again v => by kernel_rfl
theorem yx6 : LF yry yrz 79 3 Tryz.f79 0 y7i @ygI fun t => t := (LC.sum ykX ykY)
theorem yx7 : LK yry yrz 79 Tryz.f79 0 := lkN (u := yay) ykW yx6
theorem yCj : EV yry yrz 79 Tryz.f79 yzC qz8 qz8 zr := fun x => by kernel_rfl
def q79 : QF := ⟨79, zr, okN (n := 1) Tryz.func79 ⟨yx7, trivial⟩ yCj⟩
def WL (x : List ya) : Option (List ya) :=
 if (List.length ([] : List ya) + List.length x) * 16 < 140737488355328 then some (([] : List ya) ++ x) else none
theorem yCk : EV [] lpN 80 Tryz.f80 yzD [(.sl 67 yk)] [(.sl 67 yk)] WL := fun x => by kernel_rfl
def q80 : QF := ⟨80, WL, okN (n := 0) Tryz.func80 trivial yCk⟩
def zz (x : List y7) : Option (List y7) :=
 if (List.length ([] : List y7) + List.length x) * 24 < 140737488355328 then some (([] : List y7) ++ x) else none
theorem yCl : EV [] lpN 81 Tryz.f81 yzE [(.sl 53 yc)] [(.sl 53 yc)] zz := fun x => by kernel_rfl
def q81 : QF := ⟨81, zz, okN (n := 0) Tryz.func81 trivial yCl⟩
def z4 (x : Qz9) : Option Qz9 :=
 Option.bind (zr (x.1, x.2.1)) fun r1 => Option.bind (WL x.2.2.1) fun r2 => Option.bind (zz x.2.2.2.1) fun r3 => if (List.length ([] : List ye) + List.length x.2.2.2.2.1) * 40 < 140737488355328 then some (r1.1, r1.2, r2, r3, (([] : List ye) ++ x.2.2.2.2.1), x.2.2.2.2.2) else none
theorem yCm : EV [q79, q80, q81] lpN 39 Tryz.f39 yzF qz9 qz9 z4 := fun x => by kernel_rfl
def q39 : QF := ⟨39, z4, okN (n := 0) Tryz.func39 trivial yCm⟩
def zm (x : List y8) : Option (List y9) :=
 bif ((List.length x : Int) == (0 : Int)) then some ([] : List y9) else Option.bind (Y0 x) fun r1 => some ([r1] : List y9)
theorem yCn : EV [yw9] lpN 93 Tryz.f93 yzG [(.sl 63 yi)] [(.sl 58 yp)] zm := fun x => by kernel_rfl
def q93 : QF := ⟨93, zm, okN (n := 0) Tryz.func93 trivial yCn⟩
end
end Go.Proofs.YtjllpipmaejeoaaGreat.XU
