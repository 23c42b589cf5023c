/- What functions compute, and that they do; part 0 of V; by a program (dec.py). No condition. -/
import Derived.Test.YtjllpipmaejeoaaGreatXV
import Derived.Test.YtjllpipmaejeoaaGreatHV0
set_option linter.all false
namespace Go.Proofs.YtjllpipmaejeoaaGreat.XV
open Go.Proofs.YtjllpipmaejeoaaGreat.R
set_option maxRecDepth 100000
noncomputable section
variable {R : Type}
def y0S (x : List y5P) : Option Bool :=
 some (decide ((List.length x : Int) > (1048576 : Int)))
theorem ev7 : EV [] lpN 7 Tryz.f7 sg7 [(.sl 5 kL)] [.bool] y0S := fun x => by kernel_rfl
def q7 : QF := ⟨7, y0S, okN (n := 0) Tryz.func7 trivial ev7⟩
abbrev VN : Type := Qz0
def Ko (k0 : Qz1 → Option R) (again : VN → Option R) (t3 : VN) : Option R :=
 Option.bind (bif (decide (t3.2.2 < (List.length t3.1 : Int))) then some (decide (t3.2.2 < (4000 : Int))) else some false) fun u1 => bif u1 then if (0 : Int) ≤ t3.2.2 then if t3.2.2 < (List.length t3.1 : Int) then again (t3.1, (Go.bits .and .i64 (Go.IntKind.wrap .i64 ((Go.IntKind.wrap .i64 ((Go.IntKind.wrap .i64 (t3.2.1 * (137 : Int))) + (Go.IntKind.wrap .i64 (ynN t3.1 t3.2.2)))) + (11 : Int))) (1073741823 : Int)), (Go.IntKind.wrap .i64 (t3.2.2 + (1 : Int)))) else none else none else k0 (t3.1, t3.2.1)
def y5V k0 := zS (@Ko R k0) Y4
def Vz (x : List y5P) : Option Qz0 :=
 y5V (fun x2 => some (x2.1, (0 : Int), x2.2)) (x, (Go.IntKind.wrap .i64 ((941941 : Int) + (List.length x : Int))), (0 : Int))
def yvH : List QF := []
def ybA (t : Qz0) : St := ⟨ynq t.1 :: dd 2 (vI t.2.1 :: vI t.2.2 :: dd 27 []), []⟩
def yrn : Gk VN := fun κ => Ko (fun t => κ (some 0) ⟨ynq t.1 :: dd 2 (vI t.2 :: dd 28 []), []⟩)
def yvI : Lp := lpC 3 (unG qz0 ybA) @yrn lpN
theorem yvJ : LF yvH yvI 32 3 Tryz.f32 0 ybA @yrn fun t => t := fun R κ again t => by kernel_rfl
theorem yvK : LK yvH yvI 32 Tryz.f32 0 := lkN (u := (unG qz0 ybA)) (yq fun t => by kernel_rfl) yvJ
theorem yCD : EV yvH yvI 32 Tryz.f32 yAG [(.sl 5 kL)] qz0 Vz := fun x => by kernel_rfl
def q32 : QF := ⟨32, Vz, okN (n := 1) Tryz.func32 ⟨yvK, trivial⟩ yCD⟩
def Zb (x : Qz0) : Option Qz2 :=
 bif (decide (x.2.1 < (List.length x.1 : Int))) then if (0 : Int) ≤ x.2.1 then if x.2.1 < (List.length x.1 : Int) then some ((Go.bits .and .i64 (Go.IntKind.wrap .i64 ((Go.bits .and .i64 (Go.bits .xor .i64 (Int.fdiv (Go.IntKind.wrap .i64 ((Go.IntKind.wrap .i64 (x.2.2 * (6364136223846793005 : Int))) + (1442695040888963407 : Int))) (2 ^ (min (Int.toNat (33 : Int)) (Go.IntKind.bits .i64)))) (Int.fdiv (Go.IntKind.wrap .i64 ((Go.IntKind.wrap .i64 (x.2.2 * (6364136223846793005 : Int))) + (1442695040888963407 : Int))) (2 ^ (min (Int.toNat (47 : Int)) (Go.IntKind.bits .i64))))) (255 : Int)) + (Go.IntKind.wrap .i64 (ynN x.1 x.2.1)))) (255 : Int)), x.1, (Go.IntKind.wrap .i64 (x.2.1 + (1 : Int))), (Go.IntKind.wrap .i64 ((Go.IntKind.wrap .i64 (x.2.2 * (6364136223846793005 : Int))) + (1442695040888963407 : Int)))) else none else none else some ((Go.bits .and .i64 (Go.bits .xor .i64 (Int.fdiv (Go.IntKind.wrap .i64 ((Go.IntKind.wrap .i64 (x.2.2 * (6364136223846793005 : Int))) + (1442695040888963407 : Int))) (2 ^ (min (Int.toNat (33 : Int)) (Go.IntKind.bits .i64)))) (Int.fdiv (Go.IntKind.wrap .i64 ((Go.IntKind.wrap .i64 (x.2.2 * (6364136223846793005 : Int))) + (1442695040888963407 : Int))) (2 ^ (min (Int.toNat (47 : Int)) (Go.IntKind.bits .i64))))) (255 : Int)), x.1, x.2.1, (Go.IntKind.wrap .i64 ((Go.IntKind.wrap .i64 (x.2.2 * (6364136223846793005 : Int))) + (1442695040888963407 : Int))))
theorem yvL : EV [] lpN 106 Tryz.f106 ypA qz0 qz2 Zb := fun x => by kernel_rfl
def yCE : QF := ⟨106, Zb, okN (n := 0) Tryz.func106 trivial yvL⟩
def yw (x : Qz3) : Option Qz2 :=
 bif (decide (x.2.2.2 ≤ (0 : Int))) then some ((0 : Int), x.1, x.2.1, x.2.2.1) else bif (decide (x.2.2.2 ≤ (256 : Int))) then Option.bind (Zb (x.1, x.2.1, x.2.2.1)) fun r1 => if x.2.2.2 = 0 then none else some ((Int.tmod r1.1 x.2.2.2), r1.2.1, r1.2.2.1, r1.2.2.2) else Option.bind (Zb (x.1, x.2.1, x.2.2.1)) fun r2 => Option.bind (Zb r2.2) fun r3 => Option.bind (Zb r3.2) fun r4 => if x.2.2.2 = 0 then none else some ((Int.tmod (Go.IntKind.wrap .i64 ((Go.IntKind.wrap .i64 ((Go.IntKind.wrap .i64 (r2.1 * (65536 : Int))) + (Go.IntKind.wrap .i64 (r3.1 * (256 : Int))))) + r4.1)) x.2.2.2), r4.2.1, r4.2.2.1, r4.2.2.2)
theorem yCF : EV [yCE] lpN 69 Tryz.f69 yAH qz3 qz2 yw := fun x => by kernel_rfl
def q69 : QF := ⟨69, yw, okN (n := 0) Tryz.func69 trivial yCF⟩
def zD (x : Qz4) : Option Qz2 :=
 Option.bind (yw (x.1, x.2.1, x.2.2.1, (List.length x.2.2.2 : Int))) fun r1 => if (0 : Int) ≤ r1.1 then if r1.1 < (List.length x.2.2.2 : Int) then some ((zt x.2.2.2 r1.1), r1.2.1, r1.2.2.1, r1.2.2.2) else none else none
theorem yCG : EV [q69] lpN 71 Tryz.f71 yAI qz4 qz2 zD := fun x => by kernel_rfl
def q71 : QF := ⟨71, zD, okN (n := 0) Tryz.func71 trivial yCG⟩
def Wg (x : Qz5) : Option Qz6 :=
 Option.bind (yw (x.1, x.2.1, x.2.2.1, (List.length x.2.2.2 : Int))) fun r1 => if (0 : Int) ≤ r1.1 then if r1.1 < (List.length x.2.2.2 : Int) then some ((yfA x.2.2.2 r1.1), r1.2.1, r1.2.2.1, r1.2.2.2) else none else none
theorem yCH : EV [q69] lpN 72 Tryz.f72 yAJ qz5 qz6 Wg := fun x => by kernel_rfl
def q72 : QF := ⟨72, Wg, okN (n := 0) Tryz.func72 trivial yCH⟩
def YM (x : Qz0) : Option Qz6 :=
 Option.bind (Wg (x.1, x.2.1, x.2.2, ([{ data := #[97] }, { data := #[98] }, { data := #[99] }, { data := #[100] }, { data := #[101, 53] }] : List y0R))) fun r1 => some r1
theorem yCI : EV [q72] lpN 73 Tryz.f73 yAK qz0 qz6 YM := fun x => by kernel_rfl
def q73 : QF := ⟨73, YM, okN (n := 0) Tryz.func73 trivial yCI⟩
def YN (x : Qz0) : Option Qz2 :=
 Option.bind (yw (x.1, x.2.1, x.2.2, (200 : Int))) fun r1 => Option.bind (zD (r1.2.1, r1.2.2.1, r1.2.2.2, ([(0 : Int), (1 : Int), (2 : Int), (7 : Int), (65535 : Int), (Go.IntKind.wrap .i64 ((1 : Int) + r1.1))] : List yb))) fun r2 => some r2
theorem yCJ : EV [q69, q71] lpN 74 Tryz.f74 yAL qz0 qz2 YN := fun x => by kernel_rfl
def q74 : QF := ⟨74, YN, okN (n := 0) Tryz.func74 trivial yCJ⟩
def YS (x : Qz0) : Option Qz7 :=
 Option.bind (zD (x.1, x.2.1, x.2.2, ([(1 : Int), (1 : Int), (1 : Int), (2 : Int), (2 : Int), (3 : Int), (4 : Int), (4 : Int), (4 : Int), (4 : Int), (4 : Int), (4 : Int), (5 : Int), (6 : Int), (7 : Int), (7 : Int), (8 : Int), (9 : Int)] : List yb))) fun r1 => bif (decide (r1.1 < (7 : Int))) then Option.bind (Wg (r1.2.1, r1.2.2.1, r1.2.2.2, ([{ data := #[97] }, { data := #[97] }, { data := #[98] }, { data := #[99] }, { data := #[100] }] : List y0R))) fun r2 => bif (r1.1 == (1 : Int)) then bif (r1.1 == (1 : Int)) then Option.bind (zD (r2.2.1, r2.2.2.1, r2.2.2.2, ([(1 : Int), (3 : Int), (4 : Int), (12 : Int), (5 : Int)] : List yb))) fun r3 => some (r1.1, r2.1, (⟨#[]⟩ : ByteArray), r3.1, (0 : Int), r3.2.1, r3.2.2.1, r3.2.2.2) else bif (r1.1 == (2 : Int)) then Option.bind (YM r2.2) fun r4 => Option.bind (zD (r4.2.1, r4.2.2.1, r4.2.2.2, ([(0 : Int), (0 : Int), (0 : Int), (1 : Int)] : List yb))) fun r5 => some (r1.1, r2.1, r4.1, (0 : Int), r5.1, r5.2.1, r5.2.2.1, r5.2.2.2) else bif (r1.1 == (4 : Int)) then Option.bind (yw (r2.2.1, r2.2.2.1, r2.2.2.2, (5 : Int))) fun r6 => Option.bind (YN r6.2) fun r7 => some (r1.1, r2.1, (⟨#[]⟩ : ByteArray), r6.1, r7.1, r7.2.1, r7.2.2.1, r7.2.2.2) else bif (r1.1 == (5 : Int)) then Option.bind (yw (r2.2.1, r2.2.2.1, r2.2.2.2, (5 : Int))) fun r8 => some (r1.1, r2.1, (⟨#[]⟩ : ByteArray), r8.1, (0 : Int), r8.2.1, r8.2.2.1, r8.2.2.2) else bif (r1.1 == (8 : Int)) then bif (r1.1 == (8 : Int)) then Option.bind (yw (r2.2.1, r2.2.2.1, r2.2.2.2, (6 : Int))) fun r9 => some (r1.1, r2.1, (⟨#[]⟩ : ByteArray), r9.1, (0 : Int), r9.2.1, r9.2.2.1, r9.2.2.2) else some (r1.1, r2.1, (⟨#[]⟩ : ByteArray), (0 : Int), (0 : Int), r2.2.1, r2.2.2.1, r2.2.2.2) else bif (r1.1 == (9 : Int)) then Option.bind (yw (r2.2.1, r2.2.2.1, r2.2.2.2, (6 : Int))) fun r10 => some (r1.1, r2.1, (⟨#[]⟩ : ByteArray), r10.1, (0 : Int), r10.2.1, r10.2.2.1, r10.2.2.2) else some (r1.1, r2.1, (⟨#[]⟩ : ByteArray), (0 : Int), (0 : Int), r2.2.1, r2.2.2.1, r2.2.2.2) else bif (r1.1 == (6 : Int)) then Option.bind (zD (r2.2.1, r2.2.2.1, r2.2.2.2, ([(1 : Int), (3 : Int), (4 : Int), (12 : Int), (5 : Int)] : List yb))) fun r11 => some (r1.1, r2.1, (⟨#[]⟩ : ByteArray), r11.1, (0 : Int), r11.2.1, r11.2.2.1, r11.2.2.2) else bif (r1.1 == (2 : Int)) then Option.bind (YM r2.2) fun r12 => Option.bind (zD (r12.2.1, r12.2.2.1, r12.2.2.2, ([(0 : Int), (0 : Int), (0 : Int), (1 : Int)] : List yb))) fun r13 => some (r1.1, r2.1, r12.1, (0 : Int), r13.1, r13.2.1, r13.2.2.1, r13.2.2.2) else bif (r1.1 == (4 : Int)) then Option.bind (yw (r2.2.1, r2.2.2.1, r2.2.2.2, (5 : Int))) fun r14 => Option.bind (YN r14.2) fun r15 => some (r1.1, r2.1, (⟨#[]⟩ : ByteArray), r14.1, r15.1, r15.2.1, r15.2.2.1, r15.2.2.2) else bif (r1.1 == (5 : Int)) then Option.bind (yw (r2.2.1, r2.2.2.1, r2.2.2.2, (5 : Int))) fun r16 => some (r1.1, r2.1, (⟨#[]⟩ : ByteArray), r16.1, (0 : Int), r16.2.1, r16.2.2.1, r16.2.2.2) else bif (r1.1 == (8 : Int)) then bif (r1.1 == (8 : Int)) then Option.bind (yw (r2.2.1, r2.2.2.1, r2.2.2.2, (6 : Int))) fun r17 => some (r1.1, r2.1, (⟨#[]⟩ : ByteArray), r17.1, (0 : Int), r17.2.1, r17.2.2.1, r17.2.2.2) else some (r1.1, r2.1, (⟨#[]⟩ : ByteArray), (0 : Int), (0 : Int), r2.2.1, r2.2.2.1, r2.2.2.2) else bif (r1.1 == (9 : Int)) then Option.bind (yw (r2.2.1, r2.2.2.1, r2.2.2.2, (6 : Int))) fun r18 => some (r1.1, r2.1, (⟨#[]⟩ : ByteArray), r18.1, (0 : Int), r18.2.1, r18.2.2.1, r18.2.2.2) else some (r1.1, r2.1, (⟨#[]⟩ : ByteArray), (0 : Int), (0 : Int), r2.2.1, r2.2.2.1, r2.2.2.2) else bif (r1.1 == (1 : Int)) then bif (r1.1 == (1 : Int)) then Option.bind (zD (r1.2.1, r1.2.2.1, r1.2.2.2, ([(1 : Int), (3 : Int), (4 : Int), (12 : Int), (5 : Int)] : List yb))) fun r19 => some (r1.1, (⟨#[]⟩ : ByteArray), (⟨#[]⟩ : ByteArray), r19.1, (0 : Int), r19.2.1, r19.2.2.1, r19.2.2.2) else bif (r1.1 == (2 : Int)) then Option.bind (YM r1.2) fun r20 => Option.bind (zD (r20.2.1, r20.2.2.1, r20.2.2.2, ([(0 : Int), (0 : Int), (0 : Int), (1 : Int)] : List yb))) fun r21 => some (r1.1, (⟨#[]⟩ : ByteArray), r20.1, (0 : Int), r21.1, r21.2.1, r21.2.2.1, r21.2.2.2) else bif (r1.1 == (4 : Int)) then Option.bind (yw (r1.2.1, r1.2.2.1, r1.2.2.2, (5 : Int))) fun r22 => Option.bind (YN r22.2) fun r23 => some (r1.1, (⟨#[]⟩ : ByteArray), (⟨#[]⟩ : ByteArray), r22.1, r23.1, r23.2.1, r23.2.2.1, r23.2.2.2) else bif (r1.1 == (5 : Int)) then Option.bind (yw (r1.2.1, r1.2.2.1, r1.2.2.2, (5 : Int))) fun r24 => some (r1.1, (⟨#[]⟩ : ByteArray), (⟨#[]⟩ : ByteArray), r24.1, (0 : Int), r24.2.1, r24.2.2.1, r24.2.2.2) else bif (r1.1 == (8 : Int)) then bif (r1.1 == (8 : Int)) then Option.bind (yw (r1.2.1, r1.2.2.1, r1.2.2.2, (6 : Int))) fun r25 => some (r1.1, (⟨#[]⟩ : ByteArray), (⟨#[]⟩ : ByteArray), r25.1, (0 : Int), r25.2.1, r25.2.2.1, r25.2.2.2) else some (r1.1, (⟨#[]⟩ : ByteArray), (⟨#[]⟩ : ByteArray), (0 : Int), (0 : Int), r1.2.1, r1.2.2.1, r1.2.2.2) else bif (r1.1 == (9 : Int)) then Option.bind (yw (r1.2.1, r1.2.2.1, r1.2.2.2, (6 : Int))) fun r26 => some (r1.1, (⟨#[]⟩ : ByteArray), (⟨#[]⟩ : ByteArray), r26.1, (0 : Int), r26.2.1, r26.2.2.1, r26.2.2.2) else some (r1.1, (⟨#[]⟩ : ByteArray), (⟨#[]⟩ : ByteArray), (0 : Int), (0 : Int), r1.2.1, r1.2.2.1, r1.2.2.2) else bif (r1.1 == (6 : Int)) then Option.bind (zD (r1.2.1, r1.2.2.1, r1.2.2.2, ([(1 : Int), (3 : Int), (4 : Int), (12 : Int), (5 : Int)] : List yb))) fun r27 => some (r1.1, (⟨#[]⟩ : ByteArray), (⟨#[]⟩ : ByteArray), r27.1, (0 : Int), r27.2.1, r27.2.2.1, r27.2.2.2) else bif (r1.1 == (2 : Int)) then Option.bind (YM r1.2) fun r28 => Option.bind (zD (r28.2.1, r28.2.2.1, r28.2.2.2, ([(0 : Int), (0 : Int), (0 : Int), (1 : Int)] : List yb))) fun r29 => some (r1.1, (⟨#[]⟩ : ByteArray), r28.1, (0 : Int), r29.1, r29.2.1, r29.2.2.1, r29.2.2.2) else bif (r1.1 == (4 : Int)) then Option.bind (yw (r1.2.1, r1.2.2.1, r1.2.2.2, (5 : Int))) fun r30 => Option.bind (YN r30.2) fun r31 => some (r1.1, (⟨#[]⟩ : ByteArray), (⟨#[]⟩ : ByteArray), r30.1, r31.1, r31.2.1, r31.2.2.1, r31.2.2.2) else bif (r1.1 == (5 : Int)) then Option.bind (yw (r1.2.1, r1.2.2.1, r1.2.2.2, (5 : Int))) fun r32 => some (r1.1, (⟨#[]⟩ : ByteArray), (⟨#[]⟩ : ByteArray), r32.1, (0 : Int), r32.2.1, r32.2.2.1, r32.2.2.2) else bif (r1.1 == (8 : Int)) then bif (r1.1 == (8 : Int)) then Option.bind (yw (r1.2.1, r1.2.2.1, r1.2.2.2, (6 : Int))) fun r33 => some (r1.1, (⟨#[]⟩ : ByteArray), (⟨#[]⟩ : ByteArray), r33.1, (0 : Int), r33.2.1, r33.2.2.1, r33.2.2.2) else some (r1.1, (⟨#[]⟩ : ByteArray), (⟨#[]⟩ : ByteArray), (0 : Int), (0 : Int), r1.2.1, r1.2.2.1, r1.2.2.2) else bif (r1.1 == (9 : Int)) then Option.bind (yw (r1.2.1, r1.2.2.1, r1.2.2.2, (6 : Int))) fun r34 => some (r1.1, (⟨#[]⟩ : ByteArray), (⟨#[]⟩ : ByteArray), r34.1, (0 : Int), r34.2.1, r34.2.2.1, r34.2.2.2) else some (r1.1, (⟨#[]⟩ : ByteArray), (⟨#[]⟩ : ByteArray), (0 : Int), (0 : Int), r1.2.1, r1.2.2.1, r1.2.2.2)
theorem yCK : EV [q69, q71, q72, q73, q74] lpN 35 Tryz.f35 yAM qz0 qz7 YS := fun x => by kernel_rfl
def q35 : QF := ⟨35, YS, okN (n := 0) Tryz.func35 trivial yCK⟩
def Kp (x : Unit) : Option Qz8 :=
 some (([(0 : Int)] : List yb), ([([] : List ya)] : List y0))
theorem yvM : EV [] lpN 104 Tryz.f104 ypB [] qz8 Kp := fun x => by kernel_rfl
def yCL : QF := ⟨104, Kp, okN (n := 0) Tryz.func104 trivial yvM⟩
def Wz (x : Unit) : Option (List y8) :=
 if (0 : Int) ≤ (24 : Int) then if (24 : Int) ≤ (24 : Int) then if (24 : Int) * ((24 : Nat) : Int) ≤ 140737488351232 then some (List.replicate (Int.toNat (24 : Int)) yQ) else none else none else none
theorem yvN : EV [] lpN 105 Tryz.f105 ypC [] [(.sl 53 yj)] Wz := fun x => by kernel_rfl
def yCM : QF := ⟨105, Wz, okN (n := 0) Tryz.func105 trivial yvN⟩
def Kq (x : Unit) : Option Qz9 :=
 Option.bind (Kp ()) fun r1 => Option.bind (Wz ()) fun r2 => some (r1.1, r1.2, ([] : List y9), r2, ([] : List yh), (1 : Int))
theorem yCN : EV [yCL, yCM] lpN 68 Tryz.f68 yAN [] qz9 Kq := fun x => by kernel_rfl
def q68 : QF := ⟨68, Kq, okN (n := 0) Tryz.func68 trivial yCN⟩
def yB (x : yuO) : Option Bool :=
 Option.bind (bif (decide (x.1 ≥ x.2.1)) then some (decide (x.1 ≤ x.2.2)) else some false) fun u1 => some u1
theorem yvO : EV [] lpN 132 Tryz.f132 ypD yuP [.bool] yB := fun x => by kernel_rfl
def y7p : QF := ⟨132, yB, okN (n := 0) Tryz.func132 trivial yvO⟩
abbrev vD : Type := yuc
def vE (k0 : yzD → Option R) (k1 : ByteArray → Option R) (again : vD → Option R) (t2 : vD) : Option R :=
 bif (decide (t2.2 < ((ByteArray.size t2.1 : Nat) : Int))) then if (0 : Int) ≤ t2.2 then if h1 : Int.toNat t2.2 < ByteArray.size t2.1 then Option.bind (yB ((Go.IntKind.wrap .i64 ((UInt8.toNat (ByteArray.get t2.1 (Int.toNat t2.2) h1) : Nat) : Int)), (97 : Int), (122 : Int))) fun r2 => Option.bind (bif (!r2) then if (0 : Int) ≤ t2.2 then if h4 : Int.toNat t2.2 < ByteArray.size t2.1 then Option.bind (yB ((Go.IntKind.wrap .i64 ((UInt8.toNat (ByteArray.get t2.1 (Int.toNat t2.2) h4) : Nat) : Int)), (48 : Int), (57 : Int))) fun r5 => some (!r5) else none else none else some false) fun u3 => bif u3 then k0 (t2.1, false) else again (t2.1, (Go.IntKind.wrap .i64 (t2.2 + (1 : Int)))) else none else none else k1 t2.1
def QO k0 k1 := zS (@vE R k0 k1) Y4
def Ys (x : ByteArray) : Option Bool :=
 QO (fun x6 => some x6.2) (fun x7 => Option.bind (yB (((ByteArray.size x7 : Nat) : Int), (1 : Int), (6 : Int))) fun r8 => some r8) (x, (0 : Int))
def ykQ : List QF := [y7p]
def y7q (t : yuc) : St := ⟨vS t.1 :: dd 2 (vI t.2 :: dd 23 []), []⟩
def yjl : Gk vD := fun κ => vE (fun t => κ none ⟨vS t.1 :: .dead :: vB t.2 :: dd 24 [], []⟩) (fun t => κ (some 0) ⟨vS t :: dd 26 [], []⟩)
def ykR : Lp := lpC 2 (unG yud y7q) @yjl lpN
theorem yro : LF ykQ ykR 131 2 Tryz.f131 0 y7q @yjl fun t => t := fun R κ again t => by kernel_rfl
theorem yrp : LK ykQ ykR 131 Tryz.f131 0 := lkN (u := (unG yud y7q)) (yq fun t => by kernel_rfl) yro
theorem yvP : EV ykQ ykR 131 Tryz.f131 ypE [.str] [.bool] Ys := fun x => by kernel_rfl
def yuz : QF := ⟨131, Ys, okN (n := 1) Tryz.func131 ⟨yrp, trivial⟩ yvP⟩
def zy (x : Int) : Option Bool :=
 Option.bind (yB (x, (0 : Int), (65535 : Int))) fun r1 => some r1
theorem yvQ : EV [y7p] lpN 133 Tryz.f133 ypF [(.int .i64)] [.bool] zy := fun x => by kernel_rfl
def yuA : QF := ⟨133, zy, okN (n := 0) Tryz.func133 trivial yvQ⟩
def YT (x : yzE) : Option Bool :=
 bif (x.1 == (2 : Int)) then Option.bind (bif (x.2.2.2.1 == (0 : Int)) then Option.bind (yB (x.2.2.2.2, (0 : Int), (1 : Int))) fun r2 => some r2 else some false) fun u1 => some u1 else bif (x.1 == (3 : Int)) then bif (x.1 == (3 : Int)) then Option.bind (bif (x.2.2.2.1 == (0 : Int)) then some (x.2.2.2.2 == (0 : Int)) else some false) fun u3 => some u3 else bif (x.1 == (4 : Int)) then some true else some (x.2.2.2.2 == (0 : Int)) else bif (x.1 == (7 : Int)) then Option.bind (bif (x.2.2.2.1 == (0 : Int)) then some (x.2.2.2.2 == (0 : Int)) else some false) fun u4 => some u4 else bif (x.1 == (4 : Int)) then some true else some (x.2.2.2.2 == (0 : Int))
theorem yvR : EV [y7p] lpN 134 Tryz.f134 ypG yji [.bool] YT := fun x => by kernel_rfl
def yCO : QF := ⟨134, YT, okN (n := 0) Tryz.func134 trivial yvR⟩
def vF (x : yzE) : Option Bool :=
 Option.bind (Ys x.2.1) fun r1 => bif (decide (x.1 ≥ (7 : Int))) then bif (x.1 == (2 : Int)) then Option.bind (Ys x.2.2.1) fun r2 => Option.bind (yB (x.1, (1 : Int), (9 : Int))) fun r3 => Option.bind (bif r3 then some ((ByteArray.toList x.2.1) == (ByteArray.toList ({ data := #[] }))) else some false) fun u4 => Option.bind (bif u4 then some r2 else some false) fun u5 => Option.bind (bif u5 then Option.bind (zy x.2.2.2.1) fun r7 => some r7 else some false) fun u6 => Option.bind (bif u6 then Option.bind (zy x.2.2.2.2) fun r9 => some r9 else some false) fun u8 => Option.bind (bif u8 then Option.bind (YT x) fun r11 => some r11 else some false) fun u10 => some u10 else Option.bind (yB (x.1, (1 : Int), (9 : Int))) fun r12 => Option.bind (bif r12 then some ((ByteArray.toList x.2.1) == (ByteArray.toList ({ data := #[] }))) else some false) fun u13 => Option.bind (bif u13 then some ((ByteArray.toList x.2.2.1) == (ByteArray.toList ({ data := #[] }))) else some false) fun u14 => Option.bind (bif u14 then Option.bind (zy x.2.2.2.1) fun r16 => some r16 else some false) fun u15 => Option.bind (bif u15 then Option.bind (zy x.2.2.2.2) fun r18 => some r18 else some false) fun u17 => Option.bind (bif u17 then Option.bind (YT x) fun r20 => some r20 else some false) fun u19 => some u19 else bif (x.1 == (2 : Int)) then Option.bind (Ys x.2.2.1) fun r21 => Option.bind (yB (x.1, (1 : Int), (9 : Int))) fun r22 => Option.bind (bif r22 then some r1 else some false) fun u23 => Option.bind (bif u23 then some r21 else some false) fun u24 => Option.bind (bif u24 then Option.bind (zy x.2.2.2.1) fun r26 => some r26 else some false) fun u25 => Option.bind (bif u25 then Option.bind (zy x.2.2.2.2) fun r28 => some r28 else some false) fun u27 => Option.bind (bif u27 then Option.bind (YT x) fun r30 => some r30 else some false) fun u29 => some u29 else Option.bind (yB (x.1, (1 : Int), (9 : Int))) fun r31 => Option.bind (bif r31 then some r1 else some false) fun u32 => Option.bind (bif u32 then some ((ByteArray.toList x.2.2.1) == (ByteArray.toList ({ data := #[] }))) else some false) fun u33 => Option.bind (bif u33 then Option.bind (zy x.2.2.2.1) fun r35 => some r35 else some false) fun u34 => Option.bind (bif u34 then Option.bind (zy x.2.2.2.2) fun r37 => some r37 else some false) fun u36 => Option.bind (bif u36 then Option.bind (YT x) fun r39 => some r39 else some false) fun u38 => some u38
theorem yvS : EV [yuz, y7p, yuA, yCO] lpN 107 Tryz.f107 ypH yji [.bool] vF := fun x => by kernel_rfl
def yCP : QF := ⟨107, vF, okN (n := 0) Tryz.func107 trivial yvS⟩
def Wh (x : yh9) : Option Bool :=
 Option.bind (yB (x.1, (0 : Int), (15 : Int))) fun r1 => Option.bind (bif (!r1) then some true else Option.bind (yB (x.2.1, (1 : Int), (60 : Int))) fun r3 => some (!r3)) fun u2 => Option.bind (bif u2 then some true else Option.bind (yB (x.2.2.1, (0 : Int), (2 : Int))) fun r5 => some (!r5)) fun u4 => bif u4 then some false else bif (x.2.2.1 == (1 : Int)) then Option.bind (yB (x.2.2.2.1, (0 : Int), (23 : Int))) fun r6 => Option.bind (bif r6 then Option.bind (yB (x.2.2.2.2, (0 : Int), (999 : Int))) fun r8 => some r8 else some false) fun u7 => some u7 else Option.bind (bif (x.2.2.2.1 == (0 : Int)) then some (x.2.2.2.2 == (0 : Int)) else some false) fun u9 => some u9
theorem yvT : EV [y7p] lpN 183 Tryz.f183 ypI Vs [.bool] Wh := fun x => by kernel_rfl
def yBM : QF := ⟨183, Wh, okN (n := 0) Tryz.func183 trivial yvT⟩
def jZ (x : yue) : Option Bool :=
 bif (x.1 != x.2.2.2.2.2.1) then some (decide (x.1 < x.2.2.2.2.2.1)) else some (decide (x.2.1 < x.2.2.2.2.2.2.1))
theorem yvU : EV [] lpN 201 Tryz.f201 ypJ yuf [.bool] jZ := fun x => by kernel_rfl
def yBN : QF := ⟨201, jZ, okN (n := 0) Tryz.func201 trivial yvU⟩
abbrev KT : Type := ynP
def jC (k0 : Bool → Option R) (k1 : Unit → Option R) (again : KT → Option R) (t2 : KT) : Option R :=
 bif (decide (t2.2 < (List.length t2.1 : Int))) then if (0 : Int) ≤ (Go.IntKind.wrap .i64 (t2.2 - (1 : Int))) then if (Go.IntKind.wrap .i64 (t2.2 - (1 : Int))) < (List.length t2.1 : Int) then if (0 : Int) ≤ t2.2 then if t2.2 < (List.length t2.1 : Int) then Option.bind (jZ ((y6 t2.1 (Go.IntKind.wrap .i64 (t2.2 - (1 : Int)))).1, (y6 t2.1 (Go.IntKind.wrap .i64 (t2.2 - (1 : Int)))).2.1, (y6 t2.1 (Go.IntKind.wrap .i64 (t2.2 - (1 : Int)))).2.2.1, (y6 t2.1 (Go.IntKind.wrap .i64 (t2.2 - (1 : Int)))).2.2.2.1, (y6 t2.1 (Go.IntKind.wrap .i64 (t2.2 - (1 : Int)))).2.2.2.2, (y6 t2.1 t2.2).1, (y6 t2.1 t2.2).2.1, (y6 t2.1 t2.2).2.2.1, (y6 t2.1 t2.2).2.2.2.1, (y6 t2.1 t2.2).2.2.2.2)) fun r1 => bif (!r1) then k0 false else again (t2.1, (Go.IntKind.wrap .i64 (t2.2 + (1 : Int)))) else none else none else none else none else k1 ()
def Qk k0 k1 := zS (@jC R k0 k1) Y4
def wx (x : List y7) : Option Bool :=
 Qk (fun x2 => some x2) (fun x3 => some true) (x, (1 : Int))
def ykS : List QF := [yBN]
def y7r (t : ynP) : St := ⟨qp t.1 :: dd 2 (vI t.2 :: dd 17 []), []⟩
def yjm : Gk KT := fun κ => jC (fun t => κ none ⟨dd 2 (vB t :: dd 18 []), []⟩) (fun t => κ (some 0) ⟨dd 21 [], []⟩)
def ykT : Lp := lpC 2 (unG ynQ y7r) @yjm lpN
theorem yrq : LF ykS ykT 208 2 Tryz.f208 0 y7r @yjm fun t => t := fun R κ again t => by kernel_rfl
theorem yrr : LK ykS ykT 208 Tryz.f208 0 := lkN (u := (unG ynQ y7r)) (yq fun t => by kernel_rfl) yrq
theorem yvV : EV ykS ykT 208 Tryz.f208 ypK [(.sl 63 yg)] [.bool] wx := fun x => by kernel_rfl
def yCQ : QF := ⟨208, wx, okN (n := 1) Tryz.func208 ⟨yrr, trivial⟩ yvV⟩
abbrev VO : Type := ynP
def wy (k0 : yzF → Option R) (k1 : List y7 → Option R) (again : VO → Option R) (t2 : VO) : Option R :=
 bif (decide (t2.2 < (List.length t2.1 : Int))) then if (0 : Int) ≤ t2.2 then if t2.2 < (List.length t2.1 : Int) then Option.bind (Wh ((y6 t2.1 t2.2).1, (y6 t2.1 t2.2).2.1, (y6 t2.1 t2.2).2.2.1, (y6 t2.1 t2.2).2.2.2.1, (y6 t2.1 t2.2).2.2.2.2)) fun r1 => bif (!r1) then k0 (t2.1, false) else again (t2.1, (Go.IntKind.wrap .i64 (t2.2 + (1 : Int)))) else none else none else k1 t2.1
def y1f k0 k1 := zS (@wy R k0 k1) Y4
def KG (x : List y7) : Option Bool :=
 y1f (fun x2 => some x2.2) (fun x3 => Option.bind (wx x3) fun r4 => Option.bind (bif r4 then some (decide ((List.length x3 : Int) ≤ (60 : Int))) else some false) fun u5 => some u5) (x, (0 : Int))
def ykU : List QF := [yBM, yCQ]
def y7s (t : ynP) : St := ⟨qp t.1 :: dd 2 (vI t.2 :: dd 19 []), []⟩
def yjn : Gk VO := fun κ => wy (fun t => κ none ⟨qp t.1 :: .dead :: vB t.2 :: dd 20 [], []⟩) (fun t => κ (some 0) ⟨qp t :: dd 22 [], []⟩)
def ykV : Lp := lpC 2 (unG ynQ y7s) @yjn lpN
theorem yrs : LF ykU ykV 196 2 Tryz.f196 0 y7s @yjn fun t => t := fun R κ again t => by kernel_rfl
theorem yrt : LK ykU ykV 196 Tryz.f196 0 := lkN (u := (unG ynQ y7s)) (yq fun t => by kernel_rfl) yrs
theorem yvW : EV ykU ykV 196 Tryz.f196 ypL [(.sl 63 yg)] [.bool] KG := fun x => by kernel_rfl
def yCR : QF := ⟨196, KG, okN (n := 1) Tryz.func196 ⟨yrt, trivial⟩ yvW⟩
abbrev KU : Type := yzG
def jD (k0 : Int → Option R) (again : KU → Option R) (t3 : KU) : Option R :=
 bif (decide (t3.2.1 < (List.length t3.2.2 : Int))) then if (0 : Int) ≤ t3.2.1 then if t3.2.1 < (List.length t3.2.2 : Int) then again ((Go.IntKind.wrap .i64 (t3.1 + (List.length (yn t3.2.2 t3.2.1) : Int))), (Go.IntKind.wrap .i64 (t3.2.1 + (1 : Int))), t3.2.2) else none else none else k0 t3.1
def Ql k0 := zS (@jD R k0) Y4
def wz (x : List ya) : Option Int :=
 Ql (fun x1 => some x1) ((0 : Int), (0 : Int), x)
def ykW : List QF := []
def y7t (t : yzG) : St := ⟨.dead :: .box 1 0 :: .dead :: vI t.1 :: vI t.2.1 :: dd 16 [], [(1, .box [Yv t.2.2])]⟩
def yjo : Gk KU := fun κ => jD (fun t => κ (some 0) ⟨dd 3 (vI t :: dd 17 []), []⟩)
def ykX : Lp := lpC 3 (unG yzH y7t) @yjo lpN
theorem yru : LF ykW ykX 197 3 Tryz.f197 0 y7t @yjo fun t => t := fun R κ again t => by kernel_rfl
theorem yrv : LK ykW ykX 197 Tryz.f197 0 := lkN (u := (unG yzH y7t)) (yq fun t => by kernel_rfl) yru
theorem yvX : EV ykW ykX 197 Tryz.f197 ypM [(.sl 58 yp)] [(.int .i64)] wz := fun x => by kernel_rfl
def yCS : QF := ⟨197, wz, okN (n := 1) Tryz.func197 ⟨yrv, trivial⟩ yvX⟩
abbrev vG : Type := yjj
def Jh (k0 : yCg → Option R) (k1 : List ya → Option R) (again : vG → Option R) (t2 : vG) : Option R :=
 bif (decide (t2.1 < (List.length t2.2 : Int))) then if (0 : Int) ≤ t2.1 then if t2.1 < (List.length t2.2 : Int) then Option.bind (KG (yn t2.2 t2.1)) fun r1 => Option.bind (bif (!r1) then some true else if (0 : Int) ≤ t2.1 then if t2.1 < (List.length t2.2 : Int) then some ((List.length (yn t2.2 t2.1) : Int) == (0 : Int)) else none else none) fun u2 => bif u2 then k0 (false, t2.2) else again ((Go.IntKind.wrap .i64 (t2.1 + (1 : Int))), t2.2) else none else none else k1 t2.2
def QP k0 k1 := zS (@Jh R k0 k1) Y4
def zz (x : List ya) : Option Bool :=
 QP (fun x3 => some x3.1) (fun x4 => Option.bind (bif (decide ((List.length x4 : Int) ≤ (3 : Int))) then Option.bind (wz x4) fun r6 => some (decide (r6 ≤ (8 : Int))) else some false) fun u5 => some u5) ((0 : Int), x)
def ykY : List QF := [yCR, yCS]
def y7u (t : yjj) : St := ⟨.dead :: .box 1 0 :: .dead :: vI t.1 :: dd 32 [], [(1, .box [Yv t.2])]⟩
def yjp : Gk vG := fun κ => Jh (fun t => κ none ⟨.dead :: .box 1 0 :: vB t.1 :: dd 33 [], [(1, .box [Yv t.2])]⟩) (fun t => κ (some 0) ⟨.dead :: .box 1 0 :: dd 34 [], [(1, .box [Yv t])]⟩)
def ykZ : Lp := lpC 2 (unG yug y7u) @yjp lpN
theorem yrw : LF ykY ykZ 178 2 Tryz.f178 0 y7u @yjp fun t => t := fun R κ again t => by kernel_rfl
theorem yrx : LK ykY ykZ 178 Tryz.f178 0 := lkN (u := (unG yug y7u)) (yq fun t => by kernel_rfl) yrw
theorem yvY : EV ykY ykZ 178 Tryz.f178 ypN [(.sl 58 yp)] [.bool] zz := fun x => by kernel_rfl
def yBO : QF := ⟨178, zz, okN (n := 1) Tryz.func178 ⟨yrx, trivial⟩ yvY⟩
abbrev qW : Type := yuh
def WA (k0 : List y7 → Option R) (again : qW → Option R) (t3 : qW) : Option R :=
 bif (decide (t3.2.1 < (List.length t3.1 : Int))) then if (0 : Int) ≤ t3.2.1 then if t3.2.1 < (List.length t3.1 : Int) then bif ((y6 t3.1 t3.2.1).2.2.1 != (0 : Int)) then if (0 : Int) ≤ t3.2.1 then if t3.2.1 < (List.length t3.1 : Int) then if (List.length t3.2.2 + List.length ([((y6 t3.1 t3.2.1).1, (y6 t3.1 t3.2.1).2.1, (y6 t3.1 t3.2.1).2.2.1, (y6 t3.1 t3.2.1).2.2.2.1, (y6 t3.1 t3.2.1).2.2.2.2)] : List y7)) * 40 < 140737488355328 then again (t3.1, (Go.IntKind.wrap .i64 (t3.2.1 + (1 : Int))), (t3.2.2 ++ ([((y6 t3.1 t3.2.1).1, (y6 t3.1 t3.2.1).2.1, (y6 t3.1 t3.2.1).2.2.1, (y6 t3.1 t3.2.1).2.2.2.1, (y6 t3.1 t3.2.1).2.2.2.2)] : List y7))) else none else none else none else again (t3.1, (Go.IntKind.wrap .i64 (t3.2.1 + (1 : Int))), t3.2.2) else none else none else k0 t3.2.2
def y2c k0 := zS (@WA R k0) Y4
def Y7 (x : List y7) : Option (List y7) :=
 y2c (fun x1 => some x1) (x, (0 : Int), ([] : List y7))
def yl0 : List QF := []
def y7v (t : yuh) : St := ⟨qp t.1 :: dd 2 (.own 10000000 :: vI t.2.1 :: dd 21 []), [(10000000, .root true 63 yg t.2.2)]⟩
def yjq : Gk qW := fun κ => WA (fun t => κ (some 0) ⟨dd 3 (.own 10000000 :: dd 22 []), [(10000000, .root true 63 yg t)]⟩)
def yl1 : Lp := lpC 3 (unG yui y7v) @yjq lpN
theorem yry : LF yl0 yl1 186 3 Tryz.f186 0 y7v @yjq fun t => t := fun R κ again t => by kernel_rfl
theorem yrz : LK yl0 yl1 186 Tryz.f186 0 := lkN (u := (unG yui y7v)) (yq fun t => by kernel_rfl) yry
theorem yvZ : EV yl0 yl1 186 Tryz.f186 ypO [(.sl 63 yg)] [(.sl 63 yg)] Y7 := fun x => by kernel_rfl
def yw0 : QF := ⟨186, Y7, okN (n := 1) Tryz.func186 ⟨yrz, trivial⟩ yvZ⟩
def ZN (x : yue) : Option Bool :=
 Option.bind (bif (x.1 == x.2.2.2.2.2.1) then some (x.2.1 == x.2.2.2.2.2.2.1) else some false) fun u1 => some u1
theorem yw1 : EV [] lpN 202 Tryz.f202 ypP yuf [.bool] ZN := fun x => by kernel_rfl
def yCT : QF := ⟨202, ZN, okN (n := 0) Tryz.func202 trivial yw1⟩
abbrev WB : Type := yzI
def YW (k0 : yzK → Option R) (again : WB → Option R) (t4 : WB) : Option R :=
 bif (decide (t4.2.2.1 < (List.length t4.1 : Int))) then Option.bind (bif (!t4.2.1) then if (0 : Int) ≤ t4.2.2.1 then if t4.2.2.1 < (List.length t4.1 : Int) then Option.bind (jZ ((y6 t4.1 t4.2.2.1).1, (y6 t4.1 t4.2.2.1).2.1, (y6 t4.1 t4.2.2.1).2.2.1, (y6 t4.1 t4.2.2.1).2.2.2.1, (y6 t4.1 t4.2.2.1).2.2.2.2, t4.2.2.2.1, t4.2.2.2.2.1, t4.2.2.2.2.2.1, t4.2.2.2.2.2.2.1, t4.2.2.2.2.2.2.2.1)) fun r2 => some (!r2) else none else none else some false) fun u1 => bif u1 then if (List.length t4.2.2.2.2.2.2.2.2 + List.length ([(t4.2.2.2.1, t4.2.2.2.2.1, t4.2.2.2.2.2.1, t4.2.2.2.2.2.2.1, t4.2.2.2.2.2.2.2.1)] : List y7)) * 40 < 140737488355328 then if (0 : Int) ≤ t4.2.2.1 then if t4.2.2.1 < (List.length t4.1 : Int) then Option.bind (ZN ((y6 t4.1 t4.2.2.1).1, (y6 t4.1 t4.2.2.1).2.1, (y6 t4.1 t4.2.2.1).2.2.1, (y6 t4.1 t4.2.2.1).2.2.2.1, (y6 t4.1 t4.2.2.1).2.2.2.2, t4.2.2.2.1, t4.2.2.2.2.1, t4.2.2.2.2.2.1, t4.2.2.2.2.2.2.1, t4.2.2.2.2.2.2.2.1)) fun r3 => bif (!r3) then if (0 : Int) ≤ t4.2.2.1 then if t4.2.2.1 < (List.length t4.1 : Int) then if (List.length (t4.2.2.2.2.2.2.2.2 ++ ([(t4.2.2.2.1, t4.2.2.2.2.1, t4.2.2.2.2.2.1, t4.2.2.2.2.2.2.1, t4.2.2.2.2.2.2.2.1)] : List y7)) + List.length ([((y6 t4.1 t4.2.2.1).1, (y6 t4.1 t4.2.2.1).2.1, (y6 t4.1 t4.2.2.1).2.2.1, (y6 t4.1 t4.2.2.1).2.2.2.1, (y6 t4.1 t4.2.2.1).2.2.2.2)] : List y7)) * 40 < 140737488355328 then again (t4.1, true, (Go.IntKind.wrap .i64 (t4.2.2.1 + (1 : Int))), t4.2.2.2.1, t4.2.2.2.2.1, t4.2.2.2.2.2.1, t4.2.2.2.2.2.2.1, t4.2.2.2.2.2.2.2.1, ((t4.2.2.2.2.2.2.2.2 ++ ([(t4.2.2.2.1, t4.2.2.2.2.1, t4.2.2.2.2.2.1, t4.2.2.2.2.2.2.1, t4.2.2.2.2.2.2.2.1)] : List y7)) ++ ([((y6 t4.1 t4.2.2.1).1, (y6 t4.1 t4.2.2.1).2.1, (y6 t4.1 t4.2.2.1).2.2.1, (y6 t4.1 t4.2.2.1).2.2.2.1, (y6 t4.1 t4.2.2.1).2.2.2.2)] : List y7))) else none else none else none else again (t4.1, true, (Go.IntKind.wrap .i64 (t4.2.2.1 + (1 : Int))), t4.2.2.2.1, t4.2.2.2.2.1, t4.2.2.2.2.2.1, t4.2.2.2.2.2.2.1, t4.2.2.2.2.2.2.2.1, (t4.2.2.2.2.2.2.2.2 ++ ([(t4.2.2.2.1, t4.2.2.2.2.1, t4.2.2.2.2.2.1, t4.2.2.2.2.2.2.1, t4.2.2.2.2.2.2.2.1)] : List y7))) else none else none else none else if (0 : Int) ≤ t4.2.2.1 then if t4.2.2.1 < (List.length t4.1 : Int) then Option.bind (ZN ((y6 t4.1 t4.2.2.1).1, (y6 t4.1 t4.2.2.1).2.1, (y6 t4.1 t4.2.2.1).2.2.1, (y6 t4.1 t4.2.2.1).2.2.2.1, (y6 t4.1 t4.2.2.1).2.2.2.2, t4.2.2.2.1, t4.2.2.2.2.1, t4.2.2.2.2.2.1, t4.2.2.2.2.2.2.1, t4.2.2.2.2.2.2.2.1)) fun r4 => bif (!r4) then if (0 : Int) ≤ t4.2.2.1 then if t4.2.2.1 < (List.length t4.1 : Int) then if (List.length t4.2.2.2.2.2.2.2.2 + List.length ([((y6 t4.1 t4.2.2.1).1, (y6 t4.1 t4.2.2.1).2.1, (y6 t4.1 t4.2.2.1).2.2.1, (y6 t4.1 t4.2.2.1).2.2.2.1, (y6 t4.1 t4.2.2.1).2.2.2.2)] : List y7)) * 40 < 140737488355328 then again (t4.1, t4.2.1, (Go.IntKind.wrap .i64 (t4.2.2.1 + (1 : Int))), t4.2.2.2.1, t4.2.2.2.2.1, t4.2.2.2.2.2.1, t4.2.2.2.2.2.2.1, t4.2.2.2.2.2.2.2.1, (t4.2.2.2.2.2.2.2.2 ++ ([((y6 t4.1 t4.2.2.1).1, (y6 t4.1 t4.2.2.1).2.1, (y6 t4.1 t4.2.2.1).2.2.1, (y6 t4.1 t4.2.2.1).2.2.2.1, (y6 t4.1 t4.2.2.1).2.2.2.2)] : List y7))) else none else none else none else again (t4.1, t4.2.1, (Go.IntKind.wrap .i64 (t4.2.2.1 + (1 : Int))), t4.2.2.2.1, t4.2.2.2.2.1, t4.2.2.2.2.2.1, t4.2.2.2.2.2.2.1, t4.2.2.2.2.2.2.2.1, t4.2.2.2.2.2.2.2.2) else none else none else k0 (t4.2.1, t4.2.2.2)
def vH k0 := zS (@YW R k0) Y4
def zI (x : yzL) : Option (List y7) :=
 vH (fun x5 => bif (!x5.1) then if (List.length x5.2.2.2.2.2.2 + List.length ([(x5.2.1, x5.2.2.1, x5.2.2.2.1, x5.2.2.2.2.1, x5.2.2.2.2.2.1)] : List y7)) * 40 < 140737488355328 then some (x5.2.2.2.2.2.2 ++ ([(x5.2.1, x5.2.2.1, x5.2.2.2.1, x5.2.2.2.2.1, x5.2.2.2.2.2.1)] : List y7)) else none else some x5.2.2.2.2.2.2) (x.1, false, (0 : Int), x.2.1, x.2.2.1, x.2.2.2.1, x.2.2.2.2.1, x.2.2.2.2.2, ([] : List y7))
def yl2 : List QF := [yBN, yCT]
def y7w (t : yzI) : St := ⟨qp t.1 :: dd 2 (.box 3 0 :: .dead :: .own 10000000 :: vB t.2.1 :: vI t.2.2.1 :: dd 43 []), [(3, .box [vI t.2.2.2.1, vI t.2.2.2.2.1, vI t.2.2.2.2.2.1, vI t.2.2.2.2.2.2.1, vI t.2.2.2.2.2.2.2.1]), (10000000, .root true 63 yg t.2.2.2.2.2.2.2.2)]⟩
def yjr : Gk WB := fun κ => YW (fun t => κ (some 0) ⟨dd 3 (.box 3 0 :: .dead :: .own 10000000 :: vB t.1 :: dd 44 []), [(3, .box [vI t.2.1, vI t.2.2.1, vI t.2.2.2.1, vI t.2.2.2.2.1, vI t.2.2.2.2.2.1]), (10000000, .root true 63 yg t.2.2.2.2.2.2)]⟩)
def yl3 : Lp := lpC 4 (unG yzJ y7w) @yjr lpN
theorem yrA : LF yl2 yl3 187 4 Tryz.f187 0 y7w @yjr fun t => t := fun R κ again t => by kernel_rfl
theorem yrB : LK yl2 yl3 187 Tryz.f187 0 := lkN (u := (unG yzJ y7w)) (yq fun t => by kernel_rfl) yrA
theorem yw2 : EV yl2 yl3 187 Tryz.f187 ypQ yzM [(.sl 63 yg)] zI := fun x => by kernel_rfl
def yw3 : QF := ⟨187, zI, okN (n := 1) Tryz.func187 ⟨yrB, trivial⟩ yw2⟩
abbrev WC : Type := yuh
def Zc (k0 : List y7 → Option R) (again : WC → Option R) (t3 : WC) : Option R :=
 bif (decide (t3.2.1 < (List.length t3.1 : Int))) then if (0 : Int) ≤ t3.2.1 then if t3.2.1 < (List.length t3.1 : Int) then Option.bind (zI (t3.2.2, (y6 t3.1 t3.2.1).1, (y6 t3.1 t3.2.1).2.1, (y6 t3.1 t3.2.1).2.2.1, (y6 t3.1 t3.2.1).2.2.2.1, (y6 t3.1 t3.2.1).2.2.2.2)) fun r1 => again (t3.1, (Go.IntKind.wrap .i64 (t3.2.1 + (1 : Int))), r1) else none else none else k0 t3.2.2
def VA k0 := zS (@Zc R k0) Y4
def Z6 (x : yuQ) : Option (List y7) :=
 if (List.length ([] : List y7) + List.length x.1) * 40 < 140737488355328 then VA (fun x2 => some x2) (x.2, (0 : Int), (([] : List y7) ++ x.1)) else none
def yl4 : List QF := [yw3]
def y7x (t : yuh) : St := ⟨.dead :: qp t.1 :: dd 3 (.own 10000000 :: vI t.2.1 :: dd 16 []), [(10000000, .root true 63 yg t.2.2)]⟩
def yjs : Gk WC := fun κ => Zc (fun t => κ (some 0) ⟨dd 5 (.own 10000000 :: dd 17 []), [(10000000, .root true 63 yg t)]⟩)
def yl5 : Lp := lpC 3 (unG yui y7x) @yjs lpN
theorem yrC : LF yl4 yl5 198 3 Tryz.f198 0 y7x @yjs fun t => t := fun R κ again t => by kernel_rfl
theorem yrD : LK yl4 yl5 198 Tryz.f198 0 := lkN (u := (unG yui y7x)) (yq fun t => by kernel_rfl) yrC
theorem yw4 : EV yl4 yl5 198 Tryz.f198 ypR yuR [(.sl 63 yg)] Z6 := fun x => by kernel_rfl
def yCU : QF := ⟨198, Z6, okN (n := 1) Tryz.func198 ⟨yrD, trivial⟩ yw4⟩
abbrev kM : Type := yzN
def ZO (k0 : List y7 → Option R) (again : kM → Option R) (t3 : kM) : Option R :=
 bif (decide (t3.1 < (List.length t3.2.1 : Int))) then if (0 : Int) ≤ t3.1 then if t3.1 < (List.length t3.2.1 : Int) then Option.bind (Z6 (t3.2.2, (yn t3.2.1 t3.1))) fun r1 => again ((Go.IntKind.wrap .i64 (t3.1 + (1 : Int))), t3.2.1, r1) else none else none else k0 t3.2.2
def qq k0 := zS (@ZO R k0) Y4
def yC (x : List ya) : Option (List y7) :=
 qq (fun x2 => Option.bind (Y7 x2) fun r3 => some r3) ((0 : Int), x, ([] : List y7))
def yl6 : List QF := [yw0, yCU]
def y7y (t : yzN) : St := ⟨.dead :: .box 1 0 :: .dead :: .own 10000000 :: vI t.1 :: dd 17 [], [(1, .box [Yv t.2.1]), (10000000, .root true 63 yg t.2.2)]⟩
def yjt : Gk kM := fun κ => ZO (fun t => κ (some 0) ⟨dd 3 (.own 10000000 :: dd 18 []), [(10000000, .root true 63 yg t)]⟩)
def yl7 : Lp := lpC 3 (unG yzO y7y) @yjt lpN
theorem yrE : LF yl6 yl7 179 3 Tryz.f179 0 y7y @yjt fun t => t := fun R κ again t => by kernel_rfl
theorem yrF : LK yl6 yl7 179 Tryz.f179 0 := lkN (u := (unG yzO y7y)) (yq fun t => by kernel_rfl) yrE
theorem yw5 : EV yl6 yl7 179 Tryz.f179 ypS [(.sl 58 yp)] [(.sl 63 yg)] yC := fun x => by kernel_rfl
def yl8 : QF := ⟨179, yC, okN (n := 1) Tryz.func179 ⟨yrF, trivial⟩ yw5⟩
def JX (x : yha) : Option Int :=
 some (Go.IntKind.wrap .i64 ((Go.IntKind.wrap .i64 ((64 : Int) * x.1)) + x.2))
theorem yw6 : EV [] lpN 199 Tryz.f199 ypT ykF [(.int .i64)] JX := fun x => by kernel_rfl
def yBP : QF := ⟨199, JX, okN (n := 0) Tryz.func199 trivial yw6⟩
def JY (x : yh9) : Option Int :=
 Option.bind (JX (x.1, x.2.1)) fun r1 => some r1
theorem yw7 : EV [yBP] lpN 180 Tryz.f180 ypU Vs [(.int .i64)] JY := fun x => by kernel_rfl
def yBQ : QF := ⟨180, JY, okN (n := 0) Tryz.func180 trivial yw7⟩
abbrev vJ : Type := yzP
def Ji (k0 : yCh → Option R) (k1 : yuS → Option R) (again : vJ → Option R) (t8 : vJ) : Option R :=
 if (0 : Int) ≤ t8.2.1 then if t8.2.1 < (List.length t8.2.2.2.2.2 : Int) then bif (decide (t8.2.2.1 < (List.length (yn t8.2.2.2.2.2 t8.2.1) : Int))) then if (0 : Int) ≤ t8.2.1 then if t8.2.1 < (List.length t8.2.2.2.2.2 : Int) then if (0 : Int) ≤ t8.2.2.1 then if t8.2.2.1 < (List.length (yn t8.2.2.2.2.2 t8.2.1) : Int) then Option.bind (JY ((y6 (yn t8.2.2.2.2.2 t8.2.1) t8.2.2.1).1, (y6 (yn t8.2.2.2.2.2 t8.2.1) t8.2.2.1).2.1, (y6 (yn t8.2.2.2.2.2 t8.2.1) t8.2.2.1).2.2.1, (y6 (yn t8.2.2.2.2.2 t8.2.1) t8.2.2.1).2.2.2.1, (y6 (yn t8.2.2.2.2.2 t8.2.1) t8.2.2.1).2.2.2.2)) fun r5 => if (0 : Int) ≤ t8.1 then if t8.1 < (List.length t8.2.2.2.1 : Int) then Option.bind (bif (decide (r5 < (zt t8.2.2.2.1 t8.1))) then some true else Option.bind (bif (decide ((Go.IntKind.wrap .i64 (t8.1 + (1 : Int))) < (List.length t8.2.2.2.1 : Int))) then if (0 : Int) ≤ (Go.IntKind.wrap .i64 (t8.1 + (1 : Int))) then if (Go.IntKind.wrap .i64 (t8.1 + (1 : Int))) < (List.length t8.2.2.2.1 : Int) then some (decide (r5 ≥ (zt t8.2.2.2.1 (Go.IntKind.wrap .i64 (t8.1 + (1 : Int)))))) else none else none else some false) fun u7 => some u7) fun u6 => bif u6 then k0 (t8.1, false, t8.2.1, t8.2.2.2) else again (t8.1, t8.2.1, (Go.IntKind.wrap .i64 (t8.2.2.1 + (1 : Int))), t8.2.2.2.1, t8.2.2.2.2.1, t8.2.2.2.2.2) else none else none else none else none else none else none else k1 (t8.1, t8.2.1, t8.2.2.2) else none else none
def vK k0 k1 := zS (@Ji R k0 k1) Y4
abbrev vL : Type := yuS
def Jj (k0 : Bool → Option R) (k1 : Unit → Option R) (again : vL → Option R) (t5 : vL) : Option R :=
 bif (decide (t5.2.1 < (List.length t5.2.2.2.2 : Int))) then vK (fun x8 => k0 x8.2.1) (fun x9 => again (x9.1, (Go.IntKind.wrap .i64 (x9.2.1 + (1 : Int))), x9.2.2.1, x9.2.2.2.1, x9.2.2.2.2)) (t5.1, t5.2.1, (0 : Int), t5.2.2.1, t5.2.2.2.1, t5.2.2.2.2) else k1 ()
def vM k0 k1 := zS (@Jj R k0 k1) Y4
def WD (x : ynR) : Option Bool :=
 if (0 : Int) ≤ x.2.2 then if x.2.2 < (List.length x.2.1 : Int) then Option.bind (zz (ye x.2.1 x.2.2)) fun r1 => Option.bind (bif (!r1) then some true else Option.bind (bif (decide (x.2.2 > (0 : Int))) then Option.bind (yC (ye x.2.1 x.2.2)) fun r4 => some ((List.length r4 : Int) == (0 : Int)) else some false) fun u3 => some u3) fun u2 => bif u2 then some false else vM (fun x10 => some x10) (fun x11 => some true) (x.2.2, (0 : Int), x.1, x.2.1, (ye x.2.1 x.2.2)) else none else none
def yfR : List QF := [yBO, yl8, yBQ]
def y7z (t : yzP) : St := ⟨.dead :: vI t.1 :: .box 2 0 :: dd 2 (.box 5 0 :: vI t.2.1 :: vI t.2.2.1 :: dd 70 []), [(2, .box [zi t.2.2.2.1, yE t.2.2.2.2.1]), (5, .box [Yv t.2.2.2.2.2])]⟩
def yju : Gk vJ := fun κ => Ji (fun t => κ none ⟨.dead :: vI t.1 :: .box 2 0 :: .dead :: vB t.2.1 :: .box 5 0 :: vI t.2.2.1 :: dd 71 [], [(2, .box [zi t.2.2.2.1, yE t.2.2.2.2.1]), (5, .box [Yv t.2.2.2.2.2])]⟩) (fun t => κ (some 2) ⟨.dead :: vI t.1 :: .box 2 0 :: dd 2 (.box 5 0 :: vI t.2.1 :: dd 71 []), [(2, .box [zi t.2.2.1, yE t.2.2.2.1]), (5, .box [Yv t.2.2.2.2])]⟩)
def y7A (t : yuS) : St := ⟨.dead :: vI t.1 :: .box 2 0 :: dd 2 (.box 5 0 :: vI t.2.1 :: dd 71 []), [(2, .box [zi t.2.2.1, yE t.2.2.2.1]), (5, .box [Yv t.2.2.2.2])]⟩
def yjv : Gk vL := fun κ => Jj (fun t => κ none ⟨dd 4 (vB t :: dd 73 []), []⟩) (fun t => κ (some 0) ⟨dd 78 [], []⟩)
def yfS : Lp := lpC 5 (unG yzR y7A) @yjv (lpC 8 (unG yzQ y7z) @yju lpN)
theorem yrG : LF yfR yfS 159 8 Tryz.f159 1 y7z @yju fun t => t := fun R κ again t => by kernel_rfl
theorem yrH : LK yfR yfS 159 Tryz.f159 1 := lkN (u := (unG yzQ y7z)) (yq fun t => by kernel_rfl) yrG
theorem yrI : LF yfR yfS 159 5 Tryz.f159 0 y7A @yjv fun t => t := fun R κ again t => by kernel_rfl
theorem yrJ : LK yfR yfS 159 Tryz.f159 0 := lkN (u := (unG yzR y7A)) (yq fun t => by kernel_rfl) yrI
theorem yw8 : EV yfR yfS 159 Tryz.f159 ypV ynS [.bool] WD := fun x => by kernel_rfl
def yCV : QF := ⟨159, WD, okN (n := 2) Tryz.func159 ⟨yrJ, yrH, trivial⟩ yw8⟩
abbrev kN : Type := yzS
def ZP (k0 : List y7 → Option R) (again : kN → Option R) (t3 : kN) : Option R :=
 bif (decide (t3.1 < (List.length t3.2.2.1 : Int))) then if (0 : Int) ≤ t3.1 then if t3.1 < (List.length t3.2.2.1 : Int) then Option.bind (yC (ye t3.2.2.1 t3.1)) fun r1 => if (List.length t3.2.2.2 + List.length r1) * 40 < 140737488355328 then again ((Go.IntKind.wrap .i64 (t3.1 + (1 : Int))), t3.2.1, t3.2.2.1, (t3.2.2.2 ++ r1)) else none else none else none else k0 t3.2.2.2
def qr k0 := zS (@ZP R k0) Y4
def yP (x : Qz8) : Option (List y7) :=
 qr (fun x2 => some x2) ((0 : Int), x.1, x.2, ([] : List y7))
def yl9 : List QF := [yl8]
def y7B (t : yzS) : St := ⟨.dead :: .box 1 0 :: .dead :: .own 10000000 :: vI t.1 :: dd 17 [], [(1, .box [zi t.2.1, yE t.2.2.1]), (10000000, .root true 63 yg t.2.2.2)]⟩
def yjw : Gk kN := fun κ => ZP (fun t => κ (some 0) ⟨dd 3 (.own 10000000 :: dd 18 []), [(10000000, .root true 63 yg t)]⟩)
def yla : Lp := lpC 3 (unG yzT y7B) @yjw lpN
theorem yrK : LF yl9 yla 160 3 Tryz.f160 0 y7B @yjw fun t => t := fun R κ again t => by kernel_rfl
theorem yrL : LK yl9 yla 160 Tryz.f160 0 := lkN (u := (unG yzT y7B)) (yq fun t => by kernel_rfl) yrK
theorem yw9 : EV yl9 yla 160 Tryz.f160 ypW qz8 [(.sl 63 yg)] yP := fun x => by kernel_rfl
def ylb : QF := ⟨160, yP, okN (n := 1) Tryz.func160 ⟨yrL, trivial⟩ yw9⟩
abbrev vN : Type := yaY
def Jk (k0 : yCi → Option R) (k1 : Qz8 → Option R) (again : vN → Option R) (t4 : vN) : Option R :=
 bif (decide (t4.1 < (List.length t4.2.2 : Int))) then Option.bind (bif (decide (t4.1 > (0 : Int))) then if (0 : Int) ≤ (Go.IntKind.wrap .i64 (t4.1 - (1 : Int))) then if (Go.IntKind.wrap .i64 (t4.1 - (1 : Int))) < (List.length t4.2.1 : Int) then if (0 : Int) ≤ t4.1 then if t4.1 < (List.length t4.2.1 : Int) then some (decide ((zt t4.2.1 (Go.IntKind.wrap .i64 (t4.1 - (1 : Int)))) ≥ (zt t4.2.1 t4.1))) else none else none else none else none else some false) fun u4 => Option.bind (bif u4 then some true else Option.bind (WD (t4.2.1, t4.2.2, t4.1)) fun r6 => some (!r6)) fun u5 => bif u5 then k0 (false, t4.2) else again ((Go.IntKind.wrap .i64 (t4.1 + (1 : Int))), t4.2.1, t4.2.2) else k1 t4.2
def QQ k0 k1 := zS (@Jk R k0 k1) Y4
def Yt (x : Qz8) : Option Bool :=
 Option.bind (yB ((List.length x.2 : Int), (1 : Int), (20 : Int))) fun r1 => Option.bind (bif (!r1) then some true else some ((List.length x.1 : Int) != (List.length x.2 : Int))) fun u2 => Option.bind (bif u2 then some true else if (0 : Int) ≤ (0 : Int) then if (0 : Int) < (List.length x.1 : Int) then some ((zt x.1 (0 : Int)) != (0 : Int)) else none else none) fun u3 => bif u3 then some false else QQ (fun x7 => some x7.1) (fun x8 => Option.bind (yP x8) fun r9 => some (decide ((List.length r9 : Int) ≤ (60 : Int)))) ((0 : Int), x.1, x.2)
def ylc : List QF := [y7p, yCV, ylb]
def y7C (t : yaY) : St := ⟨.dead :: .box 1 0 :: .dead :: vI t.1 :: dd 54 [], [(1, .box [zi t.2.1, yE t.2.2])]⟩
def yjx : Gk vN := fun κ => Jk (fun t => κ none ⟨.dead :: .box 1 0 :: vB t.1 :: dd 55 [], [(1, .box [zi t.2.1, yE t.2.2])]⟩) (fun t => κ (some 0) ⟨.dead :: .box 1 0 :: dd 56 [], [(1, .box [zi t.1, yE t.2])]⟩)
def yld : Lp := lpC 4 (unG yhb y7C) @yjx lpN
theorem yrM : LF ylc yld 135 4 Tryz.f135 0 y7C @yjx fun t => t := fun R κ again t => by kernel_rfl
theorem yrN : LK ylc yld 135 Tryz.f135 0 := lkN (u := (unG yhb y7C)) (yq fun t => by kernel_rfl) yrM
theorem ywa : EV ylc yld 135 Tryz.f135 ypX qz8 [.bool] Yt := fun x => by kernel_rfl
def yBR : QF := ⟨135, Yt, okN (n := 1) Tryz.func135 ⟨yrN, trivial⟩ ywa⟩
abbrev VP : Type := yuT
def wA (k0 : Int → Option R) (k1 : Unit → Option R) (again : VP → Option R) (t2 : VP) : Option R :=
 bif (decide (t2.2.2 < (List.length t2.1 : Int))) then if (0 : Int) ≤ t2.2.2 then if t2.2.2 < (List.length t2.1 : Int) then bif ((yG t2.1 t2.2.2).1 == t2.2.1) then k0 t2.2.2 else again (t2.1, t2.2.1, (Go.IntKind.wrap .i64 (t2.2.2 + (1 : Int)))) else none else none else k1 ()
def y1g k0 k1 := zS (@wA R k0 k1) Y4
def zU (x : yfD) : Option Int :=
 y1g (fun x1 => some x1) (fun x2 => some (-1 : Int)) (x.1, x.2, (0 : Int))
def yle : List QF := []
def y7D (t : yuT) : St := ⟨zu t.1 :: vI t.2.1 :: dd 3 (vI t.2.2 :: dd 14 []), []⟩
def yjy : Gk VP := fun κ => wA (fun t => κ none ⟨dd 4 (vI t :: dd 15 []), []⟩) (fun t => κ (some 0) ⟨dd 20 [], []⟩)
def ylf : Lp := lpC 2 (unG yuU y7D) @yjy lpN
theorem yrO : LF yle ylf 161 2 Tryz.f161 0 y7D @yjy fun t => t := fun R κ again t => by kernel_rfl
theorem yrP : LK yle ylf 161 Tryz.f161 0 := lkN (u := (unG yuU y7D)) (yq fun t => by kernel_rfl) yrO
theorem ywb : EV yle ylf 161 Tryz.f161 ypY yfE [(.int .i64)] zU := fun x => by kernel_rfl
def ynv : QF := ⟨161, zU, okN (n := 1) Tryz.func161 ⟨yrP, trivial⟩ ywb⟩
abbrev vO : Type := yfD
def Jl (k0 : ynT → Option R) (k1 : List y9 → Option R) (again : vO → Option R) (t2 : vO) : Option R :=
 bif (decide (t2.2 < (List.length t2.1 : Int))) then if (0 : Int) ≤ t2.2 then if t2.2 < (List.length t2.1 : Int) then Option.bind (yB ((yG t2.1 t2.2).1, (1 : Int), (60 : Int))) fun r1 => Option.bind (bif (!r1) then some true else Option.bind (bif (decide (t2.2 > (0 : Int))) then if (0 : Int) ≤ (Go.IntKind.wrap .i64 (t2.2 - (1 : Int))) then if (Go.IntKind.wrap .i64 (t2.2 - (1 : Int))) < (List.length t2.1 : Int) then if (0 : Int) ≤ t2.2 then if t2.2 < (List.length t2.1 : Int) then some (decide ((yG t2.1 (Go.IntKind.wrap .i64 (t2.2 - (1 : Int)))).1 ≥ (yG t2.1 t2.2).1)) else none else none else none else none else some false) fun u3 => some u3) fun u2 => bif u2 then k0 (t2.1, false) else if (0 : Int) ≤ t2.2 then if t2.2 < (List.length t2.1 : Int) then Option.bind (bif ((yG t2.1 t2.2).2 != (0 : Int)) then if (0 : Int) ≤ (0 : Int) then if (0 : Int) ≤ t2.2 then if t2.2 ≤ (List.length t2.1 : Int) then if (0 : Int) ≤ t2.2 then if t2.2 < (List.length t2.1 : Int) then Option.bind (zU ((List.drop (Int.toNat (0 : Int)) (List.take (Int.toNat t2.2) t2.1)), (yG t2.1 t2.2).2)) fun r5 => some (decide (r5 < (0 : Int))) else none else none else none else none else none else some false) fun u4 => bif u4 then k0 (t2.1, false) else again (t2.1, (Go.IntKind.wrap .i64 (t2.2 + (1 : Int)))) else none else none else none else none else k1 t2.1
def QR k0 k1 := zS (@Jl R k0 k1) Y4
def Zd (x : List y9) : Option Bool :=
 QR (fun x6 => some x6.2) (fun x7 => some (decide ((List.length x7 : Int) ≤ (16 : Int)))) (x, (0 : Int))
def ylg : List QF := [y7p, ynv]
def y7E (t : yfD) : St := ⟨zu t.1 :: dd 2 (vI t.2 :: dd 52 []), []⟩
def yjz : Gk vO := fun κ => Jl (fun t => κ none ⟨zu t.1 :: .dead :: vB t.2 :: dd 53 [], []⟩) (fun t => κ (some 0) ⟨zu t :: dd 55 [], []⟩)
def ylh : Lp := lpC 2 (unG yfE y7E) @yjz lpN
theorem yrQ : LF ylg ylh 136 2 Tryz.f136 0 y7E @yjz fun t => t := fun R κ again t => by kernel_rfl
theorem yrR : LK ylg ylh 136 Tryz.f136 0 := lkN (u := (unG yfE y7E)) (yq fun t => by kernel_rfl) yrQ
theorem ywc : EV ylg ylh 136 Tryz.f136 ypZ [(.sl 67 yo)] [.bool] Zd := fun x => by kernel_rfl
def ywd : QF := ⟨136, Zd, okN (n := 1) Tryz.func136 ⟨yrR, trivial⟩ ywc⟩
abbrev KV : Type := ynU
def jE (k0 : yzU → Option R) (k1 : List y8 → Option R) (again : KV → Option R) (t2 : KV) : Option R :=
 bif (decide (t2.2 < (List.length t2.1 : Int))) then if (0 : Int) ≤ t2.2 then if t2.2 < (List.length t2.1 : Int) then Option.bind (yB ((yA t2.1 t2.2).1, (0 : Int), (999 : Int))) fun r1 => Option.bind (bif (!r1) then some true else if (0 : Int) ≤ t2.2 then if t2.2 < (List.length t2.1 : Int) then Option.bind (zy ((yA t2.1 t2.2).2.2)) fun r3 => some (!r3) else none else none) fun u2 => Option.bind (bif u2 then some true else if (0 : Int) ≤ t2.2 then if t2.2 < (List.length t2.1 : Int) then Option.bind (bif (!((yA t2.1 t2.2).2.1)) then if (0 : Int) ≤ t2.2 then if t2.2 < (List.length t2.1 : Int) then some ((yA t2.1 t2.2).2.2 != (0 : Int)) else none else none else some false) fun u5 => some u5 else none else none) fun u4 => bif u4 then k0 (t2.1, false) else again (t2.1, (Go.IntKind.wrap .i64 (t2.2 + (1 : Int)))) else none else none else k1 t2.1
def Qm k0 k1 := zS (@jE R k0 k1) Y4
def ZB (x : List y8) : Option Bool :=
 Qm (fun x6 => some x6.2) (fun x7 => some ((List.length x7 : Int) == (24 : Int))) (x, (0 : Int))
def yli : List QF := [y7p, yuA]
def y7F (t : ynU) : St := ⟨z0 t.1 :: dd 2 (vI t.2 :: dd 41 []), []⟩
def yjA : Gk KV := fun κ => jE (fun t => κ none ⟨z0 t.1 :: .dead :: vB t.2 :: dd 42 [], []⟩) (fun t => κ (some 0) ⟨z0 t :: dd 44 [], []⟩)
def ylj : Lp := lpC 2 (unG ynV y7F) @yjA lpN
theorem yrS : LF yli ylj 137 2 Tryz.f137 0 y7F @yjA fun t => t := fun R κ again t => by kernel_rfl
theorem yrT : LK yli ylj 137 Tryz.f137 0 := lkN (u := (unG ynV y7F)) (yq fun t => by kernel_rfl) yrS
theorem ywe : EV yli ylj 137 Tryz.f137 yq0 [(.sl 53 yj)] [.bool] ZB := fun x => by kernel_rfl
def ywf : QF := ⟨137, ZB, okN (n := 1) Tryz.func137 ⟨yrT, trivial⟩ ywe⟩
abbrev vP : Type := yzV
def Jm (k0 : List yb → Option R) (again : vP → Option R) (t3 : vP) : Option R :=
 bif (decide (t3.2.2.1 < (List.length t3.1 : Int))) then if (0 : Int) ≤ t3.2.2.1 then if t3.2.2.1 < (List.length t3.1 : Int) then Option.bind (bif ((yG t3.1 t3.2.2.1).2 == t3.2.1) then some (t3.2.1 != (0 : Int)) else some false) fun u1 => bif u1 then if (0 : Int) ≤ t3.2.2.1 then if t3.2.2.1 < (List.length t3.1 : Int) then if (List.length t3.2.2.2 + List.length ([(yG t3.1 t3.2.2.1).1] : List yb)) * 8 < 140737488355328 then again (t3.1, t3.2.1, (Go.IntKind.wrap .i64 (t3.2.2.1 + (1 : Int))), (t3.2.2.2 ++ ([(yG t3.1 t3.2.2.1).1] : List yb))) else none else none else none else again (t3.1, t3.2.1, (Go.IntKind.wrap .i64 (t3.2.2.1 + (1 : Int))), t3.2.2.2) else none else none else k0 t3.2.2.2
def QS k0 := zS (@Jm R k0) Y4
def jr (x : yfD) : Option (List yb) :=
 QS (fun x2 => some x2) (x.1, x.2, (0 : Int), ([] : List yb))
def ylk : List QF := []
def y7G (t : yzV) : St := ⟨zu t.1 :: vI t.2.1 :: dd 3 (.own 10000000 :: vI t.2.2.1 :: dd 27 []), [(10000000, .root true 3 yd t.2.2.2)]⟩
def yjB : Gk vP := fun κ => Jm (fun t => κ (some 0) ⟨dd 5 (.own 10000000 :: dd 28 []), [(10000000, .root true 3 yd t)]⟩)
def yll : Lp := lpC 3 (unG yzW y7G) @yjB lpN
theorem yrU : LF ylk yll 162 3 Tryz.f162 0 y7G @yjB fun t => t := fun R κ again t => by kernel_rfl
theorem yrV : LK ylk yll 162 Tryz.f162 0 := lkN (u := (unG yzW y7G)) (yq fun t => by kernel_rfl) yrU
theorem ywg : EV ylk yll 162 Tryz.f162 yq1 yfE [(.sl 3 yd)] jr := fun x => by kernel_rfl
def ywh : QF := ⟨162, jr, okN (n := 1) Tryz.func162 ⟨yrV, trivial⟩ ywg⟩
abbrev KW : Type := yzX
def jF (k0 : yuW → Option R) (k1 : yhc → Option R) (again : KW → Option R) (t8 : KW) : Option R :=
 bif (decide (t8.2.1 < t8.1)) then if (0 : Int) ≤ t8.2.1 then if t8.2.1 < (List.length t8.2.2.2.2.2.2.1 : Int) then bif ((yi t8.2.2.2.2.2.2.1 t8.2.1).2.1 == t8.2.2.2.2.2.2.2.2.2.1) then k0 (false, t8.1, t8.2.2.1, t8.2.2.2.1, t8.2.2.2.2.1, t8.2.2.2.2.2.1, t8.2.2.2.2.2.2.1, t8.2.2.2.2.2.2.2.1) else again (t8.1, (Go.IntKind.wrap .i64 (t8.2.1 + (1 : Int))), t8.2.2.1, t8.2.2.2.1, t8.2.2.2.2.1, t8.2.2.2.2.2.1, t8.2.2.2.2.2.2.1, t8.2.2.2.2.2.2.2.1, t8.2.2.2.2.2.2.2.2.1, t8.2.2.2.2.2.2.2.2.2.1, t8.2.2.2.2.2.2.2.2.2.2.1, t8.2.2.2.2.2.2.2.2.2.2.2) else none else none else k1 (t8.1, t8.2.2.1, t8.2.2.2.1, t8.2.2.2.2.1, t8.2.2.2.2.2.1, t8.2.2.2.2.2.2.1, t8.2.2.2.2.2.2.2.1)
def KX k0 k1 := zS (@jF R k0 k1) Y4
abbrev KY : Type := yhc
def jG (k0 : yhV → Option R) (k1 : Qz9 → Option R) (again : KY → Option R) (t2 : KY) : Option R :=
 bif (decide (t2.1 < (List.length t2.2.2.2.2.2.1 : Int))) then if (0 : Int) ≤ t2.1 then if t2.1 < (List.length t2.2.2.2.2.2.1 : Int) then Option.bind (Ys ((yi t2.2.2.2.2.2.1 t2.1).1)) fun r1 => Option.bind (bif (!r1) then some true else Option.bind (yB ((yi t2.2.2.2.2.2.1 t2.1).2.2.1, (1 : Int), (12 : Int))) fun r3 => some (!r3)) fun u2 => Option.bind (bif u2 then some true else Option.bind (zU (t2.2.2.2.1, (yi t2.2.2.2.2.2.1 t2.1).2.1)) fun r5 => some (decide (r5 < (0 : Int)))) fun u4 => Option.bind (bif u4 then some true else Option.bind (jr (t2.2.2.2.1, (yi t2.2.2.2.2.2.1 t2.1).2.1)) fun r7 => some (decide ((List.length r7 : Int) > (0 : Int)))) fun u6 => Option.bind (bif u6 then some true else Option.bind (bif (decide (t2.1 > (0 : Int))) then if (0 : Int) ≤ (Go.IntKind.wrap .i64 (t2.1 - (1 : Int))) then if (Go.IntKind.wrap .i64 (t2.1 - (1 : Int))) < (List.length t2.2.2.2.2.2.1 : Int) then some (!Go.Op.bytesLess (ByteArray.toList ((yi t2.2.2.2.2.2.1 (Go.IntKind.wrap .i64 (t2.1 - (1 : Int)))).1)) (ByteArray.toList ((yi t2.2.2.2.2.2.1 t2.1).1))) else none else none else some false) fun u9 => some u9) fun u8 => bif u8 then k0 (false, t2.2) else KX (fun x10 => k0 (x10.1, x10.2.2)) (fun x11 => again ((Go.IntKind.wrap .i64 (x11.1 + (1 : Int))), x11.2.1, x11.2.2.1, x11.2.2.2.1, x11.2.2.2.2.1, x11.2.2.2.2.2.1, x11.2.2.2.2.2.2)) (t2.1, (0 : Int), t2.2.1, t2.2.2.1, t2.2.2.2.1, t2.2.2.2.2.1, t2.2.2.2.2.2.1, t2.2.2.2.2.2.2, (yi t2.2.2.2.2.2.1 t2.1).1, (yi t2.2.2.2.2.2.1 t2.1).2.1, (yi t2.2.2.2.2.2.1 t2.1).2.2.1, (yi t2.2.2.2.2.2.1 t2.1).2.2.2) else none else none else k1 t2.2
def Qn k0 k1 := zS (@jG R k0 k1) Y4
def wB (x : Qz9) : Option Bool :=
 Qn (fun x12 => some x12.1) (fun x13 => some (decide ((List.length x13.2.2.2.2.1 : Int) ≤ (6 : Int)))) ((0 : Int), x.1, x.2.1, x.2.2.1, x.2.2.2.1, x.2.2.2.2.1, x.2.2.2.2.2)
def yfT : List QF := [yuz, y7p, ynv, ywh]
def y7H (t : yzX) : St := ⟨.dead :: .box 1 0 :: .dead :: vI t.1 :: .box 4 0 :: vI t.2.1 :: dd 73 [], [(1, .box [zi t.2.2.1, yE t.2.2.2.1, zu t.2.2.2.2.1, z0 t.2.2.2.2.2.1, zW t.2.2.2.2.2.2.1, vI t.2.2.2.2.2.2.2.1]), (4, .box [vS t.2.2.2.2.2.2.2.2.1, vI t.2.2.2.2.2.2.2.2.2.1, vI t.2.2.2.2.2.2.2.2.2.2.1, vB t.2.2.2.2.2.2.2.2.2.2.2])]⟩
def yjC : Gk KW := fun κ => jF (fun t => κ none ⟨.dead :: .box 1 0 :: vB t.1 :: vI t.2.1 :: dd 75 [], [(1, .box [zi t.2.2.1, yE t.2.2.2.1, zu t.2.2.2.2.1, z0 t.2.2.2.2.2.1, zW t.2.2.2.2.2.2.1, vI t.2.2.2.2.2.2.2])]⟩) (fun t => κ (some 2) ⟨.dead :: .box 1 0 :: .dead :: vI t.1 :: dd 75 [], [(1, .box [zi t.2.1, yE t.2.2.1, zu t.2.2.2.1, z0 t.2.2.2.2.1, zW t.2.2.2.2.2.1, vI t.2.2.2.2.2.2])]⟩)
def y7I (t : yhc) : St := ⟨.dead :: .box 1 0 :: .dead :: vI t.1 :: dd 75 [], [(1, .box [zi t.2.1, yE t.2.2.1, zu t.2.2.2.1, z0 t.2.2.2.2.1, zW t.2.2.2.2.2.1, vI t.2.2.2.2.2.2])]⟩
def yjD : Gk KY := fun κ => jG (fun t => κ none ⟨.dead :: .box 1 0 :: vB t.1 :: dd 76 [], [(1, .box [zi t.2.1, yE t.2.2.1, zu t.2.2.2.1, z0 t.2.2.2.2.1, zW t.2.2.2.2.2.1, vI t.2.2.2.2.2.2])]⟩) (fun t => κ (some 0) ⟨.dead :: .box 1 0 :: dd 77 [], [(1, .box [zi t.1, yE t.2.1, zu t.2.2.1, z0 t.2.2.2.1, zW t.2.2.2.2.1, vI t.2.2.2.2.2])]⟩)
def yfU : Lp := lpC 2 (unG ynr y7I) @yjD (lpC 8 (unG yzY y7H) @yjC lpN)
theorem yrW : LF yfT yfU 138 8 Tryz.f138 1 y7H @yjC fun t => t := fun R κ again t => by kernel_rfl
theorem yrX : LK yfT yfU 138 Tryz.f138 1 := lkN (u := (unG yzY y7H)) (yq fun t => by kernel_rfl) yrW
theorem yrY : LF yfT yfU 138 2 Tryz.f138 0 y7I @yjD fun t => t := fun R κ again t => by kernel_rfl
theorem yrZ : LK yfT yfU 138 Tryz.f138 0 := lkN (u := (unG ynr y7I)) (yq fun t => by kernel_rfl) yrY
theorem ywi : EV yfT yfU 138 Tryz.f138 yq2 qz9 [.bool] wB := fun x => by kernel_rfl
def yCW : QF := ⟨138, wB, okN (n := 2) Tryz.func138 ⟨yrZ, yrX, trivial⟩ ywi⟩
def JZ (x : yuj) : Option yzZ :=
 Option.bind (yB (x.2.1, (0 : Int), (Go.IntKind.wrap .i64 ((List.length x.1 : Int) - (1 : Int))))) fun r1 => Option.bind (bif (!r1) then some true else if (0 : Int) ≤ x.2.1 then if x.2.1 < (List.length x.1 : Int) then some (!((yA x.1 x.2.1).2.1)) else none else none) fun u2 => Option.bind (bif u2 then some true else if (0 : Int) ≤ x.2.1 then if x.2.1 < (List.length x.1 : Int) then some ((yA x.1 x.2.1).1 != x.2.2) else none else none) fun u3 => bif u3 then some ((0 : Int), false) else if (0 : Int) ≤ x.2.1 then if x.2.1 < (List.length x.1 : Int) then some ((yA x.1 x.2.1).2.2, true) else none else none
theorem ywj : EV [y7p] lpN 163 Tryz.f163 yq3 yuk yA0 JZ := fun x => by kernel_rfl
def yCX : QF := ⟨163, JZ, okN (n := 0) Tryz.func163 trivial ywj⟩
abbrev WE : Type := yuj
def Ze (k0 : Int → Option R) (again : WE → Option R) (t3 : WE) : Option R :=
 bif (decide (t3.2.2 < (List.length t3.1 : Int))) then if (0 : Int) ≤ t3.2.2 then if t3.2.2 < (List.length t3.1 : Int) then bif (yA t3.1 t3.2.2).2.1 then again (t3.1, (Go.IntKind.wrap .i64 (t3.2.1 + (1 : Int))), (Go.IntKind.wrap .i64 (t3.2.2 + (1 : Int)))) else again (t3.1, t3.2.1, (Go.IntKind.wrap .i64 (t3.2.2 + (1 : Int)))) else none else none else k0 t3.2.1
def VB k0 := zS (@Ze R k0) Y4
def jH (x : List y8) : Option Int :=
 VB (fun x1 => some x1) (x, (0 : Int), (0 : Int))
def ylm : List QF := []
def y7J (t : yuj) : St := ⟨z0 t.1 :: dd 2 (vI t.2.1 :: vI t.2.2 :: dd 14 []), []⟩
def yjE : Gk WE := fun κ => Ze (fun t => κ (some 0) ⟨dd 3 (vI t :: dd 15 []), []⟩)
def yln : Lp := lpC 3 (unG yuk y7J) @yjE lpN
theorem ys0 : LF ylm yln 164 3 Tryz.f164 0 y7J @yjE fun t => t := fun R κ again t => by kernel_rfl
theorem ys1 : LK ylm yln 164 Tryz.f164 0 := lkN (u := (unG yuk y7J)) (yq fun t => by kernel_rfl) ys0
theorem ywk : EV ylm yln 164 Tryz.f164 yq4 [(.sl 53 yj)] [(.int .i64)] jH := fun x => by kernel_rfl
def yCY : QF := ⟨164, jH, okN (n := 1) Tryz.func164 ⟨ys1, trivial⟩ ywk⟩
abbrev kO : Type := yuX
def ZQ (k0 : yCj → Option R) (k1 : yjk → Option R) (again : kO → Option R) (t14 : kO) : Option R :=
 bif (decide (t14.2.2.1 < t14.2.1)) then if (0 : Int) ≤ t14.2.2.1 then if t14.2.2.1 < (List.length t14.2.2.2.2.2.2.2.2.2 : Int) then Option.bind (bif ((y6 t14.2.2.2.2.2.2.2.2.2 t14.2.2.1).2.2.1 == (1 : Int)) then if (0 : Int) ≤ t14.2.2.1 then if t14.2.2.1 < (List.length t14.2.2.2.2.2.2.2.2.2 : Int) then if (0 : Int) ≤ t14.2.1 then if t14.2.1 < (List.length t14.2.2.2.2.2.2.2.2.2 : Int) then some ((y6 t14.2.2.2.2.2.2.2.2.2 t14.2.2.1).2.2.2.1 == (y6 t14.2.2.2.2.2.2.2.2.2 t14.2.1).2.2.2.1) else none else none else none else none else some false) fun u4 => bif u4 then k0 (false, t14.1, t14.2.1, t14.2.2.2) else again (t14.1, t14.2.1, (Go.IntKind.wrap .i64 (t14.2.2.1 + (1 : Int))), t14.2.2.2.1, t14.2.2.2.2.1, t14.2.2.2.2.2.1, t14.2.2.2.2.2.2.1, t14.2.2.2.2.2.2.2.1, t14.2.2.2.2.2.2.2.2.1, t14.2.2.2.2.2.2.2.2.2) else none else none else k1 (t14.1, t14.2.1, t14.2.2.2)
def kP k0 k1 := zS (@ZQ R k0 k1) Y4
abbrev KZ : Type := yjk
def jI (k0 : yuW → Option R) (k1 : yhc → Option R) (again : KZ → Option R) (t4 : KZ) : Option R :=
 bif (decide (t4.2.1 < (List.length t4.2.2.2.2.2.2.2.2 : Int))) then if (0 : Int) ≤ t4.2.1 then if t4.2.1 < (List.length t4.2.2.2.2.2.2.2.2 : Int) then Option.bind (zU (t4.2.2.2.2.1, (y6 t4.2.2.2.2.2.2.2.2 t4.2.1).2.1)) fun r2 => bif (decide (r2 < (0 : Int))) then k0 (false, t4.1, t4.2.2.1, t4.2.2.2.1, t4.2.2.2.2.1, t4.2.2.2.2.2.1, t4.2.2.2.2.2.2.1, t4.2.2.2.2.2.2.2.1) else if (0 : Int) ≤ t4.2.1 then if t4.2.1 < (List.length t4.2.2.2.2.2.2.2.2 : Int) then bif ((y6 t4.2.2.2.2.2.2.2.2 t4.2.1).2.2.1 != (1 : Int)) then again (t4.1, (Go.IntKind.wrap .i64 (t4.2.1 + (1 : Int))), t4.2.2.1, t4.2.2.2.1, t4.2.2.2.2.1, t4.2.2.2.2.2.1, t4.2.2.2.2.2.2.1, t4.2.2.2.2.2.2.2.1, t4.2.2.2.2.2.2.2.2) else if (0 : Int) ≤ t4.2.1 then if t4.2.1 < (List.length t4.2.2.2.2.2.2.2.2 : Int) then if (0 : Int) ≤ t4.2.1 then if t4.2.1 < (List.length t4.2.2.2.2.2.2.2.2 : Int) then Option.bind (JZ (t4.2.2.2.2.2.1, (y6 t4.2.2.2.2.2.2.2.2 t4.2.1).2.2.2.1, (y6 t4.2.2.2.2.2.2.2.2 t4.2.1).2.2.2.2)) fun r3 => bif (!r3.2) then k0 (false, (Go.IntKind.wrap .i64 (t4.1 + (1 : Int))), t4.2.2.1, t4.2.2.2.1, t4.2.2.2.2.1, t4.2.2.2.2.2.1, t4.2.2.2.2.2.2.1, t4.2.2.2.2.2.2.2.1) else kP (fun x5 => k0 (x5.1, x5.2.1, x5.2.2.2.1, x5.2.2.2.2.1, x5.2.2.2.2.2.1, x5.2.2.2.2.2.2.1, x5.2.2.2.2.2.2.2.1, x5.2.2.2.2.2.2.2.2.1)) (fun x6 => again (x6.1, (Go.IntKind.wrap .i64 (x6.2.1 + (1 : Int))), x6.2.2.1, x6.2.2.2.1, x6.2.2.2.2.1, x6.2.2.2.2.2.1, x6.2.2.2.2.2.2.1, x6.2.2.2.2.2.2.2.1, x6.2.2.2.2.2.2.2.2)) ((Go.IntKind.wrap .i64 (t4.1 + (1 : Int))), t4.2.1, (0 : Int), t4.2.2.1, t4.2.2.2.1, t4.2.2.2.2.1, t4.2.2.2.2.2.1, t4.2.2.2.2.2.2.1, t4.2.2.2.2.2.2.2.1, t4.2.2.2.2.2.2.2.2) else none else none else none else none else none else none else none else none else k1 (t4.1, t4.2.2.1, t4.2.2.2.1, t4.2.2.2.2.1, t4.2.2.2.2.2.1, t4.2.2.2.2.2.2.1, t4.2.2.2.2.2.2.2.1)
def Qo k0 k1 := zS (@jI R k0 k1) Y4
def wC (x : Qz9) : Option Bool :=
 Option.bind (yP (x.1, x.2.1)) fun r1 => Qo (fun x7 => some x7.1) (fun x8 => Option.bind (jH x8.2.2.2.2.1) fun r9 => some (x8.1 == r9)) ((0 : Int), (0 : Int), x.1, x.2.1, x.2.2.1, x.2.2.2.1, x.2.2.2.2.1, x.2.2.2.2.2, r1)
def yfV : List QF := [ylb, ynv, yCX, yCY]
def y4Z (t : yuX) : St := ⟨.dead :: .box 1 0 :: .dead :: .own 10000000 :: vI t.1 :: vI t.2.1 :: dd 2 (vI t.2.2.1 :: dd 73 []), [(1, .box [zi t.2.2.2.1, yE t.2.2.2.2.1, zu t.2.2.2.2.2.1, z0 t.2.2.2.2.2.2.1, zW t.2.2.2.2.2.2.2.1, vI t.2.2.2.2.2.2.2.2.1]), (10000000, .root true 63 yg t.2.2.2.2.2.2.2.2.2)]⟩
def yfW : Gk kO := fun κ => ZQ (fun t => κ none ⟨.dead :: .box 1 0 :: vB t.1 :: .own 10000000 :: vI t.2.1 :: vI t.2.2.1 :: dd 76 [], [(1, .box [zi t.2.2.2.1, yE t.2.2.2.2.1, zu t.2.2.2.2.2.1, z0 t.2.2.2.2.2.2.1, zW t.2.2.2.2.2.2.2.1, vI t.2.2.2.2.2.2.2.2.1]), (10000000, .root true 63 yg t.2.2.2.2.2.2.2.2.2)]⟩) (fun t => κ (some 2) ⟨.dead :: .box 1 0 :: .dead :: .own 10000000 :: vI t.1 :: vI t.2.1 :: dd 76 [], [(1, .box [zi t.2.2.1, yE t.2.2.2.1, zu t.2.2.2.2.1, z0 t.2.2.2.2.2.1, zW t.2.2.2.2.2.2.1, vI t.2.2.2.2.2.2.2.1]), (10000000, .root true 63 yg t.2.2.2.2.2.2.2.2)]⟩)
def y7K (t : yjk) : St := ⟨.dead :: .box 1 0 :: .dead :: .own 10000000 :: vI t.1 :: vI t.2.1 :: dd 76 [], [(1, .box [zi t.2.2.1, yE t.2.2.2.1, zu t.2.2.2.2.1, z0 t.2.2.2.2.2.1, zW t.2.2.2.2.2.2.1, vI t.2.2.2.2.2.2.2.1]), (10000000, .root true 63 yg t.2.2.2.2.2.2.2.2)]⟩
def yjF : Gk KZ := fun κ => jI (fun t => κ none ⟨.dead :: .box 1 0 :: vB t.1 :: .dead :: vI t.2.1 :: dd 77 [], [(1, .box [zi t.2.2.1, yE t.2.2.2.1, zu t.2.2.2.2.1, z0 t.2.2.2.2.2.1, zW t.2.2.2.2.2.2.1, vI t.2.2.2.2.2.2.2])]⟩) (fun t => κ (some 0) ⟨.dead :: .box 1 0 :: dd 2 (vI t.1 :: dd 77 []), [(1, .box [zi t.2.1, yE t.2.2.1, zu t.2.2.2.1, z0 t.2.2.2.2.1, zW t.2.2.2.2.2.1, vI t.2.2.2.2.2.2])]⟩)
def yfX : Lp := lpC 4 (unG yns y7K) @yjF (lpC 14 (unG yA1 y4Z) @yfW lpN)
theorem ylo : LF yfV yfX 139 14 Tryz.f139 1 y4Z @yfW fun t => t := fun R κ again t => by kernel_rfl
theorem ylp : LK yfV yfX 139 Tryz.f139 1 := lkN (u := (unG yA1 y4Z)) (yq fun t => by kernel_rfl) ylo
theorem ys2 : LF yfV yfX 139 4 Tryz.f139 0 y7K @yjF fun t => t := fun R κ again t => by kernel_rfl
theorem ys3 : LK yfV yfX 139 Tryz.f139 0 := lkN (u := (unG yns y7K)) (yq fun t => by kernel_rfl) ys2
theorem ywl : EV yfV yfX 139 Tryz.f139 yq5 qz9 [.bool] wC := fun x => by kernel_rfl
def yCZ : QF := ⟨139, wC, okN (n := 2) Tryz.func139 ⟨ys3, ylp, trivial⟩ ywl⟩
abbrev vQ : Type := yhc
def Jn (k0 : yhV → Option R) (k1 : Qz9 → Option R) (again : vQ → Option R) (t2 : vQ) : Option R :=
 bif (decide (t2.1 < (List.length t2.2.2.2.1 : Int))) then if (0 : Int) ≤ t2.1 then if t2.1 < (List.length t2.2.2.2.1 : Int) then bif (decide ((yG t2.2.2.2.1 t2.1).1 ≥ t2.2.2.2.2.2.2)) then k0 (false, t2.2) else again ((Go.IntKind.wrap .i64 (t2.1 + (1 : Int))), t2.2.1, t2.2.2.1, t2.2.2.2.1, t2.2.2.2.2.1, t2.2.2.2.2.2.1, t2.2.2.2.2.2.2) else none else none else k1 t2.2
def QT k0 k1 := zS (@Jn R k0 k1) Y4
def yK (x : Qz9) : Option Bool :=
 QT (fun x1 => some x1.1) (fun x2 => Option.bind (Yt (x2.1, x2.2.1)) fun r3 => Option.bind (bif r3 then Option.bind (Zd x2.2.2.1) fun r5 => some r5 else some false) fun u4 => Option.bind (bif u4 then Option.bind (ZB x2.2.2.2.1) fun r7 => some r7 else some false) fun u6 => Option.bind (bif u6 then Option.bind (yB (x2.2.2.2.2.2, (1 : Int), (61 : Int))) fun r9 => some r9 else some false) fun u8 => Option.bind (bif u8 then Option.bind (wB x2) fun r11 => some r11 else some false) fun u10 => Option.bind (bif u10 then Option.bind (wC x2) fun r13 => some r13 else some false) fun u12 => some u12) ((0 : Int), x.1, x.2.1, x.2.2.1, x.2.2.2.1, x.2.2.2.2.1, x.2.2.2.2.2)
def ylq : List QF := [y7p, yBR, ywd, ywf, yCW, yCZ]
def y7L (t : yhc) : St := ⟨.dead :: .box 1 0 :: .dead :: vI t.1 :: dd 42 [], [(1, .box [zi t.2.1, yE t.2.2.1, zu t.2.2.2.1, z0 t.2.2.2.2.1, zW t.2.2.2.2.2.1, vI t.2.2.2.2.2.2])]⟩
def yjG : Gk vQ := fun κ => Jn (fun t => κ none ⟨.dead :: .box 1 0 :: vB t.1 :: dd 43 [], [(1, .box [zi t.2.1, yE t.2.2.1, zu t.2.2.2.1, z0 t.2.2.2.2.1, zW t.2.2.2.2.2.1, vI t.2.2.2.2.2.2])]⟩) (fun t => κ (some 0) ⟨.dead :: .box 1 0 :: dd 44 [], [(1, .box [zi t.1, yE t.2.1, zu t.2.2.1, z0 t.2.2.2.1, zW t.2.2.2.2.1, vI t.2.2.2.2.2])]⟩)
def ylr : Lp := lpC 2 (unG ynr y7L) @yjG lpN
theorem ys4 : LF ylq ylr 108 2 Tryz.f108 0 y7L @yjG fun t => t := fun R κ again t => by kernel_rfl
theorem ys5 : LK ylq ylr 108 Tryz.f108 0 := lkN (u := (unG ynr y7L)) (yq fun t => by kernel_rfl) ys4
theorem ywm : EV ylq ylr 108 Tryz.f108 yq6 qz9 [.bool] yK := fun x => by kernel_rfl
def yls : QF := ⟨108, yK, okN (n := 1) Tryz.func108 ⟨ys5, trivial⟩ ywm⟩
abbrev vR : Type := yjj ⊕ ykG
def YX (k0 : Unit → Option R) (k1 : List ya → Option R) (again : vR → Option R) : vR → Option R
 | .inl t3 => bif (decide (t3.1 < (List.length t3.2 : Int))) then if (0 : Int) ≤ t3.1 then if t3.1 < (List.length t3.2 : Int) then if (List.length ([] : List y7) + List.length (yn t3.2 t3.1)) * 40 < 140737488355328 then if List.length ([(([] : List y7) ++ (yn t3.2 t3.1))] : List ya) * 24 < 140737488355328 then again (Sum.inr ((Go.IntKind.wrap .i64 (t3.1 + (1 : Int))), t3.2, ([(([] : List y7) ++ (yn t3.2 t3.1))] : List ya))) else none else none else none else none else k0 ()
 | .inr t3 => bif (decide (t3.1 < (List.length t3.2.1 : Int))) then if (0 : Int) ≤ t3.1 then if t3.1 < (List.length t3.2.1 : Int) then if (List.length ([] : List y7) + List.length (yn t3.2.1 t3.1)) * 40 < 140737488355328 then if (List.length t3.2.2 + List.length ([(([] : List y7) ++ (yn t3.2.1 t3.1))] : List ya)) * 24 < 140737488355328 then again (Sum.inr ((Go.IntKind.wrap .i64 (t3.1 + (1 : Int))), t3.2.1, (t3.2.2 ++ ([(([] : List y7) ++ (yn t3.2.1 t3.1))] : List ya)))) else none else none else none else none else k1 t3.2.2
def QU k0 k1 := zS (@YX R k0 k1) Y4
def zo (x : List ya) : Option (List ya) :=
 QU (fun x1 => some ([] : List ya)) (fun x2 => some x2) (Sum.inl ((0 : Int), x))
def yfY : List QF := []
def y4b (t : yjj) : St := ⟨.dead :: .box 1 0 :: .box 2 0 :: .box 3 0 :: vI t.1 :: dd 21 [], [(1, .box [Yv t.2]), (2, .box [.nils]), (3, .box [.nils])]⟩
theorem yi1 : ∀ s t, unG yug y4b s = some t → y4b t = s := yq fun t => by kernel_rfl
def y4c (t : ykG) : St := ⟨.dead :: .box 1 0 :: .box 2 0 :: .box 3 0 :: vI t.1 :: dd 21 [], [(1, .box [Yv t.2.1]), (2, .box [.nils]), (3, .box [.own 10000000]), (10000000, .root true 58 yp t.2.2)]⟩
theorem yi2 : ∀ s t, unG yul y4c s = some t → y4c t = s := yq fun t => by kernel_rfl
def y4d : (yjj ⊕ ykG) → St := Sum.elim y4b y4c
def y7M (s : St) : Option (yjj ⊕ ykG) := ((unG yug y4b s).map Sum.inl).or (((unG yul y4c) s).map Sum.inr)
theorem yi3 : ∀ s t, y7M s = some t → y4d t = s := y9V yi1 yi2
def yd9 : Gk vR := fun κ => YX (fun t => κ (some 0) ⟨dd 2 (.box 2 0 :: .box 3 0 :: dd 22 []), [(2, .box [.nils]), (3, .box [.nils])]⟩) (fun t => κ (some 0) ⟨dd 2 (.box 2 0 :: .box 3 0 :: dd 22 []), [(2, .box [.nils]), (3, .box [.own 10000000]), (10000000, .root true 58 yp t)]⟩)
def yfZ : Lp := lpC 3 y7M @yd9 lpN
theorem yi4 : LF yfY yfZ 165 3 Tryz.f165 0 y4d @yd9 fun v : yjj => .inl v := fun R κ again v => by kernel_rfl
theorem yi5 : LF yfY yfZ 165 3 Tryz.f165 0 y4d @yd9 fun v : ykG => .inr v := fun R κ again v => by kernel_rfl
theorem ys6 : LF yfY yfZ 165 3 Tryz.f165 0 y4d @yd9 fun t => t := (LC.sum yi4 yi5)
theorem ys7 : LK yfY yfZ 165 Tryz.f165 0 := lkN (u := y7M) yi3 ys6
theorem ywn : EV yfY yfZ 165 Tryz.f165 yq7 [(.sl 58 yp)] [(.sl 58 yp)] zo := fun x => by kernel_rfl
def yBS : QF := ⟨165, zo, okN (n := 1) Tryz.func165 ⟨ys7, trivial⟩ ywn⟩
abbrev vT : Type := ynX ⊕ ykH
def YY (k0 : List yb → Option R) (k1 : Qz8 → Option R) (again : vT → Option R) : vT → Option R
 | .inl t3 => bif (decide (t3.1 < (List.length t3.2.2.1 : Int))) then if (0 : Int) ≤ t3.1 then if t3.1 < (List.length t3.2.2.1 : Int) then Option.bind (zo (ye t3.2.2.1 t3.1)) fun r1 => if List.length ([r1] : List y0) * 24 < 140737488355328 then again (Sum.inr ((Go.IntKind.wrap .i64 (t3.1 + (1 : Int))), t3.2.1, t3.2.2.1, t3.2.2.2, ([r1] : List y0))) else none else none else none else k0 t3.2.2.2
 | .inr t3 => bif (decide (t3.1 < (List.length t3.2.2.1 : Int))) then if (0 : Int) ≤ t3.1 then if t3.1 < (List.length t3.2.2.1 : Int) then Option.bind (zo (ye t3.2.2.1 t3.1)) fun r2 => if (List.length t3.2.2.2.2 + List.length ([r2] : List y0)) * 24 < 140737488355328 then again (Sum.inr ((Go.IntKind.wrap .i64 (t3.1 + (1 : Int))), t3.2.1, t3.2.2.1, t3.2.2.2.1, (t3.2.2.2.2 ++ ([r2] : List y0)))) else none else none else none else k1 t3.2.2.2
def QV k0 k1 := zS (@YY R k0 k1) Y4
def Zf (x : Qz8) : Option Qz8 :=
 if (List.length ([] : List yb) + List.length x.1) * 8 < 140737488355328 then QV (fun x3 => some (x3, ([] : List y0))) (fun x4 => some x4) (Sum.inl ((0 : Int), x.1, x.2, (([] : List yb) ++ x.1))) else none
def yg0 : List QF := [yBS]
def y4e (t : ynX) : St := ⟨.dead :: .box 1 0 :: .box 2 0 :: .box 3 0 :: vI t.1 :: dd 24 [], [(1, .box [zi t.2.1, yE t.2.2.1]), (2, .box [.nils, .nils]), (3, .box [.own 10000000, .nils]), (10000000, .root true 3 yd t.2.2.2)]⟩
theorem yi6 : ∀ s t, unG yA2 y4e s = some t → y4e t = s := yq fun t => by kernel_rfl
def y4f (t : ykH) : St := ⟨.dead :: .box 1 0 :: .box 2 0 :: .box 3 0 :: vI t.1 :: dd 24 [], [(1, .box [zi t.2.1, yE t.2.2.1]), (2, .box [.nils, .nils]), (3, .box [.own 10000000, .own 10000001]), (10000000, .root true 3 yd t.2.2.2.1), (10000001, .root true 99 yl t.2.2.2.2)]⟩
theorem yi7 : ∀ s t, unG yum y4f s = some t → y4f t = s := yq fun t => by kernel_rfl
def y4g : (ynX ⊕ ykH) → St := Sum.elim y4e y4f
def y7N (s : St) : Option (ynX ⊕ ykH) := ((unG yA2 y4e s).map Sum.inl).or (((unG yum y4f) s).map Sum.inr)
theorem yi8 : ∀ s t, y7N s = some t → y4g t = s := y9V yi6 yi7
def yda : Gk vT := fun κ => YY (fun t => κ (some 0) ⟨dd 2 (.box 2 0 :: .box 3 0 :: dd 25 []), [(2, .box [.nils, .nils]), (3, .box [.own 10000000, .nils]), (10000000, .root true 3 yd t)]⟩) (fun t => κ (some 0) ⟨dd 2 (.box 2 0 :: .box 3 0 :: dd 25 []), [(2, .box [.nils, .nils]), (3, .box [.own 10000000, .own 10000001]), (10000000, .root true 3 yd t.1), (10000001, .root true 99 yl t.2)]⟩)
def yg1 : Lp := lpC 3 y7N @yda lpN
theorem yi9 : LF yg0 yg1 140 3 Tryz.f140 0 y4g @yda fun v : ynX => .inl v := fun R κ again v => by kernel_rfl
theorem yia : LF yg0 yg1 140 3 Tryz.f140 0 y4g @yda fun v : ykH => .inr v := fun R κ again v => by kernel_rfl
theorem ys8 : LF yg0 yg1 140 3 Tryz.f140 0 y4g @yda fun t => t := (LC.sum yi9 yia)
theorem ys9 : LK yg0 yg1 140 Tryz.f140 0 := lkN (u := y7N) yi8 ys8
theorem ywo : EV yg0 yg1 140 Tryz.f140 yq8 qz8 qz8 Zf := fun x => by kernel_rfl
def ywp : QF := ⟨140, Zf, okN (n := 1) Tryz.func140 ⟨ys9, trivial⟩ ywo⟩
def Y8 (x : List y8) : Option (List y8) :=
 if (List.length ([] : List y8) + List.length x) * 24 < 140737488355328 then some (([] : List y8) ++ x) else none
theorem ywq : EV [] lpN 141 Tryz.f141 yq9 [(.sl 53 yj)] [(.sl 53 yj)] Y8 := fun x => by kernel_rfl
def ywr : QF := ⟨141, Y8, okN (n := 0) Tryz.func141 trivial ywq⟩
def ym (x : Qz9) : Option Qz9 :=
 Option.bind (Zf (x.1, x.2.1)) fun r1 => if (List.length ([] : List y9) + List.length x.2.2.1) * 16 < 140737488355328 then Option.bind (Y8 x.2.2.2.1) fun r2 => if (List.length ([] : List yh) + List.length x.2.2.2.2.1) * 40 < 140737488355328 then some (r1.1, r1.2, (([] : List y9) ++ x.2.2.1), r2, (([] : List yh) ++ x.2.2.2.2.1), x.2.2.2.2.2) else none else none
theorem yws : EV [ywp, ywr] lpN 109 Tryz.f109 yqa qz9 qz9 ym := fun x => by kernel_rfl
def yg2 : QF := ⟨109, ym, okN (n := 0) Tryz.func109 trivial yws⟩
def ZC (x : yun) : Option Int :=
 Option.bind (yK (x.1, x.2.1, x.2.2.1, x.2.2.2.1, x.2.2.2.2.1, x.2.2.2.2.2.1)) fun r1 => Option.bind (bif (!r1) then some true else Option.bind (Ys x.2.2.2.2.2.2) fun r3 => some (!r3)) fun u2 => bif u2 then some (1 : Int) else some (0 : Int)
theorem ywt : EV [yls, yuz] lpN 142 Tryz.f142 yqb yuo [(.int .i64)] ZC := fun x => by kernel_rfl
def ywu : QF := ⟨142, ZC, okN (n := 0) Tryz.func142 trivial ywt⟩
abbrev VQ : Type := yA3
def wD (k0 : Int → Option R) (k1 : Unit → Option R) (again : VQ → Option R) (t2 : VQ) : Option R :=
 bif (decide (t2.2.1 < (List.length t2.2.2.2.2.2.2.1 : Int))) then if (0 : Int) ≤ t2.2.1 then if t2.2.1 < (List.length t2.2.2.2.2.2.2.1 : Int) then bif ((ByteArray.toList ((yi t2.2.2.2.2.2.2.1 t2.2.1).1)) == (ByteArray.toList t2.1)) then k0 t2.2.1 else again (t2.1, (Go.IntKind.wrap .i64 (t2.2.1 + (1 : Int))), t2.2.2.1, t2.2.2.2.1, t2.2.2.2.2.1, t2.2.2.2.2.2.1, t2.2.2.2.2.2.2.1, t2.2.2.2.2.2.2.2) else none else none else k1 ()
def y1h k0 k1 := zS (@wD R k0 k1) Y4
def zw (x : yun) : Option Int :=
 y1h (fun x1 => some x1) (fun x2 => some (-1 : Int)) (x.2.2.2.2.2.2, (0 : Int), x.1, x.2.1, x.2.2.1, x.2.2.2.1, x.2.2.2.2.1, x.2.2.2.2.2.1)
def ylt : List QF := []
def y7O (t : yA3) : St := ⟨.dead :: vS t.1 :: .box 2 0 :: dd 2 (vI t.2.1 :: dd 16 []), [(2, .box [zi t.2.2.1, yE t.2.2.2.1, zu t.2.2.2.2.1, z0 t.2.2.2.2.2.1, zW t.2.2.2.2.2.2.1, vI t.2.2.2.2.2.2.2])]⟩
def yjH : Gk VQ := fun κ => wD (fun t => κ none ⟨dd 4 (vI t :: dd 17 []), []⟩) (fun t => κ (some 0) ⟨dd 22 [], []⟩)
def ylu : Lp := lpC 2 (unG yA4 y7O) @yjH lpN
theorem ysa : LF ylt ylu 143 2 Tryz.f143 0 y7O @yjH fun t => t := fun R κ again t => by kernel_rfl
theorem ysb : LK ylt ylu 143 Tryz.f143 0 := lkN (u := (unG yA4 y7O)) (yq fun t => by kernel_rfl) ysa
theorem ywv : EV ylt ylu 143 Tryz.f143 yqc yuo [(.int .i64)] zw := fun x => by kernel_rfl
def yjI : QF := ⟨143, zw, okN (n := 1) Tryz.func143 ⟨ysb, trivial⟩ ywv⟩
abbrev WF : Type := yA5
def WG (k0 : yCk → Option R) (again : WF → Option R) (t4 : WF) : Option R :=
 bif (decide (t4.2.2.2.2.1 < (List.length t4.1 : Int))) then Option.bind (bif (!t4.2.2.2.1) then if (0 : Int) ≤ t4.2.2.2.2.1 then if t4.2.2.2.2.1 < (List.length t4.1 : Int) then some (decide ((yG t4.1 t4.2.2.2.2.1).1 > t4.2.1)) else none else none else some false) fun u2 => bif u2 then if (List.length t4.2.2.2.2.2 + List.length ([(t4.2.1, t4.2.2.1)] : List y9)) * 16 < 140737488355328 then if (0 : Int) ≤ t4.2.2.2.2.1 then if t4.2.2.2.2.1 < (List.length t4.1 : Int) then if (List.length (t4.2.2.2.2.2 ++ ([(t4.2.1, t4.2.2.1)] : List y9)) + List.length ([((yG t4.1 t4.2.2.2.2.1).1, (yG t4.1 t4.2.2.2.2.1).2)] : List y9)) * 16 < 140737488355328 then again (t4.1, t4.2.1, t4.2.2.1, true, (Go.IntKind.wrap .i64 (t4.2.2.2.2.1 + (1 : Int))), ((t4.2.2.2.2.2 ++ ([(t4.2.1, t4.2.2.1)] : List y9)) ++ ([((yG t4.1 t4.2.2.2.2.1).1, (yG t4.1 t4.2.2.2.2.1).2)] : List y9))) else none else none else none else none else if (0 : Int) ≤ t4.2.2.2.2.1 then if t4.2.2.2.2.1 < (List.length t4.1 : Int) then if (List.length t4.2.2.2.2.2 + List.length ([((yG t4.1 t4.2.2.2.2.1).1, (yG t4.1 t4.2.2.2.2.1).2)] : List y9)) * 16 < 140737488355328 then again (t4.1, t4.2.1, t4.2.2.1, t4.2.2.2.1, (Go.IntKind.wrap .i64 (t4.2.2.2.2.1 + (1 : Int))), (t4.2.2.2.2.2 ++ ([((yG t4.1 t4.2.2.2.2.1).1, (yG t4.1 t4.2.2.2.2.1).2)] : List y9))) else none else none else none else k0 (t4.1, t4.2.1, t4.2.2.1, t4.2.2.2.1, t4.2.2.2.2.2)
def QW k0 := zS (@WG R k0) Y4
def jt (x : yuT) : Option ynT :=
 Option.bind (zU (x.1, x.2.1)) fun r1 => QW (fun x3 => bif (!x3.2.2.2.1) then if (List.length x3.2.2.2.2 + List.length ([(x3.2.1, x3.2.2.1)] : List y9)) * 16 < 140737488355328 then Option.bind (zU (x3.1, x3.2.1)) fun r4 => Option.bind (bif (decide (r4 ≥ (0 : Int))) then some true else Option.bind (Zd (x3.2.2.2.2 ++ ([(x3.2.1, x3.2.2.1)] : List y9))) fun r6 => some (!r6)) fun u5 => bif u5 then if (List.length ([] : List y9) + List.length x3.1) * 16 < 140737488355328 then some ((([] : List y9) ++ x3.1), false) else none else some ((x3.2.2.2.2 ++ ([(x3.2.1, x3.2.2.1)] : List y9)), true) else none else Option.bind (zU (x3.1, x3.2.1)) fun r7 => Option.bind (bif (decide (r7 ≥ (0 : Int))) then some true else Option.bind (Zd x3.2.2.2.2) fun r9 => some (!r9)) fun u8 => bif u8 then if (List.length ([] : List y9) + List.length x3.1) * 16 < 140737488355328 then some ((([] : List y9) ++ x3.1), false) else none else some (x3.2.2.2.2, true)) (x.1, x.2.1, x.2.2, (decide (r1 ≥ (0 : Int))), (0 : Int), ([] : List y9))
def ylv : List QF := [ywd, ynv]
def y7P (t : yA5) : St := ⟨zu t.1 :: vI t.2.1 :: vI t.2.2.1 :: dd 5 (.own 10000000 :: vB t.2.2.2.1 :: vI t.2.2.2.2.1 :: dd 56 []), [(10000000, .root true 67 yo t.2.2.2.2.2)]⟩
def yjJ : Gk WF := fun κ => WG (fun t => κ (some 0) ⟨zu t.1 :: vI t.2.1 :: vI t.2.2.1 :: dd 5 (.own 10000000 :: vB t.2.2.2.1 :: dd 57 []), [(10000000, .root true 67 yo t.2.2.2.2)]⟩)
def ylw : Lp := lpC 4 (unG yA6 y7P) @yjJ lpN
theorem ysc : LF ylv ylw 144 4 Tryz.f144 0 y7P @yjJ fun t => t := fun R κ again t => by kernel_rfl
theorem ysd : LK ylv ylw 144 Tryz.f144 0 := lkN (u := (unG yA6 y7P)) (yq fun t => by kernel_rfl) ysc
theorem yww : EV ylv ylw 144 Tryz.f144 yqd yuU yuV jt := fun x => by kernel_rfl
def yBT : QF := ⟨144, jt, okN (n := 1) Tryz.func144 ⟨ysd, trivial⟩ yww⟩
abbrev J8 : Type := yuY
def J9 (k0 : yuY → Option R) (again : J8 → Option R) (t3 : J8) : Option R :=
 Option.bind (bif (decide (t3.1 > (0 : Int))) then if (0 : Int) ≤ (Go.IntKind.wrap .i64 (t3.1 - (1 : Int))) then if (Go.IntKind.wrap .i64 (t3.1 - (1 : Int))) < (List.length t3.2.2.2.2.2 : Int) then some (!(Go.Op.bytesLess (ByteArray.toList ((yi t3.2.2.2.2.2 (Go.IntKind.wrap .i64 (t3.1 - (1 : Int)))).1)) (ByteArray.toList t3.2.1) || (ByteArray.toList ((yi t3.2.2.2.2.2 (Go.IntKind.wrap .i64 (t3.1 - (1 : Int)))).1)) == (ByteArray.toList t3.2.1))) else none else none else some false) fun u1 => bif u1 then if (0 : Int) ≤ (Go.IntKind.wrap .i64 (t3.1 - (1 : Int))) then if (Go.IntKind.wrap .i64 (t3.1 - (1 : Int))) < (List.length t3.2.2.2.2.2 : Int) then if (0 : Int) ≤ t3.1 then if t3.1 < (List.length t3.2.2.2.2.2 : Int) then again ((Go.IntKind.wrap .i64 (t3.1 - (1 : Int))), t3.2.1, t3.2.2.1, t3.2.2.2.1, t3.2.2.2.2.1, (List.set t3.2.2.2.2.2 (Int.toNat t3.1) ((yi t3.2.2.2.2.2 (Go.IntKind.wrap .i64 (t3.1 - (1 : Int)))).1, (yi t3.2.2.2.2.2 (Go.IntKind.wrap .i64 (t3.1 - (1 : Int)))).2.1, (yi t3.2.2.2.2.2 (Go.IntKind.wrap .i64 (t3.1 - (1 : Int)))).2.2.1, (yi t3.2.2.2.2.2 (Go.IntKind.wrap .i64 (t3.1 - (1 : Int)))).2.2.2))) else none else none else none else none else k0 t3
def VC k0 := zS (@J9 R k0) Y4
def Z7 (x : yuZ) : Option (List yh) :=
 if (List.length ([] : List yh) + List.length x.1) * 40 < 140737488355328 then if (List.length (([] : List yh) ++ x.1) + List.length ([x.2] : List yh)) * 40 < 140737488355328 then VC (fun x2 => if (0 : Int) ≤ x2.1 then if x2.1 < (List.length x2.2.2.2.2.2 : Int) then some (List.set x2.2.2.2.2.2 (Int.toNat x2.1) (x2.2.1, x2.2.2.1, x2.2.2.2.1, x2.2.2.2.2.1)) else none else none) ((Go.IntKind.wrap .i64 (((List.length ((([] : List yh) ++ x.1) ++ ([x.2] : List yh)) : Nat) : Int) - (1 : Int))), x.2.1, x.2.2.1, x.2.2.2.1, x.2.2.2.2, ((([] : List yh) ++ x.1) ++ ([x.2] : List yh))) else none else none
def ylx : List QF := []
def y7Q (t : yuY) : St := ⟨dd 3 (.box 3 0 :: .dead :: .own 10000000 :: vI t.1 :: dd 37 []), [(3, .box [vS t.2.1, vI t.2.2.1, vI t.2.2.2.1, vB t.2.2.2.2.1]), (10000000, .root true 41 yO t.2.2.2.2.2)]⟩
def yjK : Gk J8 := fun κ => J9 (fun t => κ (some 0) ⟨dd 3 (.box 3 0 :: .dead :: .own 10000000 :: vI t.1 :: dd 37 []), [(3, .box [vS t.2.1, vI t.2.2.1, vI t.2.2.2.1, vB t.2.2.2.2.1]), (10000000, .root true 41 yO t.2.2.2.2.2)]⟩)
def yly : Lp := lpC 3 (unG yA7 y7Q) @yjK lpN
theorem yse : LF ylx yly 145 3 Tryz.f145 0 y7Q @yjK fun t => t := fun R κ again t => by kernel_rfl
theorem ysf : LK ylx yly 145 Tryz.f145 0 := lkN (u := (unG yA7 y7Q)) (yq fun t => by kernel_rfl) yse
theorem ywx : EV ylx yly 145 Tryz.f145 yqe yv0 [(.sl 41 yO)] Z7 := fun x => by kernel_rfl
def yBU : QF := ⟨145, Z7, okN (n := 1) Tryz.func145 ⟨ysf, trivial⟩ ywx⟩
def yU (x : yCl) : Option yby :=
 Option.bind (bif (!x.2.2.2.2.2.2.2.2.2.2.2.2) then some true else Option.bind (yK (x.2.2.2.2.2.2.1, x.2.2.2.2.2.2.2.1, x.2.2.2.2.2.2.2.2.1, x.2.2.2.2.2.2.2.2.2.1, x.2.2.2.2.2.2.2.2.2.2.1, x.2.2.2.2.2.2.2.2.2.2.2.1)) fun r2 => some (!r2)) fun u1 => bif u1 then Option.bind (ym (x.1, x.2.1, x.2.2.1, x.2.2.2.1, x.2.2.2.2.1, x.2.2.2.2.2.1)) fun r3 => some (r3.1, r3.2.1, r3.2.2.1, r3.2.2.2.1, r3.2.2.2.2.1, r3.2.2.2.2.2, (6 : Int)) else some (x.2.2.2.2.2.2.1, x.2.2.2.2.2.2.2.1, x.2.2.2.2.2.2.2.2.1, x.2.2.2.2.2.2.2.2.2.1, x.2.2.2.2.2.2.2.2.2.2.1, x.2.2.2.2.2.2.2.2.2.2.2.1, (0 : Int))
theorem ywy : EV [yls, yg2] lpN 146 Tryz.f146 yqf yCm ybz yU := fun x => by kernel_rfl
def ynw : QF := ⟨146, yU, okN (n := 0) Tryz.func146 trivial ywy⟩
def w5 (x : yup) : Option yby :=
 Option.bind (ZC (x.1, x.2.1, x.2.2.1, x.2.2.2.1, x.2.2.2.2.1, x.2.2.2.2.2.1, x.2.2.2.2.2.2.1)) fun r1 => bif (r1 != (0 : Int)) then Option.bind (ym (x.1, x.2.1, x.2.2.1, x.2.2.2.1, x.2.2.2.2.1, x.2.2.2.2.2.1)) fun r2 => some (r2.1, r2.2.1, r2.2.2.1, r2.2.2.2.1, r2.2.2.2.2.1, r2.2.2.2.2.2, r1) else Option.bind (zw (x.1, x.2.1, x.2.2.1, x.2.2.2.1, x.2.2.2.2.1, x.2.2.2.2.2.1, x.2.2.2.2.2.2.1)) fun r3 => bif (decide (r3 ≥ (0 : Int))) then Option.bind (ym (x.1, x.2.1, x.2.2.1, x.2.2.2.1, x.2.2.2.2.1, x.2.2.2.2.2.1)) fun r4 => some (r4.1, r4.2.1, r4.2.2.1, r4.2.2.2.1, r4.2.2.2.2.1, r4.2.2.2.2.2, (3 : Int)) else Option.bind (yB (x.2.2.2.2.2.2.2, (1 : Int), (12 : Int))) fun r5 => bif (!r5) then Option.bind (ym (x.1, x.2.1, x.2.2.1, x.2.2.2.1, x.2.2.2.2.1, x.2.2.2.2.2.1)) fun r6 => some (r6.1, r6.2.1, r6.2.2.1, r6.2.2.2.1, r6.2.2.2.2.1, r6.2.2.2.2.2, (4 : Int)) else Option.bind (ym (x.1, x.2.1, x.2.2.1, x.2.2.2.1, x.2.2.2.2.1, x.2.2.2.2.2.1)) fun r7 => Option.bind (jt (x.2.2.1, x.2.2.2.2.2.1, (0 : Int))) fun r8 => Option.bind (Z7 (x.2.2.2.2.1, x.2.2.2.2.2.2.1, x.2.2.2.2.2.1, x.2.2.2.2.2.2.2, false)) fun r9 => Option.bind (yU (x.1, x.2.1, x.2.2.1, x.2.2.2.1, x.2.2.2.2.1, x.2.2.2.2.2.1, r7.1, r7.2.1, r8.1, r7.2.2.2.1, r9, (Go.IntKind.wrap .i64 (x.2.2.2.2.2.1 + (1 : Int))), r8.2)) fun r10 => some r10
theorem ywz : EV [yg2, y7p, ywu, yjI, yBT, yBU, ynw] lpN 110 Tryz.f110 yqg yuq ybz w5 := fun x => by kernel_rfl
def yD0 : QF := ⟨110, w5, okN (n := 0) Tryz.func110 trivial ywz⟩
def kQ (x : yCn) : Option yby :=
 Option.bind (ZC (x.1, x.2.1, x.2.2.1, x.2.2.2.1, x.2.2.2.2.1, x.2.2.2.2.2.1, x.2.2.2.2.2.2.1)) fun r1 => Option.bind (bif (r1 != (0 : Int)) then some true else Option.bind (Ys x.2.2.2.2.2.2.2.1) fun r3 => some (!r3)) fun u2 => bif u2 then Option.bind (ym (x.1, x.2.1, x.2.2.1, x.2.2.2.1, x.2.2.2.2.1, x.2.2.2.2.2.1)) fun r4 => some (r4.1, r4.2.1, r4.2.2.1, r4.2.2.2.1, r4.2.2.2.2.1, r4.2.2.2.2.2, (1 : Int)) else Option.bind (zw (x.1, x.2.1, x.2.2.1, x.2.2.2.1, x.2.2.2.2.1, x.2.2.2.2.2.1, x.2.2.2.2.2.2.1)) fun r5 => bif (decide (r5 < (0 : Int))) then Option.bind (ym (x.1, x.2.1, x.2.2.1, x.2.2.2.1, x.2.2.2.2.1, x.2.2.2.2.2.1)) fun r6 => some (r6.1, r6.2.1, r6.2.2.1, r6.2.2.2.1, r6.2.2.2.2.1, r6.2.2.2.2.2, (2 : Int)) else Option.bind (zw (x.1, x.2.1, x.2.2.1, x.2.2.2.1, x.2.2.2.2.1, x.2.2.2.2.2.1, x.2.2.2.2.2.2.2.1)) fun r7 => bif (decide (r7 ≥ (0 : Int))) then Option.bind (ym (x.1, x.2.1, x.2.2.1, x.2.2.2.1, x.2.2.2.2.1, x.2.2.2.2.2.1)) fun r8 => some (r8.1, r8.2.1, r8.2.2.1, r8.2.2.2.1, r8.2.2.2.2.1, r8.2.2.2.2.2, (3 : Int)) else Option.bind (ym (x.1, x.2.1, x.2.2.1, x.2.2.2.1, x.2.2.2.2.1, x.2.2.2.2.2.1)) fun r9 => Option.bind (zw (x.1, x.2.1, x.2.2.1, x.2.2.2.1, x.2.2.2.2.1, x.2.2.2.2.2.1, x.2.2.2.2.2.2.1)) fun r10 => if (0 : Int) ≤ r10 then if r10 < (List.length x.2.2.2.2.1 : Int) then Option.bind (jt (x.2.2.1, x.2.2.2.2.2.1, (yi x.2.2.2.2.1 r10).2.1)) fun r11 => if (0 : Int) ≤ r10 then if r10 < (List.length x.2.2.2.2.1 : Int) then Option.bind (jt (r11.1, (Go.IntKind.wrap .i64 (x.2.2.2.2.2.1 + (1 : Int))), (yi x.2.2.2.2.1 r10).2.1)) fun r12 => if (0 : Int) ≤ r10 then if r10 < (List.length r9.2.2.2.2.1 : Int) then if (0 : Int) ≤ r10 then if r10 < (List.length x.2.2.2.2.1 : Int) then Option.bind (Z7 ((List.set r9.2.2.2.2.1 (Int.toNat r10) ((yi r9.2.2.2.2.1 r10).1, x.2.2.2.2.2.1, (yi r9.2.2.2.2.1 r10).2.2)), x.2.2.2.2.2.2.2.1, (Go.IntKind.wrap .i64 (x.2.2.2.2.2.1 + (1 : Int))), (yi x.2.2.2.2.1 r10).2.2.1, x.2.2.2.2.2.2.2.2)) fun r13 => Option.bind (bif r11.2 then some r12.2 else some false) fun u14 => Option.bind (yU (x.1, x.2.1, x.2.2.1, x.2.2.2.1, x.2.2.2.2.1, x.2.2.2.2.2.1, r9.1, r9.2.1, r12.1, r9.2.2.2.1, r13, (Go.IntKind.wrap .i64 (x.2.2.2.2.2.1 + (2 : Int))), u14)) fun r15 => some r15 else none else none else none else none else none else none else none else none
theorem ywA : EV [yg2, yuz, ywu, yjI, yBT, yBU, ynw] lpN 111 Tryz.f111 yqh yCo ybz kQ := fun x => by kernel_rfl
def yD1 : QF := ⟨111, kQ, okN (n := 0) Tryz.func111 trivial ywA⟩
def w6 (x : yun) : Option Int :=
 Option.bind (ZC x) fun r1 => Option.bind (bif (r1 == (0 : Int)) then Option.bind (zw x) fun r3 => some (decide (r3 < (0 : Int))) else some false) fun u2 => bif u2 then some (2 : Int) else some r1
theorem ywB : EV [ywu, yjI] lpN 147 Tryz.f147 yqi yuo [(.int .i64)] w6 := fun x => by kernel_rfl
def yBV : QF := ⟨147, w6, okN (n := 0) Tryz.func147 trivial ywB⟩
def kR (x : yun) : Option yby :=
 Option.bind (ym (x.1, x.2.1, x.2.2.1, x.2.2.2.1, x.2.2.2.2.1, x.2.2.2.2.2.1)) fun r1 => Option.bind (w6 x) fun r2 => bif (r2 != (0 : Int)) then some (r1.1, r1.2.1, r1.2.2.1, r1.2.2.2.1, r1.2.2.2.2.1, r1.2.2.2.2.2, r2) else Option.bind (zw x) fun r3 => if (0 : Int) ≤ (0 : Int) then if (0 : Int) ≤ r3 then if r3 ≤ (List.length x.2.2.2.2.1 : Int) then if (List.length ([] : List yh) + List.length (List.drop (Int.toNat (0 : Int)) (List.take (Int.toNat r3) x.2.2.2.2.1))) * 40 < 140737488355328 then if (0 : Int) ≤ (Go.IntKind.wrap .i64 (r3 + (1 : Int))) then if (Go.IntKind.wrap .i64 (r3 + (1 : Int))) ≤ (List.length x.2.2.2.2.1 : Int) then if (List.length x.2.2.2.2.1 : Int) ≤ (List.length x.2.2.2.2.1 : Int) then if (List.length (([] : List yh) ++ (List.drop (Int.toNat (0 : Int)) (List.take (Int.toNat r3) x.2.2.2.2.1))) + List.length (List.drop (Int.toNat (Go.IntKind.wrap .i64 (r3 + (1 : Int)))) (List.take (Int.toNat (List.length x.2.2.2.2.1 : Int)) x.2.2.2.2.1))) * 40 < 140737488355328 then Option.bind (yU (x.1, x.2.1, x.2.2.1, x.2.2.2.1, x.2.2.2.2.1, x.2.2.2.2.2.1, r1.1, r1.2.1, r1.2.2.1, r1.2.2.2.1, ((([] : List yh) ++ (List.drop (Int.toNat (0 : Int)) (List.take (Int.toNat r3) x.2.2.2.2.1))) ++ (List.drop (Int.toNat (Go.IntKind.wrap .i64 (r3 + (1 : Int)))) (List.take (Int.toNat (List.length x.2.2.2.2.1 : Int)) x.2.2.2.2.1))), r1.2.2.2.2.2, true)) fun r4 => some r4 else none else none else none else none else none else none else none else none
theorem ywC : EV [yg2, yjI, ynw, yBV] lpN 112 Tryz.f112 yqj yuo ybz kR := fun x => by kernel_rfl
def yD2 : QF := ⟨112, kR, okN (n := 0) Tryz.func112 trivial ywC⟩
def YZ (x : yup) : Option Int :=
 Option.bind (w6 (x.1, x.2.1, x.2.2.1, x.2.2.2.1, x.2.2.2.2.1, x.2.2.2.2.2.1, x.2.2.2.2.2.2.1)) fun r1 => bif (r1 != (0 : Int)) then some r1 else Option.bind (zw (x.1, x.2.1, x.2.2.1, x.2.2.2.1, x.2.2.2.2.1, x.2.2.2.2.2.1, x.2.2.2.2.2.2.1)) fun r2 => if (0 : Int) ≤ r2 then if r2 < (List.length x.2.2.2.2.1 : Int) then bif (yi x.2.2.2.2.1 r2).2.2.2 then some (5 : Int) else Option.bind (zw (x.1, x.2.1, x.2.2.1, x.2.2.2.1, x.2.2.2.2.1, x.2.2.2.2.2.1, x.2.2.2.2.2.2.1)) fun r3 => if (0 : Int) ≤ r3 then if r3 < (List.length x.2.2.2.2.1 : Int) then Option.bind (yB (x.2.2.2.2.2.2.2, (0 : Int), (Go.IntKind.wrap .i64 ((yi x.2.2.2.2.1 r3).2.2.1 - (1 : Int))))) fun r4 => bif (!r4) then some (4 : Int) else some (0 : Int) else none else none else none else none
theorem ywD : EV [y7p, yjI, yBV] lpN 148 Tryz.f148 yqk yuq [(.int .i64)] YZ := fun x => by kernel_rfl
def ywE : QF := ⟨148, YZ, okN (n := 0) Tryz.func148 trivial ywD⟩
abbrev w7 : Type := yA8
def zJ (k0 : yCp → Option R) (k1 : List y8 → Option R) (again : w7 → Option R) (t3 : w7) : Option R :=
 Option.bind (bif (decide (t3.2.2.1 < (List.length t3.1 : Int))) then Option.bind (ZB t3.1) fun r3 => some r3 else some false) fun u2 => Option.bind (bif u2 then Option.bind (zy t3.2.1) fun r5 => some r5 else some false) fun u4 => bif u4 then if (0 : Int) ≤ t3.2.2.1 then if t3.2.2.1 < (List.length t3.1 : Int) then bif (!((yA t3.1 t3.2.2.1).2.1)) then if (0 : Int) ≤ t3.2.2.1 then if t3.2.2.1 < (List.length t3.2.2.2 : Int) then if (0 : Int) ≤ t3.2.2.1 then if t3.2.2.1 < ((List.length (List.set t3.2.2.2 (Int.toNat t3.2.2.1) ((yA t3.2.2.2 t3.2.2.1).1, true, (yA t3.2.2.2 t3.2.2.1).2.2)) : Nat) : Int) then k0 (t3.2.2.1, true, (List.set (List.set t3.2.2.2 (Int.toNat t3.2.2.1) ((yA t3.2.2.2 t3.2.2.1).1, true, (yA t3.2.2.2 t3.2.2.1).2.2)) (Int.toNat t3.2.2.1) ((yA (List.set t3.2.2.2 (Int.toNat t3.2.2.1) ((yA t3.2.2.2 t3.2.2.1).1, true, (yA t3.2.2.2 t3.2.2.1).2.2)) t3.2.2.1).1, (yA (List.set t3.2.2.2 (Int.toNat t3.2.2.1) ((yA t3.2.2.2 t3.2.2.1).1, true, (yA t3.2.2.2 t3.2.2.1).2.2)) t3.2.2.1).2.1, t3.2.1))) else none else none else none else none else again (t3.1, t3.2.1, (Go.IntKind.wrap .i64 (t3.2.2.1 + (1 : Int))), t3.2.2.2) else none else none else k1 t3.2.2.2
def kS k0 k1 := zS (@zJ R k0 k1) Y4
def Y9 (x : ynU) : Option yCq :=
 Option.bind (Y8 x.1) fun r1 => kS (fun x6 => some (x6.2.2, x6.1, x6.2.1)) (fun x7 => some (x7, (0 : Int), false)) (x.1, x.2, (0 : Int), r1)
def ylz : List QF := [yuA, ywf, ywr]
def y7R (t : yA8) : St := ⟨z0 t.1 :: vI t.2.1 :: dd 5 (.own 10000000 :: vI t.2.2.1 :: dd 34 []), [(10000000, .root true 53 yj t.2.2.2)]⟩
def yjL : Gk w7 := fun κ => zJ (fun t => κ none ⟨dd 4 (.own 10000000 :: vI t.1 :: vB t.2.1 :: .own 10000000 :: dd 35 []), [(10000000, .root true 53 yj t.2.2)]⟩) (fun t => κ (some 0) ⟨dd 7 (.own 10000000 :: dd 35 []), [(10000000, .root true 53 yj t)]⟩)
def ylA : Lp := lpC 3 (unG yA9 y7R) @yjL lpN
theorem ysg : LF ylz ylA 149 3 Tryz.f149 0 y7R @yjL fun t => t := fun R κ again t => by kernel_rfl
theorem ysh : LK ylz ylA 149 Tryz.f149 0 := lkN (u := (unG yA9 y7R)) (yq fun t => by kernel_rfl) ysg
theorem ywF : EV ylz ylA 149 Tryz.f149 yql ynV yCr Y9 := fun x => by kernel_rfl
def yBW : QF := ⟨149, Y9, okN (n := 1) Tryz.func149 ⟨ysh, trivial⟩ ywF⟩
abbrev wW : Type := yAa
def wX (k0 : Int → Option R) (again : wW → Option R) (t3 : wW) : Option R :=
 bif (decide (t3.2.2.2.1 < (List.length t3.2.2.2.2.1 : Int))) then if (0 : Int) ≤ t3.2.2.2.1 then if t3.2.2.2.1 < (List.length t3.2.2.2.2.1 : Int) then Option.bind (JX (t3.1, t3.2.1)) fun r1 => bif (decide ((zt t3.2.2.2.2.1 t3.2.2.2.1) ≤ r1)) then again (t3.1, t3.2.1, t3.2.2.2.1, (Go.IntKind.wrap .i64 (t3.2.2.2.1 + (1 : Int))), t3.2.2.2.2.1, t3.2.2.2.2.2) else again (t3.1, t3.2.1, t3.2.2.1, (Go.IntKind.wrap .i64 (t3.2.2.2.1 + (1 : Int))), t3.2.2.2.2.1, t3.2.2.2.2.2) else none else none else k0 t3.2.2.1
def Qp k0 := zS (@wX R k0) Y4
def J0 (x : yur) : Option Int :=
 Qp (fun x2 => some x2) (x.2.2.1, x.2.2.2, (-1 : Int), (0 : Int), x.1, x.2.1)
def ylB : List QF := [yBP]
def y7S (t : yAa) : St := ⟨.dead :: vI t.1 :: vI t.2.1 :: .box 3 0 :: dd 3 (vI t.2.2.1 :: vI t.2.2.2.1 :: dd 18 []), [(3, .box [zi t.2.2.2.2.1, yE t.2.2.2.2.2])]⟩
def yjM : Gk wW := fun κ => wX (fun t => κ (some 0) ⟨dd 7 (vI t :: dd 19 []), []⟩)
def ylC : Lp := lpC 3 (unG yAb y7S) @yjM lpN
theorem ysi : LF ylB ylC 181 3 Tryz.f181 0 y7S @yjM fun t => t := fun R κ again t => by kernel_rfl
theorem ysj : LK ylB ylC 181 Tryz.f181 0 := lkN (u := (unG yAb y7S)) (yq fun t => by kernel_rfl) ysi
theorem ywG : EV ylB ylC 181 Tryz.f181 yqm yus [(.int .i64)] J0 := fun x => by kernel_rfl
def yBX : QF := ⟨181, J0, okN (n := 1) Tryz.func181 ⟨ysj, trivial⟩ ywG⟩
abbrev VR : Type := yAc
def wE (k0 : yut → Option R) (k1 : yh9 → Option R) (again : VR → Option R) (t2 : VR) : Option R :=
 bif (decide (t2.2.2.2.1 < (List.length t2.1 : Int))) then if (0 : Int) ≤ t2.2.2.2.1 then if t2.2.2.2.1 < (List.length t2.1 : Int) then Option.bind (bif ((y6 t2.1 t2.2.2.2.1).1 == t2.2.1) then if (0 : Int) ≤ t2.2.2.2.1 then if t2.2.2.2.1 < (List.length t2.1 : Int) then some ((y6 t2.1 t2.2.2.2.1).2.1 == t2.2.2.1) else none else none else some false) fun u1 => bif u1 then if (0 : Int) ≤ t2.2.2.2.1 then if t2.2.2.2.1 < (List.length t2.1 : Int) then k0 (true, (y6 t2.1 t2.2.2.2.1).1, (y6 t2.1 t2.2.2.2.1).2.1, (y6 t2.1 t2.2.2.2.1).2.2.1, (y6 t2.1 t2.2.2.2.1).2.2.2.1, (y6 t2.1 t2.2.2.2.1).2.2.2.2) else none else none else again (t2.1, t2.2.1, t2.2.2.1, (Go.IntKind.wrap .i64 (t2.2.2.2.1 + (1 : Int))), t2.2.2.2.2.1, t2.2.2.2.2.2.1, t2.2.2.2.2.2.2.1, t2.2.2.2.2.2.2.2.1, t2.2.2.2.2.2.2.2.2) else none else none else k1 t2.2.2.2.2
def y1i k0 k1 := zS (@wE R k0 k1) Y4
def Wi (x : yAe) : Option yeO :=
 y1i (fun x2 => some (x2.2.1, x2.2.2.1, x2.2.2.2.1, x2.2.2.2.2.1, x2.2.2.2.2.2, x2.1)) (fun x3 => some ((0 : Int), (0 : Int), (0 : Int), (0 : Int), (0 : Int), false)) (x.1, x.2.1, x.2.2, (0 : Int), (0 : Int), (0 : Int), (0 : Int), (0 : Int), (0 : Int))
def ylD : List QF := []
def y7T (t : yAc) : St := ⟨qp t.1 :: vI t.2.1 :: vI t.2.2.1 :: dd 3 (.box 6 0 :: .dead :: vI t.2.2.2.1 :: dd 27 []), [(6, .box [vI t.2.2.2.2.1, vI t.2.2.2.2.2.1, vI t.2.2.2.2.2.2.1, vI t.2.2.2.2.2.2.2.1, vI t.2.2.2.2.2.2.2.2])]⟩
def yjN : Gk VR := fun κ => wE (fun t => κ none ⟨dd 6 (.box 6 0 :: vB t.1 :: dd 28 []), [(6, .box [vI t.2.1, vI t.2.2.1, vI t.2.2.2.1, vI t.2.2.2.2.1, vI t.2.2.2.2.2])]⟩) (fun t => κ (some 0) ⟨dd 6 (.box 6 0 :: dd 29 []), [(6, .box [vI t.1, vI t.2.1, vI t.2.2.1, vI t.2.2.2.1, vI t.2.2.2.2])]⟩)
def ylE : Lp := lpC 2 (unG yAd y7T) @yjN lpN
theorem ysk : LF ylD ylE 200 2 Tryz.f200 0 y7T @yjN fun t => t := fun R κ again t => by kernel_rfl
theorem ysl : LK ylD ylE 200 Tryz.f200 0 := lkN (u := (unG yAd y7T)) (yq fun t => by kernel_rfl) ysk
theorem ywH : EV ylD ylE 200 Tryz.f200 yqn yAf yeP Wi := fun x => by kernel_rfl
def yBY : QF := ⟨200, Wi, okN (n := 1) Tryz.func200 ⟨ysl, trivial⟩ ywH⟩
abbrev WH : Type := yuu
def WI (k0 : yut → Option R) (k1 : yh9 → Option R) (again : WH → Option R) (t2 : WH) : Option R :=
 bif (decide (t2.2.2.1 ≥ (0 : Int))) then if (0 : Int) ≤ t2.2.2.1 then if t2.2.2.1 < (List.length t2.2.2.2.1 : Int) then Option.bind (Wi ((yn t2.2.2.2.1 t2.2.2.1), t2.1, t2.2.1)) fun r1 => Option.bind (bif r1.2.2.2.2.2 then some (r1.2.2.1 == (0 : Int)) else some false) fun u2 => bif u2 then k0 (false, (0 : Int), (0 : Int), (0 : Int), (0 : Int), (0 : Int)) else bif r1.2.2.2.2.2 then k0 (true, r1.1, r1.2.1, r1.2.2.1, r1.2.2.2.1, r1.2.2.2.2.1) else again (t2.1, t2.2.1, (Go.IntKind.wrap .i64 (t2.2.2.1 - (1 : Int))), t2.2.2.2.1, t2.2.2.2.2.1, t2.2.2.2.2.2.1, t2.2.2.2.2.2.2.1, t2.2.2.2.2.2.2.2.1, t2.2.2.2.2.2.2.2.2) else none else none else k1 t2.2.2.2.2
def QX k0 k1 := zS (@WI R k0 k1) Y4
def WJ (x : ykI) : Option yeO :=
 QX (fun x3 => some (x3.2.1, x3.2.2.1, x3.2.2.2.1, x3.2.2.2.2.1, x3.2.2.2.2.2, x3.1)) (fun x4 => some ((0 : Int), (0 : Int), (0 : Int), (0 : Int), (0 : Int), false)) (x.2.1, x.2.2, (Go.IntKind.wrap .i64 ((List.length x.1 : Int) - (1 : Int))), x.1, (0 : Int), (0 : Int), (0 : Int), (0 : Int), (0 : Int))
def ylF : List QF := [yBY]
def y7U (t : yuu) : St := ⟨.dead :: vI t.1 :: vI t.2.1 :: .box 3 0 :: dd 2 (.box 6 0 :: .dead :: vI t.2.2.1 :: dd 31 []), [(3, .box [Yv t.2.2.2.1]), (6, .box [vI t.2.2.2.2.1, vI t.2.2.2.2.2.1, vI t.2.2.2.2.2.2.1, vI t.2.2.2.2.2.2.2.1, vI t.2.2.2.2.2.2.2.2])]⟩
def yjO : Gk WH := fun κ => WI (fun t => κ none ⟨dd 6 (.box 6 0 :: vB t.1 :: dd 32 []), [(6, .box [vI t.2.1, vI t.2.2.1, vI t.2.2.2.1, vI t.2.2.2.2.1, vI t.2.2.2.2.2])]⟩) (fun t => κ (some 0) ⟨dd 6 (.box 6 0 :: dd 33 []), [(6, .box [vI t.1, vI t.2.1, vI t.2.2.1, vI t.2.2.2.1, vI t.2.2.2.2])]⟩)
def ylG : Lp := lpC 2 (unG yuv y7U) @yjO lpN
theorem ysm : LF ylF ylG 182 2 Tryz.f182 0 y7U @yjO fun t => t := fun R κ again t => by kernel_rfl
theorem ysn : LK ylF ylG 182 Tryz.f182 0 := lkN (u := (unG yuv y7U)) (yq fun t => by kernel_rfl) ysm
theorem ywI : EV ylF ylG 182 Tryz.f182 yqo yuw yeP WJ := fun x => by kernel_rfl
def yD3 : QF := ⟨182, WJ, okN (n := 1) Tryz.func182 ⟨ysn, trivial⟩ ywI⟩
def ju (x : yur) : Option yeO :=
 Option.bind (J0 x) fun r1 => Option.bind (yB (r1, (0 : Int), (Go.IntKind.wrap .i64 ((List.length x.2.1 : Int) - (1 : Int))))) fun r2 => bif (!r2) then some ((0 : Int), (0 : Int), (0 : Int), (0 : Int), (0 : Int), false) else if (0 : Int) ≤ r1 then if r1 < (List.length x.2.1 : Int) then Option.bind (WJ ((ye x.2.1 r1), x.2.2.1, x.2.2.2)) fun r3 => some r3 else none else none
theorem ywJ : EV [y7p, yBX, yD3] lpN 166 Tryz.f166 yqp yus yeP ju := fun x => by kernel_rfl
def ywK : QF := ⟨166, ju, okN (n := 0) Tryz.func166 trivial ywJ⟩
def yX (x : List y7) : Option (List ya) :=
 bif ((List.length x : Int) == (0 : Int)) then some ([] : List ya) else if (List.length ([] : List y7) + List.length x) * 40 < 140737488355328 then some ([(([] : List y7) ++ x)] : List ya) else none
theorem ywL : EV [] lpN 188 Tryz.f188 yqq [(.sl 63 yg)] [(.sl 58 yp)] yX := fun x => by kernel_rfl
def yuB : QF := ⟨188, yX, okN (n := 0) Tryz.func188 trivial ywL⟩
def wF (x : yv1) : Option yAg :=
 Option.bind (zo x.1) fun r1 => bif (decide ((Go.IntKind.wrap .i64 ((List.length r1 : Int) - (1 : Int))) ≥ (0 : Int))) then if (0 : Int) ≤ (Go.IntKind.wrap .i64 ((List.length r1 : Int) - (1 : Int))) then if (Go.IntKind.wrap .i64 ((List.length r1 : Int) - (1 : Int))) < (List.length r1 : Int) then Option.bind (Wi ((yn r1 (Go.IntKind.wrap .i64 ((List.length r1 : Int) - (1 : Int)))), x.2.1, x.2.2.1)) fun r2 => Option.bind (bif (decide ((Go.IntKind.wrap .i64 ((List.length r1 : Int) - (1 : Int))) ≥ (0 : Int))) then if (0 : Int) ≤ (Go.IntKind.wrap .i64 ((List.length r1 : Int) - (1 : Int))) then if (Go.IntKind.wrap .i64 ((List.length r1 : Int) - (1 : Int))) < (List.length r1 : Int) then Option.bind (bif (decide (((List.length (yn r1 (Go.IntKind.wrap .i64 ((List.length r1 : Int) - (1 : Int)))) : Nat) : Int) < (4 : Int))) then some true else some r2.2.2.2.2.2) fun u4 => some u4 else none else none else some false) fun u3 => bif u3 then if (0 : Int) ≤ (Go.IntKind.wrap .i64 ((List.length r1 : Int) - (1 : Int))) then if (Go.IntKind.wrap .i64 ((List.length r1 : Int) - (1 : Int))) < (List.length r1 : Int) then Option.bind (zI ((yn r1 (Go.IntKind.wrap .i64 ((List.length r1 : Int) - (1 : Int)))), x.2.1, x.2.2.1, x.2.2.2.1, x.2.2.2.2.1, x.2.2.2.2.2)) fun r5 => if (0 : Int) ≤ (Go.IntKind.wrap .i64 ((List.length r1 : Int) - (1 : Int))) then if (Go.IntKind.wrap .i64 ((List.length r1 : Int) - (1 : Int))) < (List.length r1 : Int) then Option.bind (zz (List.set r1 (Int.toNat (Go.IntKind.wrap .i64 ((List.length r1 : Int) - (1 : Int)))) r5)) fun r6 => bif r6 then some ((List.set r1 (Int.toNat (Go.IntKind.wrap .i64 ((List.length r1 : Int) - (1 : Int)))) r5), true) else Option.bind (yC x.1) fun r7 => Option.bind (zI (r7, x.2)) fun r8 => Option.bind (Y7 r8) fun r9 => bif (decide ((List.length r9 : Int) > (8 : Int))) then Option.bind (zo x.1) fun r10 => some (r10, false) else Option.bind (yX r9) fun r11 => Option.bind (zz r11) fun r12 => bif (!r12) then Option.bind (zo x.1) fun r13 => some (r13, false) else Option.bind (yX r9) fun r14 => some (r14, true) else none else none else none else none else if (List.length r1 + List.length ([([x.2] : List y7)] : List ya)) * 24 < 140737488355328 then Option.bind (zz (r1 ++ ([([x.2] : List y7)] : List ya))) fun r15 => bif r15 then some ((r1 ++ ([([x.2] : List y7)] : List ya)), true) else Option.bind (yC x.1) fun r16 => Option.bind (zI (r16, x.2)) fun r17 => Option.bind (Y7 r17) fun r18 => bif (decide ((List.length r18 : Int) > (8 : Int))) then Option.bind (zo x.1) fun r19 => some (r19, false) else Option.bind (yX r18) fun r20 => Option.bind (zz r20) fun r21 => bif (!r21) then Option.bind (zo x.1) fun r22 => some (r22, false) else Option.bind (yX r18) fun r23 => some (r23, true) else none else none else none else Option.bind (bif (decide ((Go.IntKind.wrap .i64 ((List.length r1 : Int) - (1 : Int))) ≥ (0 : Int))) then if (0 : Int) ≤ (Go.IntKind.wrap .i64 ((List.length r1 : Int) - (1 : Int))) then if (Go.IntKind.wrap .i64 ((List.length r1 : Int) - (1 : Int))) < (List.length r1 : Int) then Option.bind (bif (decide (((List.length (yn r1 (Go.IntKind.wrap .i64 ((List.length r1 : Int) - (1 : Int)))) : Nat) : Int) < (4 : Int))) then some true else some false) fun u25 => some u25 else none else none else some false) fun u24 => bif u24 then if (0 : Int) ≤ (Go.IntKind.wrap .i64 ((List.length r1 : Int) - (1 : Int))) then if (Go.IntKind.wrap .i64 ((List.length r1 : Int) - (1 : Int))) < (List.length r1 : Int) then Option.bind (zI ((yn r1 (Go.IntKind.wrap .i64 ((List.length r1 : Int) - (1 : Int)))), x.2.1, x.2.2.1, x.2.2.2.1, x.2.2.2.2.1, x.2.2.2.2.2)) fun r26 => if (0 : Int) ≤ (Go.IntKind.wrap .i64 ((List.length r1 : Int) - (1 : Int))) then if (Go.IntKind.wrap .i64 ((List.length r1 : Int) - (1 : Int))) < (List.length r1 : Int) then Option.bind (zz (List.set r1 (Int.toNat (Go.IntKind.wrap .i64 ((List.length r1 : Int) - (1 : Int)))) r26)) fun r27 => bif r27 then some ((List.set r1 (Int.toNat (Go.IntKind.wrap .i64 ((List.length r1 : Int) - (1 : Int)))) r26), true) else Option.bind (yC x.1) fun r28 => Option.bind (zI (r28, x.2)) fun r29 => Option.bind (Y7 r29) fun r30 => bif (decide ((List.length r30 : Int) > (8 : Int))) then Option.bind (zo x.1) fun r31 => some (r31, false) else Option.bind (yX r30) fun r32 => Option.bind (zz r32) fun r33 => bif (!r33) then Option.bind (zo x.1) fun r34 => some (r34, false) else Option.bind (yX r30) fun r35 => some (r35, true) else none else none else none else none else if (List.length r1 + List.length ([([x.2] : List y7)] : List ya)) * 24 < 140737488355328 then Option.bind (zz (r1 ++ ([([x.2] : List y7)] : List ya))) fun r36 => bif r36 then some ((r1 ++ ([([x.2] : List y7)] : List ya)), true) else Option.bind (yC x.1) fun r37 => Option.bind (zI (r37, x.2)) fun r38 => Option.bind (Y7 r38) fun r39 => bif (decide ((List.length r39 : Int) > (8 : Int))) then Option.bind (zo x.1) fun r40 => some (r40, false) else Option.bind (yX r39) fun r41 => Option.bind (zz r41) fun r42 => bif (!r42) then Option.bind (zo x.1) fun r43 => some (r43, false) else Option.bind (yX r39) fun r44 => some (r44, true) else none
theorem ywM : EV [yBS, yBO, yl8, yw0, yw3, yuB, yBY] lpN 184 Tryz.f184 yqr yv2 yAh wF := fun x => by kernel_rfl
def yD4 : QF := ⟨184, wF, okN (n := 0) Tryz.func184 trivial ywM⟩
def Jo (x : yCs) : Option Qz8 :=
 if (0 : Int) ≤ (0 : Int) then if (0 : Int) ≤ x.2.2.1 then if x.2.2.1 ≤ (List.length x.1 : Int) then if (List.length ([] : List yb) + List.length (List.drop (Int.toNat (0 : Int)) (List.take (Int.toNat x.2.2.1) x.1))) * 8 < 140737488355328 then if (List.length (([] : List yb) ++ (List.drop (Int.toNat (0 : Int)) (List.take (Int.toNat x.2.2.1) x.1))) + List.length x.2.2.2.1) * 8 < 140737488355328 then if (0 : Int) ≤ (Go.IntKind.wrap .i64 (x.2.2.1 + (1 : Int))) then if (Go.IntKind.wrap .i64 (x.2.2.1 + (1 : Int))) ≤ (List.length x.1 : Int) then if (List.length x.1 : Int) ≤ (List.length x.1 : Int) then if (List.length ((([] : List yb) ++ (List.drop (Int.toNat (0 : Int)) (List.take (Int.toNat x.2.2.1) x.1))) ++ x.2.2.2.1) + List.length (List.drop (Int.toNat (Go.IntKind.wrap .i64 (x.2.2.1 + (1 : Int)))) (List.take (Int.toNat (List.length x.1 : Int)) x.1))) * 8 < 140737488355328 then if (0 : Int) ≤ (0 : Int) then if (0 : Int) ≤ x.2.2.1 then if x.2.2.1 ≤ (List.length x.2.1 : Int) then if (List.length ([] : List y0) + List.length (List.drop (Int.toNat (0 : Int)) (List.take (Int.toNat x.2.2.1) x.2.1))) * 24 < 140737488355328 then if (List.length (([] : List y0) ++ (List.drop (Int.toNat (0 : Int)) (List.take (Int.toNat x.2.2.1) x.2.1))) + List.length x.2.2.2.2) * 24 < 140737488355328 then if (0 : Int) ≤ (Go.IntKind.wrap .i64 (x.2.2.1 + (1 : Int))) then if (Go.IntKind.wrap .i64 (x.2.2.1 + (1 : Int))) ≤ (List.length x.2.1 : Int) then if (List.length x.2.1 : Int) ≤ (List.length x.2.1 : Int) then if (List.length ((([] : List y0) ++ (List.drop (Int.toNat (0 : Int)) (List.take (Int.toNat x.2.2.1) x.2.1))) ++ x.2.2.2.2) + List.length (List.drop (Int.toNat (Go.IntKind.wrap .i64 (x.2.2.1 + (1 : Int)))) (List.take (Int.toNat (List.length x.2.1 : Int)) x.2.1))) * 24 < 140737488355328 then some ((((([] : List yb) ++ (List.drop (Int.toNat (0 : Int)) (List.take (Int.toNat x.2.2.1) x.1))) ++ x.2.2.2.1) ++ (List.drop (Int.toNat (Go.IntKind.wrap .i64 (x.2.2.1 + (1 : Int)))) (List.take (Int.toNat (List.length x.1 : Int)) x.1))), (((([] : List y0) ++ (List.drop (Int.toNat (0 : Int)) (List.take (Int.toNat x.2.2.1) x.2.1))) ++ x.2.2.2.2) ++ (List.drop (Int.toNat (Go.IntKind.wrap .i64 (x.2.2.1 + (1 : Int)))) (List.take (Int.toNat (List.length x.2.1 : Int)) x.2.1)))) else none else none else none else none else none else none else none else none else none else none else none else none else none else none else none else none else none else none
theorem ywN : EV [] lpN 185 Tryz.f185 yqs yCt qz8 Jo := fun x => by kernel_rfl
def yD5 : QF := ⟨185, Jo, okN (n := 0) Tryz.func185 trivial ywN⟩
abbrev vU : Type := yaY
def WK (k0 : Int → Option R) (k1 : Unit → Option R) (again : vU → Option R) (t2 : vU) : Option R :=
 bif (decide ((Go.IntKind.wrap .i64 (t2.1 + (1 : Int))) < (List.length t2.2.2 : Int))) then if (0 : Int) ≤ t2.1 then if t2.1 < (List.length t2.2.2 : Int) then Option.bind (yC (ye t2.2.2 t2.1)) fun r1 => if (0 : Int) ≤ (Go.IntKind.wrap .i64 (t2.1 + (1 : Int))) then if (Go.IntKind.wrap .i64 (t2.1 + (1 : Int))) < (List.length t2.2.2 : Int) then Option.bind (yC (ye t2.2.2 (Go.IntKind.wrap .i64 (t2.1 + (1 : Int))))) fun r2 => bif (decide ((Go.IntKind.wrap .i64 ((List.length r1 : Int) + (List.length r2 : Int))) ≤ (6 : Int))) then k0 t2.1 else again ((Go.IntKind.wrap .i64 (t2.1 + (1 : Int))), t2.2.1, t2.2.2) else none else none else none else none else k1 ()
def QY k0 k1 := zS (@WK R k0 k1) Y4
def w8 (x : Qz8) : Option Int :=
 QY (fun x3 => some x3) (fun x4 => some (-1 : Int)) ((0 : Int), x.1, x.2)
def ylH : List QF := [yl8]
def y7V (t : yaY) : St := ⟨.dead :: .box 1 0 :: .dead :: vI t.1 :: dd 26 [], [(1, .box [zi t.2.1, yE t.2.2])]⟩
def yjP : Gk vU := fun κ => WK (fun t => κ none ⟨dd 2 (vI t :: dd 27 []), []⟩) (fun t => κ (some 0) ⟨dd 30 [], []⟩)
def ylI : Lp := lpC 2 (unG yhb y7V) @yjP lpN
theorem yso : LF ylH ylI 203 2 Tryz.f203 0 y7V @yjP fun t => t := fun R κ again t => by kernel_rfl
theorem ysp : LK ylH ylI 203 Tryz.f203 0 := lkN (u := (unG yhb y7V)) (yq fun t => by kernel_rfl) yso
theorem ywO : EV ylH ylI 203 Tryz.f203 yqt qz8 [(.int .i64)] w8 := fun x => by kernel_rfl
def yD6 : QF := ⟨203, w8, okN (n := 1) Tryz.func203 ⟨ysp, trivial⟩ ywO⟩
abbrev vV : Type := yaY
def WL (k0 : Qz8 → Option R) (again : vV → Option R) (t2 : vV) : Option R :=
 bif (decide (t2.1 ≥ (0 : Int))) then if (0 : Int) ≤ t2.1 then if t2.1 < (List.length t2.2.2 : Int) then Option.bind (yC (ye t2.2.2 t2.1)) fun r2 => if (0 : Int) ≤ (Go.IntKind.wrap .i64 (t2.1 + (1 : Int))) then if (Go.IntKind.wrap .i64 (t2.1 + (1 : Int))) < (List.length t2.2.2 : Int) then Option.bind (yC (ye t2.2.2 (Go.IntKind.wrap .i64 (t2.1 + (1 : Int))))) fun r3 => if (List.length r2 + List.length r3) * 40 < 140737488355328 then if (0 : Int) ≤ (0 : Int) then if (0 : Int) ≤ (Go.IntKind.wrap .i64 (t2.1 + (1 : Int))) then if (Go.IntKind.wrap .i64 (t2.1 + (1 : Int))) ≤ (List.length t2.2.1 : Int) then if (List.length ([] : List yb) + List.length (List.drop (Int.toNat (0 : Int)) (List.take (Int.toNat (Go.IntKind.wrap .i64 (t2.1 + (1 : Int)))) t2.2.1))) * 8 < 140737488355328 then if (0 : Int) ≤ (Go.IntKind.wrap .i64 (t2.1 + (2 : Int))) then if (Go.IntKind.wrap .i64 (t2.1 + (2 : Int))) ≤ (List.length t2.2.1 : Int) then if (List.length t2.2.1 : Int) ≤ (List.length t2.2.1 : Int) then if (List.length (([] : List yb) ++ (List.drop (Int.toNat (0 : Int)) (List.take (Int.toNat (Go.IntKind.wrap .i64 (t2.1 + (1 : Int)))) t2.2.1))) + List.length (List.drop (Int.toNat (Go.IntKind.wrap .i64 (t2.1 + (2 : Int)))) (List.take (Int.toNat (List.length t2.2.1 : Int)) t2.2.1))) * 8 < 140737488355328 then if (0 : Int) ≤ (0 : Int) then if (0 : Int) ≤ t2.1 then if t2.1 ≤ (List.length t2.2.2 : Int) then if (List.length ([] : List y0) + List.length (List.drop (Int.toNat (0 : Int)) (List.take (Int.toNat t2.1) t2.2.2))) * 24 < 140737488355328 then Option.bind (yX (r2 ++ r3)) fun r4 => if (List.length (([] : List y0) ++ (List.drop (Int.toNat (0 : Int)) (List.take (Int.toNat t2.1) t2.2.2))) + List.length ([r4] : List y0)) * 24 < 140737488355328 then if (0 : Int) ≤ (Go.IntKind.wrap .i64 (t2.1 + (2 : Int))) then if (Go.IntKind.wrap .i64 (t2.1 + (2 : Int))) ≤ (List.length t2.2.2 : Int) then if (List.length t2.2.2 : Int) ≤ (List.length t2.2.2 : Int) then if (List.length ((([] : List y0) ++ (List.drop (Int.toNat (0 : Int)) (List.take (Int.toNat t2.1) t2.2.2))) ++ ([r4] : List y0)) + List.length (List.drop (Int.toNat (Go.IntKind.wrap .i64 (t2.1 + (2 : Int)))) (List.take (Int.toNat (List.length t2.2.2 : Int)) t2.2.2))) * 24 < 140737488355328 then Option.bind (w8 (((([] : List yb) ++ (List.drop (Int.toNat (0 : Int)) (List.take (Int.toNat (Go.IntKind.wrap .i64 (t2.1 + (1 : Int)))) t2.2.1))) ++ (List.drop (Int.toNat (Go.IntKind.wrap .i64 (t2.1 + (2 : Int)))) (List.take (Int.toNat (List.length t2.2.1 : Int)) t2.2.1))), (((([] : List y0) ++ (List.drop (Int.toNat (0 : Int)) (List.take (Int.toNat t2.1) t2.2.2))) ++ ([r4] : List y0)) ++ (List.drop (Int.toNat (Go.IntKind.wrap .i64 (t2.1 + (2 : Int)))) (List.take (Int.toNat (List.length t2.2.2 : Int)) t2.2.2))))) fun r5 => again (r5, ((([] : List yb) ++ (List.drop (Int.toNat (0 : Int)) (List.take (Int.toNat (Go.IntKind.wrap .i64 (t2.1 + (1 : Int)))) t2.2.1))) ++ (List.drop (Int.toNat (Go.IntKind.wrap .i64 (t2.1 + (2 : Int)))) (List.take (Int.toNat (List.length t2.2.1 : Int)) t2.2.1))), (((([] : List y0) ++ (List.drop (Int.toNat (0 : Int)) (List.take (Int.toNat t2.1) t2.2.2))) ++ ([r4] : List y0)) ++ (List.drop (Int.toNat (Go.IntKind.wrap .i64 (t2.1 + (2 : Int)))) (List.take (Int.toNat (List.length t2.2.2 : Int)) t2.2.2)))) else none else none else none else none else none else none else none else none else none else none else none else none else none else none else none else none else none else none else none else none else none else none else k0 t2.2
def QZ k0 := zS (@WL R k0) Y4
def Zg (x : Qz8) : Option Qz8 :=
 Option.bind (w8 x) fun r1 => QZ (fun x6 => some x6) (r1, x)
def ylJ : List QF := [yl8, yuB, yD6]
def y7W (t : yaY) : St := ⟨.dead :: .box 1 0 :: .box 2 0 :: vI t.1 :: dd 56 [], [(1, .box [.own 10000000, .own 10000001]), (2, .box [.nils, .nils]), (10000000, .root true 3 yd t.2.1), (10000001, .root true 99 yl t.2.2)]⟩
def yjQ : Gk vV := fun κ => WL (fun t => κ (some 0) ⟨.dead :: .box 1 0 :: .box 2 0 :: dd 57 [], [(1, .box [.own 10000000, .own 10000001]), (2, .box [.nils, .nils]), (10000000, .root true 3 yd t.1), (10000001, .root true 99 yl t.2)]⟩)
def ylK : Lp := lpC 2 (unG yhb y7W) @yjQ lpN
theorem ysq : LF ylJ ylK 189 2 Tryz.f189 0 y7W @yjQ fun t => t := fun R κ again t => by kernel_rfl
theorem ysr : LK ylJ ylK 189 Tryz.f189 0 := lkN (u := (unG yhb y7W)) (yq fun t => by kernel_rfl) ysq
theorem ywP : EV ylJ ylK 189 Tryz.f189 yqu qz8 qz8 Zg := fun x => by kernel_rfl
def yD7 : QF := ⟨189, Zg, okN (n := 1) Tryz.func189 ⟨ysr, trivial⟩ ywP⟩
def Y5 (x : yAi) : Option yAk :=
 Option.bind (Zf (x.1, x.2.1)) fun r1 => Option.bind (Yt (x.1, x.2.1)) fun r2 => Option.bind (bif (!r2) then some true else Option.bind (Wh x.2.2) fun r4 => some (!r4)) fun u3 => bif u3 then some (r1.1, r1.2, false) else Option.bind (J0 (x.1, x.2.1, x.2.2.1, x.2.2.2.1)) fun r5 => if (0 : Int) ≤ r5 then if r5 < (List.length x.2.1 : Int) then Option.bind (wF ((ye x.2.1 r5), x.2.2.1, x.2.2.2.1, x.2.2.2.2.1, x.2.2.2.2.2.1, x.2.2.2.2.2.2)) fun r6 => if (0 : Int) ≤ r5 then if r5 < (List.length x.1 : Int) then Option.bind (Jo (r1.1, r1.2, r5, ([(zt x.1 r5)] : List yb), ([r6.1] : List y0))) fun r7 => bif (!r6.2) then if (0 : Int) ≤ r5 then if r5 < (List.length x.2.1 : Int) then Option.bind (yC (ye x.2.1 r5)) fun r8 => Option.bind (zI (r8, x.2.2)) fun r9 => Option.bind (Y7 r9) fun r10 => if (0 : Int) ≤ r5 then if r5 < (List.length x.1 : Int) then if (0 : Int) ≤ (Go.IntKind.wrap .i64 (Int.tdiv (Go.IntKind.wrap .i64 ((List.length r10 : Int) + (1 : Int))) (2 : Int))) then if (Go.IntKind.wrap .i64 (Int.tdiv (Go.IntKind.wrap .i64 ((List.length r10 : Int) + (1 : Int))) (2 : Int))) < (List.length r10 : Int) then Option.bind (JY ((y6 r10 (Go.IntKind.wrap .i64 (Int.tdiv (Go.IntKind.wrap .i64 ((List.length r10 : Int) + (1 : Int))) (2 : Int)))).1, (y6 r10 (Go.IntKind.wrap .i64 (Int.tdiv (Go.IntKind.wrap .i64 ((List.length r10 : Int) + (1 : Int))) (2 : Int)))).2.1, (y6 r10 (Go.IntKind.wrap .i64 (Int.tdiv (Go.IntKind.wrap .i64 ((List.length r10 : Int) + (1 : Int))) (2 : Int)))).2.2.1, (y6 r10 (Go.IntKind.wrap .i64 (Int.tdiv (Go.IntKind.wrap .i64 ((List.length r10 : Int) + (1 : Int))) (2 : Int)))).2.2.2.1, (y6 r10 (Go.IntKind.wrap .i64 (Int.tdiv (Go.IntKind.wrap .i64 ((List.length r10 : Int) + (1 : Int))) (2 : Int)))).2.2.2.2)) fun r11 => if (0 : Int) ≤ (0 : Int) then if (0 : Int) ≤ (Go.IntKind.wrap .i64 (Int.tdiv (Go.IntKind.wrap .i64 ((List.length r10 : Int) + (1 : Int))) (2 : Int))) then if (Go.IntKind.wrap .i64 (Int.tdiv (Go.IntKind.wrap .i64 ((List.length r10 : Int) + (1 : Int))) (2 : Int))) ≤ (List.length r10 : Int) then Option.bind (yX (List.drop (Int.toNat (0 : Int)) (List.take (Int.toNat (Go.IntKind.wrap .i64 (Int.tdiv (Go.IntKind.wrap .i64 ((List.length r10 : Int) + (1 : Int))) (2 : Int)))) r10))) fun r12 => if (0 : Int) ≤ (Go.IntKind.wrap .i64 (Int.tdiv (Go.IntKind.wrap .i64 ((List.length r10 : Int) + (1 : Int))) (2 : Int))) then if (Go.IntKind.wrap .i64 (Int.tdiv (Go.IntKind.wrap .i64 ((List.length r10 : Int) + (1 : Int))) (2 : Int))) ≤ (List.length r10 : Int) then if (List.length r10 : Int) ≤ (List.length r10 : Int) then Option.bind (yX (List.drop (Int.toNat (Go.IntKind.wrap .i64 (Int.tdiv (Go.IntKind.wrap .i64 ((List.length r10 : Int) + (1 : Int))) (2 : Int)))) (List.take (Int.toNat (List.length r10 : Int)) r10))) fun r13 => Option.bind (Jo (r1.1, r1.2, r5, ([(zt x.1 r5), r11] : List yb), ([r12, r13] : List y0))) fun r14 => Option.bind (Zg r14) fun r15 => Option.bind (Yt r15) fun r16 => bif (!r16) then some (r1.1, r1.2, false) else some (r15.1, r15.2, true) else none else none else none else none else none else none else none else none else none else none else none else none else Option.bind (bif (decide (r5 > (0 : Int))) then Option.bind (yC r6.1) fun r18 => some ((List.length r18 : Int) == (0 : Int)) else some false) fun u17 => bif u17 then Option.bind (Jo (r1.1, r1.2, r5, ([] : List yb), ([] : List y0))) fun r19 => Option.bind (Zg r19) fun r20 => Option.bind (Yt r20) fun r21 => bif (!r21) then some (r1.1, r1.2, false) else some (r20.1, r20.2, true) else Option.bind (Zg r7) fun r22 => Option.bind (Yt r22) fun r23 => bif (!r23) then some (r1.1, r1.2, false) else some (r22.1, r22.2, true) else none else none else none else none
theorem ywQ : EV [yBR, ywp, yl8, yBQ, yBX, yBM, yD4, yD5, yw0, yw3, yuB, yD7] lpN 167 Tryz.f167 yqv yAj yAl Y5 := fun x => by kernel_rfl
def ywR : QF := ⟨167, Y5, okN (n := 0) Tryz.func167 trivial ywQ⟩
def ZR (x : ynU) : Option (List y8) :=
 Option.bind (Y8 x.1) fun r1 => Option.bind (ZB x.1) fun r2 => Option.bind (bif r2 then Option.bind (yB (x.2, (0 : Int), (Go.IntKind.wrap .i64 ((List.length x.1 : Int) - (1 : Int))))) fun r4 => some r4 else some false) fun u3 => Option.bind (bif u3 then if (0 : Int) ≤ x.2 then if x.2 < (List.length x.1 : Int) then some ((yA x.1 x.2).2.1) else none else none else some false) fun u5 => bif u5 then if (0 : Int) ≤ x.2 then if x.2 < (List.length x.1 : Int) then if (0 : Int) ≤ x.2 then if x.2 < (List.length r1 : Int) then some (List.set r1 (Int.toNat x.2) ((Int.tmod (Go.IntKind.wrap .i64 ((yA x.1 x.2).1 + (1 : Int))) (1000 : Int)), false, (0 : Int))) else none else none else none else none else some r1
theorem ywS : EV [y7p, ywf, ywr] lpN 176 Tryz.f176 yqw ynV [(.sl 53 yj)] ZR := fun x => by kernel_rfl
def yBZ : QF := ⟨176, ZR, okN (n := 0) Tryz.func176 trivial ywS⟩
def wG (x : yCu) : Option Qz9 :=
 Option.bind (bif x.2.2.2.2.2.2.2.2.2.2.2 then some (x.2.2.2.2.2.2.2.2.1 == (1 : Int)) else some false) fun u1 => bif u1 then Option.bind (ZR (x.2.2.2.1, x.2.2.2.2.2.2.2.2.2.1)) fun r2 => some (x.1, x.2.1, x.2.2.1, r2, x.2.2.2.2.1, x.2.2.2.2.2.1) else some (x.1, x.2.1, x.2.2.1, x.2.2.2.1, x.2.2.2.2.1, x.2.2.2.2.2.1)
theorem ywT : EV [yBZ] lpN 168 Tryz.f168 yqx yCv qz9 wG := fun x => by kernel_rfl
def yD8 : QF := ⟨168, wG, okN (n := 0) Tryz.func168 trivial ywT⟩
def zK (x : ynt) : Option yhV :=
 Option.bind (ju (x.1, x.2.1, x.2.2.2.2.2.2.1, x.2.2.2.2.2.2.2.1)) fun r1 => Option.bind (Y5 (x.1, x.2.1, x.2.2.2.2.2.2)) fun r2 => bif (!r2.2.2) then some (false, x.1, x.2.1, x.2.2.1, x.2.2.2.1, x.2.2.2.2.1, x.2.2.2.2.2.1) else Option.bind (wG (r2.1, r2.2.1, x.2.2.1, x.2.2.2.1, x.2.2.2.2.1, x.2.2.2.2.2.1, r1)) fun r3 => some (true, r3)
theorem ywU : EV [ywK, ywR, yD8] lpN 150 Tryz.f150 yqy ynu ynW zK := fun x => by kernel_rfl
def ywV : QF := ⟨150, zK, okN (n := 0) Tryz.func150 trivial ywU⟩
def Wj (x : yCw) : Option yby :=
 Option.bind (ym (x.1, x.2.1, x.2.2.1, x.2.2.2.1, x.2.2.2.2.1, x.2.2.2.2.2.1)) fun r1 => Option.bind (YZ (x.1, x.2.1, x.2.2.1, x.2.2.2.1, x.2.2.2.2.1, x.2.2.2.2.2.1, x.2.2.2.2.2.2.1, x.2.2.2.2.2.2.2.1)) fun r2 => Option.bind (bif (r2 == (0 : Int)) then Option.bind (zy x.2.2.2.2.2.2.2.2) fun r4 => some (!r4) else some false) fun u3 => bif u3 then bif ((4 : Int) != (0 : Int)) then some (r1.1, r1.2.1, r1.2.2.1, r1.2.2.2.1, r1.2.2.2.2.1, r1.2.2.2.2.2, (4 : Int)) else Option.bind (Y9 (x.2.2.2.1, x.2.2.2.2.2.2.2.2)) fun r5 => bif r5.2.2 then Option.bind (zw (x.1, x.2.1, x.2.2.1, x.2.2.2.1, x.2.2.2.2.1, x.2.2.2.2.2.1, x.2.2.2.2.2.2.1)) fun r6 => if (0 : Int) ≤ r6 then if r6 < (List.length x.2.2.2.2.1 : Int) then if (0 : Int) ≤ r5.2.1 then if r5.2.1 < (List.length r5.1 : Int) then Option.bind (zK (r1.1, r1.2.1, r1.2.2.1, r5.1, r1.2.2.2.2.1, r1.2.2.2.2.2, x.2.2.2.2.2.2.2.1, (yi x.2.2.2.2.1 r6).2.1, (1 : Int), r5.2.1, (yA r5.1 r5.2.1).1)) fun r7 => Option.bind (yU (x.1, x.2.1, x.2.2.1, x.2.2.2.1, x.2.2.2.2.1, x.2.2.2.2.2.1, r7.2.1, r7.2.2.1, r7.2.2.2.1, r7.2.2.2.2.1, r7.2.2.2.2.2.1, r7.2.2.2.2.2.2, r7.1)) fun r8 => some r8 else none else none else none else none else Option.bind (yU (x.1, x.2.1, x.2.2.1, x.2.2.2.1, x.2.2.2.2.1, x.2.2.2.2.2.1, r1.1, r1.2.1, r1.2.2.1, r5.1, r1.2.2.2.2.1, r1.2.2.2.2.2, false)) fun r9 => some r9 else bif (r2 != (0 : Int)) then some (r1.1, r1.2.1, r1.2.2.1, r1.2.2.2.1, r1.2.2.2.2.1, r1.2.2.2.2.2, r2) else Option.bind (Y9 (x.2.2.2.1, x.2.2.2.2.2.2.2.2)) fun r10 => bif r10.2.2 then Option.bind (zw (x.1, x.2.1, x.2.2.1, x.2.2.2.1, x.2.2.2.2.1, x.2.2.2.2.2.1, x.2.2.2.2.2.2.1)) fun r11 => if (0 : Int) ≤ r11 then if r11 < (List.length x.2.2.2.2.1 : Int) then if (0 : Int) ≤ r10.2.1 then if r10.2.1 < (List.length r10.1 : Int) then Option.bind (zK (r1.1, r1.2.1, r1.2.2.1, r10.1, r1.2.2.2.2.1, r1.2.2.2.2.2, x.2.2.2.2.2.2.2.1, (yi x.2.2.2.2.1 r11).2.1, (1 : Int), r10.2.1, (yA r10.1 r10.2.1).1)) fun r12 => Option.bind (yU (x.1, x.2.1, x.2.2.1, x.2.2.2.1, x.2.2.2.2.1, x.2.2.2.2.2.1, r12.2.1, r12.2.2.1, r12.2.2.2.1, r12.2.2.2.2.1, r12.2.2.2.2.2.1, r12.2.2.2.2.2.2, r12.1)) fun r13 => some r13 else none else none else none else none else Option.bind (yU (x.1, x.2.1, x.2.2.1, x.2.2.2.1, x.2.2.2.2.1, x.2.2.2.2.2.1, r1.1, r1.2.1, r1.2.2.1, r10.1, r1.2.2.2.2.1, r1.2.2.2.2.2, false)) fun r14 => some r14
theorem ywW : EV [yg2, yuA, yjI, ynw, ywE, yBW, ywV] lpN 113 Tryz.f113 yqz yCx ybz Wj := fun x => by kernel_rfl
def yD9 : QF := ⟨113, Wj, okN (n := 0) Tryz.func113 trivial ywW⟩
abbrev WM : Type := yAm
def WN (k0 : List yb → Option R) (again : WM → Option R) (t3 : WM) : Option R :=
 Option.bind (bif (decide (t3.2.1 ≥ (0 : Int))) then some (decide ((List.length t3.2.2 : Int) ≤ (List.length t3.1 : Int))) else some false) fun u2 => bif u2 then if (0 : Int) ≤ t3.2.1 then if t3.2.1 < (List.length t3.1 : Int) then if (List.length t3.2.2 + List.length ([(yG t3.1 t3.2.1).1] : List yb)) * 8 < 140737488355328 then if (0 : Int) ≤ t3.2.1 then if t3.2.1 < (List.length t3.1 : Int) then Option.bind (zU (t3.1, (yG t3.1 t3.2.1).2)) fun r3 => again (t3.1, r3, (t3.2.2 ++ ([(yG t3.1 t3.2.1).1] : List yb))) else none else none else none else none else none else k0 t3.2.2
def y00 k0 := zS (@WN R k0) Y4
def w9 (x : yfD) : Option (List yb) :=
 Option.bind (zU x) fun r1 => y00 (fun x4 => some x4) (x.1, r1, ([] : List yb))
def ylL : List QF := [ynv]
def y7X (t : yAm) : St := ⟨zu t.1 :: dd 4 (.own 10000000 :: vI t.2.1 :: dd 29 []), [(10000000, .root true 3 yd t.2.2)]⟩
def yjR : Gk WM := fun κ => WN (fun t => κ (some 0) ⟨dd 5 (.own 10000000 :: dd 30 []), [(10000000, .root true 3 yd t)]⟩)
def ylM : Lp := lpC 3 (unG yAn y7X) @yjR lpN
theorem yss : LF ylL ylM 190 3 Tryz.f190 0 y7X @yjR fun t => t := fun R κ again t => by kernel_rfl
theorem yst : LK ylL ylM 190 Tryz.f190 0 := lkN (u := (unG yAn y7X)) (yq fun t => by kernel_rfl) yss
theorem ywX : EV ylL ylM 190 Tryz.f190 yqA yfE [(.sl 3 yd)] w9 := fun x => by kernel_rfl
def yC0 : QF := ⟨190, w9, okN (n := 1) Tryz.func190 ⟨yst, trivial⟩ ywX⟩
abbrev vW : Type := yAo
def Jp (k0 : List y7 → Option R) (again : vW → Option R) (t4 : vW) : Option R :=
 bif (decide (t4.2.1 < (List.length t4.2.2.2 : Int))) then if (0 : Int) ≤ t4.2.1 then if t4.2.1 < (List.length t4.2.2.2 : Int) then bif ((y6 t4.2.2.2 t4.2.1).1 == t4.1) then if (0 : Int) ≤ t4.2.1 then if t4.2.1 < (List.length t4.2.2.2 : Int) then if (List.length t4.2.2.1 + List.length ([((y6 t4.2.2.2 t4.2.1).1, (y6 t4.2.2.2 t4.2.1).2.1, (y6 t4.2.2.2 t4.2.1).2.2.1, (y6 t4.2.2.2 t4.2.1).2.2.2.1, (y6 t4.2.2.2 t4.2.1).2.2.2.2)] : List y7)) * 40 < 140737488355328 then again (t4.1, (Go.IntKind.wrap .i64 (t4.2.1 + (1 : Int))), (t4.2.2.1 ++ ([((y6 t4.2.2.2 t4.2.1).1, (y6 t4.2.2.2 t4.2.1).2.1, (y6 t4.2.2.2 t4.2.1).2.2.1, (y6 t4.2.2.2 t4.2.1).2.2.2.1, (y6 t4.2.2.2 t4.2.1).2.2.2.2)] : List y7)), t4.2.2.2) else none else none else none else again (t4.1, (Go.IntKind.wrap .i64 (t4.2.1 + (1 : Int))), t4.2.2.1, t4.2.2.2) else none else none else k0 t4.2.2.1
def y01 k0 := zS (@Jp R k0) Y4
def WO (x : ynR) : Option (List y7) :=
 Option.bind (yP (x.1, x.2.1)) fun r1 => y01 (fun x2 => some x2) (x.2.2, (0 : Int), ([] : List y7), r1)
def ylN : List QF := [ylb]
def y7Y (t : yAo) : St := ⟨.dead :: vI t.1 :: dd 3 (.own 10000000 :: .own 10000001 :: vI t.2.1 :: dd 24 []), [(10000000, .root true 63 yg t.2.2.1), (10000001, .root true 63 yg t.2.2.2)]⟩
def yjS : Gk vW := fun κ => Jp (fun t => κ (some 0) ⟨dd 5 (.own 10000000 :: dd 26 []), [(10000000, .root true 63 yg t)]⟩)
def ylO : Lp := lpC 4 (unG yAp y7Y) @yjS lpN
theorem ysu : LF ylN ylO 204 4 Tryz.f204 0 y7Y @yjS fun t => t := fun R κ again t => by kernel_rfl
theorem ysv : LK ylN ylO 204 Tryz.f204 0 := lkN (u := (unG yAp y7Y)) (yq fun t => by kernel_rfl) ysu
theorem ywY : EV ylN ylO 204 Tryz.f204 yqB ynS [(.sl 63 yg)] WO := fun x => by kernel_rfl
def yDa : QF := ⟨204, WO, okN (n := 1) Tryz.func204 ⟨ysv, trivial⟩ ywY⟩
abbrev VS : Type := yAq
def wH (k0 : Bool → Option R) (k1 : Unit → Option R) (again : VS → Option R) (t2 : VS) : Option R :=
 bif (decide (t2.2.2 < (List.length t2.1 : Int))) then if (0 : Int) ≤ t2.2.2 then if t2.2.2 < (List.length t2.1 : Int) then bif ((zt t2.1 t2.2.2) == t2.2.1) then k0 true else again (t2.1, t2.2.1, (Go.IntKind.wrap .i64 (t2.2.2 + (1 : Int)))) else none else none else k1 ()
def y1j k0 k1 := zS (@wH R k0 k1) Y4
def KH (x : yv3) : Option Bool :=
 y1j (fun x1 => some x1) (fun x2 => some false) (x.1, x.2, (0 : Int))
def ylP : List QF := []
def y7Z (t : yAq) : St := ⟨zi t.1 :: vI t.2.1 :: dd 3 (vI t.2.2 :: dd 12 []), []⟩
def yjT : Gk VS := fun κ => wH (fun t => κ none ⟨dd 4 (vB t :: dd 13 []), []⟩) (fun t => κ (some 0) ⟨dd 18 [], []⟩)
def ylQ : Lp := lpC 2 (unG yAr y7Z) @yjT lpN
theorem ysw : LF ylP ylQ 205 2 Tryz.f205 0 y7Z @yjT fun t => t := fun R κ again t => by kernel_rfl
theorem ysx : LK ylP ylQ 205 Tryz.f205 0 := lkN (u := (unG yAr y7Z)) (yq fun t => by kernel_rfl) ysw
theorem ywZ : EV ylP ylQ 205 Tryz.f205 yqC yv4 [.bool] KH := fun x => by kernel_rfl
def yDb : QF := ⟨205, KH, okN (n := 1) Tryz.func205 ⟨ysx, trivial⟩ ywZ⟩
abbrev vX : Type := yAs
def Jq (k0 : yAu → Option R) (again : vX → Option R) (t5 : vX) : Option R :=
 bif (decide (t5.2.2.1 < (List.length t5.2.2.2.2.2.2.2.2.2.2.2.2.2 : Int))) then if (0 : Int) ≤ t5.2.2.1 then if t5.2.2.1 < (List.length t5.2.2.2.2.2.2.2.2.2.2.2.2.2 : Int) then Option.bind (KH (t5.1, (y6 t5.2.2.2.2.2.2.2.2.2.2.2.2.2 t5.2.2.1).2.1)) fun r2 => Option.bind (bif r2 then Option.bind (bif (!t5.2.1) then some true else if (0 : Int) ≤ t5.2.2.1 then if t5.2.2.1 < (List.length t5.2.2.2.2.2.2.2.2.2.2.2.2.2 : Int) then some (decide ((y6 t5.2.2.2.2.2.2.2.2.2.2.2.2.2 t5.2.2.1).2.1 > t5.2.2.2.2.2.2.2.2.2.1)) else none else none) fun u4 => some u4 else some false) fun u3 => bif u3 then if (0 : Int) ≤ t5.2.2.1 then if t5.2.2.1 < (List.length t5.2.2.2.2.2.2.2.2.2.2.2.2.2 : Int) then again (t5.1, true, (Go.IntKind.wrap .i64 (t5.2.2.1 + (1 : Int))), t5.2.2.2.1, t5.2.2.2.2.1, t5.2.2.2.2.2.1, t5.2.2.2.2.2.2.1, t5.2.2.2.2.2.2.2.1, (y6 t5.2.2.2.2.2.2.2.2.2.2.2.2.2 t5.2.2.1).1, (y6 t5.2.2.2.2.2.2.2.2.2.2.2.2.2 t5.2.2.1).2.1, (y6 t5.2.2.2.2.2.2.2.2.2.2.2.2.2 t5.2.2.1).2.2.1, (y6 t5.2.2.2.2.2.2.2.2.2.2.2.2.2 t5.2.2.1).2.2.2.1, (y6 t5.2.2.2.2.2.2.2.2.2.2.2.2.2 t5.2.2.1).2.2.2.2, t5.2.2.2.2.2.2.2.2.2.2.2.2.2) else none else none else again (t5.1, t5.2.1, (Go.IntKind.wrap .i64 (t5.2.2.1 + (1 : Int))), t5.2.2.2.1, t5.2.2.2.2.1, t5.2.2.2.2.2.1, t5.2.2.2.2.2.2.1, t5.2.2.2.2.2.2.2.1, t5.2.2.2.2.2.2.2.2.1, t5.2.2.2.2.2.2.2.2.2.1, t5.2.2.2.2.2.2.2.2.2.2.1, t5.2.2.2.2.2.2.2.2.2.2.2.1, t5.2.2.2.2.2.2.2.2.2.2.2.2.1, t5.2.2.2.2.2.2.2.2.2.2.2.2.2) else none else none else k0 (t5.2.1, t5.2.2.2.1, t5.2.2.2.2.1, t5.2.2.2.2.2.1, t5.2.2.2.2.2.2.1, t5.2.2.2.2.2.2.2.1, t5.2.2.2.2.2.2.2.2.1, t5.2.2.2.2.2.2.2.2.2.1, t5.2.2.2.2.2.2.2.2.2.2.1, t5.2.2.2.2.2.2.2.2.2.2.2.1, t5.2.2.2.2.2.2.2.2.2.2.2.2.1)
def y02 k0 := zS (@Jq R k0) Y4
def jv (x : yAv) : Option yeO :=
 Option.bind (WO (x.1, x.2.1, x.2.2.1)) fun r1 => y02 (fun x5 => some (x5.2.2.2.2.2.2.1, x5.2.2.2.2.2.2.2.1, x5.2.2.2.2.2.2.2.2.1, x5.2.2.2.2.2.2.2.2.2.1, x5.2.2.2.2.2.2.2.2.2.2, x5.1)) (x.2.2.2, false, (0 : Int), (0 : Int), (0 : Int), (0 : Int), (0 : Int), (0 : Int), (0 : Int), (0 : Int), (0 : Int), (0 : Int), (0 : Int), r1)
def ylR : List QF := [yDa, yDb]
def y80 (t : yAs) : St := ⟨dd 2 (zi t.1 :: dd 3 (.box 6 0 :: .dead :: .box 8 0 :: vB t.2.1 :: .own 10000000 :: vI t.2.2.1 :: dd 37 [])), [(6, .box [vI t.2.2.2.1, vI t.2.2.2.2.1, vI t.2.2.2.2.2.1, vI t.2.2.2.2.2.2.1, vI t.2.2.2.2.2.2.2.1]), (8, .box [vI t.2.2.2.2.2.2.2.2.1, vI t.2.2.2.2.2.2.2.2.2.1, vI t.2.2.2.2.2.2.2.2.2.2.1, vI t.2.2.2.2.2.2.2.2.2.2.2.1, vI t.2.2.2.2.2.2.2.2.2.2.2.2.1]), (10000000, .root true 63 yg t.2.2.2.2.2.2.2.2.2.2.2.2.2)]⟩
def yjU : Gk vX := fun κ => Jq (fun t => κ (some 0) ⟨dd 6 (.box 6 0 :: .dead :: .box 8 0 :: vB t.1 :: dd 39 []), [(6, .box [vI t.2.1, vI t.2.2.1, vI t.2.2.2.1, vI t.2.2.2.2.1, vI t.2.2.2.2.2.1]), (8, .box [vI t.2.2.2.2.2.2.1, vI t.2.2.2.2.2.2.2.1, vI t.2.2.2.2.2.2.2.2.1, vI t.2.2.2.2.2.2.2.2.2.1, vI t.2.2.2.2.2.2.2.2.2.2])]⟩)
def ylS : Lp := lpC 5 (unG yAt y80) @yjU lpN
theorem ysy : LF ylR ylS 191 5 Tryz.f191 0 y80 @yjU fun t => t := fun R κ again t => by kernel_rfl
theorem ysz : LK ylR ylS 191 Tryz.f191 0 := lkN (u := (unG yAt y80)) (yq fun t => by kernel_rfl) ysy
theorem yx0 : EV ylR ylS 191 Tryz.f191 yqD yAw yeP jv := fun x => by kernel_rfl
def yC1 : QF := ⟨191, jv, okN (n := 1) Tryz.func191 ⟨ysz, trivial⟩ yx0⟩
def Z8 (x : yux) : Option yeO :=
 Option.bind (w9 (x.2.2.1, x.2.2.2.2)) fun r1 => bif ((List.length r1 : Int) == (0 : Int)) then some ((0 : Int), (0 : Int), (0 : Int), (0 : Int), (0 : Int), false) else if (0 : Int) ≤ (1 : Int) then if (1 : Int) ≤ (List.length r1 : Int) then if (List.length r1 : Int) ≤ (List.length r1 : Int) then Option.bind (jv (x.1, x.2.1, x.2.2.2.1, (List.drop (Int.toNat (1 : Int)) (List.take (Int.toNat (List.length r1 : Int)) r1)))) fun r2 => some r2 else none else none else none
theorem yx1 : EV [yC0, yC1] lpN 169 Tryz.f169 yqE yuy yeP Z8 := fun x => by kernel_rfl
def yC2 : QF := ⟨169, Z8, okN (n := 0) Tryz.func169 trivial yx1⟩
def Yn (x : yv5) : Option yhV :=
 if (0 : Int) ≤ x.2.2.2.2.2.2.1 then if x.2.2.2.2.2.2.1 < (List.length x.2.2.2.2.1 : Int) then Option.bind (Z8 (x.1, x.2.1, x.2.2.1, x.2.2.2.2.2.2.2, (yi x.2.2.2.2.1 x.2.2.2.2.2.2.1).2.1)) fun r1 => Option.bind (bif r1.2.2.2.2.2 then some (r1.2.2.1 == (1 : Int)) else some false) fun u2 => bif u2 then Option.bind (zK (x.1, x.2.1, x.2.2.1, x.2.2.2.1, x.2.2.2.2.1, x.2.2.2.2.2.1, x.2.2.2.2.2.2.2, (yi x.2.2.2.2.1 x.2.2.2.2.2.2.1).2.1, (2 : Int), (0 : Int), (0 : Int))) fun r3 => some r3 else Option.bind (ju (x.1, x.2.1, x.2.2.2.2.2.2.2, (yi x.2.2.2.2.1 x.2.2.2.2.2.2.1).2.1)) fun r4 => bif (!r4.2.2.2.2.2) then some (true, x.1, x.2.1, x.2.2.1, x.2.2.2.1, x.2.2.2.2.1, x.2.2.2.2.2.1) else Option.bind (zK (x.1, x.2.1, x.2.2.1, x.2.2.2.1, x.2.2.2.2.1, x.2.2.2.2.2.1, x.2.2.2.2.2.2.2, (yi x.2.2.2.2.1 x.2.2.2.2.2.2.1).2.1, (0 : Int), (0 : Int), (0 : Int))) fun r5 => some r5 else none else none
theorem yx2 : EV [ywV, ywK, yC2] lpN 151 Tryz.f151 yqF yv6 ynW Yn := fun x => by kernel_rfl
def yC3 : QF := ⟨151, Yn, okN (n := 0) Tryz.func151 trivial yx2⟩
def J1 (x : yup) : Option yby :=
 Option.bind (ym (x.1, x.2.1, x.2.2.1, x.2.2.2.1, x.2.2.2.2.1, x.2.2.2.2.2.1)) fun r1 => Option.bind (YZ x) fun r2 => bif (r2 != (0 : Int)) then some (r1.1, r1.2.1, r1.2.2.1, r1.2.2.2.1, r1.2.2.2.2.1, r1.2.2.2.2.2, r2) else Option.bind (zw (x.1, x.2.1, x.2.2.1, x.2.2.2.1, x.2.2.2.2.1, x.2.2.2.2.2.1, x.2.2.2.2.2.2.1)) fun r3 => Option.bind (Yn (r1.1, r1.2.1, r1.2.2.1, r1.2.2.2.1, r1.2.2.2.2.1, r1.2.2.2.2.2, r3, x.2.2.2.2.2.2.2)) fun r4 => Option.bind (yU (x.1, x.2.1, x.2.2.1, x.2.2.2.1, x.2.2.2.2.1, x.2.2.2.2.2.1, r4.2.1, r4.2.2.1, r4.2.2.2.1, r4.2.2.2.2.1, r4.2.2.2.2.2.1, r4.2.2.2.2.2.2, r4.1)) fun r5 => some r5
theorem yx3 : EV [yg2, yjI, ynw, ywE, yC3] lpN 114 Tryz.f114 yqG yuq ybz J1 := fun x => by kernel_rfl
def yDc : QF := ⟨114, J1, okN (n := 0) Tryz.func114 trivial yx3⟩
abbrev wY : Type := ynY ⊕ ynZ
def jJ (k0 : yCy → Option R) (k1 : yCz → Option R) (again : wY → Option R) : wY → Option R
 | .inl t10 => Option.bind (bif (decide (t10.2.2.2.1 ≥ t10.1)) then some t10.2.2.1 else some false) fun u15 => bif u15 then Option.bind (Yn (t10.2.2.2.2.2.2.2.2.2.2.2.2.1, t10.2.2.2.2.2.2.2.2.2.2.2.2.2.1, t10.2.2.2.2.2.2.2.2.2.2.2.2.2.2.1, t10.2.2.2.2.2.2.2.2.2.2.2.2.2.2.2.1, t10.2.2.2.2.2.2.2.2.2.2.2.2.2.2.2.2, t10.2.2.2.2.2.2.2.2.2.2.2.1, t10.2.1, t10.2.2.2.1)) fun r16 => again (Sum.inr (t10.1, t10.2.1, r16.1, (Go.IntKind.wrap .i64 (t10.2.2.2.1 - (1 : Int))), t10.2.2.2.2.1, t10.2.2.2.2.2.1, t10.2.2.2.2.2.2.1, t10.2.2.2.2.2.2.2.1, t10.2.2.2.2.2.2.2.2.1, t10.2.2.2.2.2.2.2.2.2.1, t10.2.2.2.2.2.2.2.2.2.2.1, r16.2.1, r16.2.2.1, r16.2.2.2.1, r16.2.2.2.2.2.2, r16.2.2.2.2.1, r16.2.2.2.2.2.1)) else k0 (t10.1, t10.2.1, t10.2.2.1, t10.2.2.2.2)
 | .inr t10 => Option.bind (bif (decide (t10.2.2.2.1 ≥ t10.1)) then some t10.2.2.1 else some false) fun u17 => bif u17 then Option.bind (Yn (t10.2.2.2.2.2.2.2.2.2.2.2.1, t10.2.2.2.2.2.2.2.2.2.2.2.2.1, t10.2.2.2.2.2.2.2.2.2.2.2.2.2.1, t10.2.2.2.2.2.2.2.2.2.2.2.2.2.2.2.1, t10.2.2.2.2.2.2.2.2.2.2.2.2.2.2.2.2, t10.2.2.2.2.2.2.2.2.2.2.2.2.2.2.1, t10.2.1, t10.2.2.2.1)) fun r18 => again (Sum.inr (t10.1, t10.2.1, r18.1, (Go.IntKind.wrap .i64 (t10.2.2.2.1 - (1 : Int))), t10.2.2.2.2.1, t10.2.2.2.2.2.1, t10.2.2.2.2.2.2.1, t10.2.2.2.2.2.2.2.1, t10.2.2.2.2.2.2.2.2.1, t10.2.2.2.2.2.2.2.2.2.1, t10.2.2.2.2.2.2.2.2.2.2.1, r18.2.1, r18.2.2.1, r18.2.2.2.1, r18.2.2.2.2.2.2, r18.2.2.2.2.1, r18.2.2.2.2.2.1)) else k1 (t10.1, t10.2.1, t10.2.2.1, t10.2.2.2.2)
def wZ k0 k1 := zS (@jJ R k0 k1) Y4
def wc (x : yup) : Option yby :=
 Option.bind (ym (x.1, x.2.1, x.2.2.1, x.2.2.2.1, x.2.2.2.2.1, x.2.2.2.2.2.1)) fun r1 => Option.bind (YZ (x.1, x.2.1, x.2.2.1, x.2.2.2.1, x.2.2.2.2.1, x.2.2.2.2.2.1, x.2.2.2.2.2.2.1, (0 : Int))) fun r2 => Option.bind (bif (r2 == (0 : Int)) then Option.bind (yB (x.2.2.2.2.2.2.2, (1 : Int), (12 : Int))) fun r4 => some (!r4) else some false) fun u3 => bif u3 then bif ((4 : Int) != (0 : Int)) then some (r1.1, r1.2.1, r1.2.2.1, r1.2.2.2.1, r1.2.2.2.2.1, r1.2.2.2.2.2, (4 : Int)) else Option.bind (zw (x.1, x.2.1, x.2.2.1, x.2.2.2.1, x.2.2.2.2.1, x.2.2.2.2.2.1, x.2.2.2.2.2.2.1)) fun r5 => if (0 : Int) ≤ r5 then if r5 < (List.length x.2.2.2.2.1 : Int) then wZ (fun x10 => if (0 : Int) ≤ x10.2.1 then if x10.2.1 < (List.length x10.2.2.2.2.2.2.2.2.2.2.2.2.2.2.2 : Int) then Option.bind (yU (x10.2.2.2.1, x10.2.2.2.2.1, x10.2.2.2.2.2.1, x10.2.2.2.2.2.2.1, x10.2.2.2.2.2.2.2.1, x10.2.2.2.2.2.2.2.2.1, x10.2.2.2.2.2.2.2.2.2.2.2.1, x10.2.2.2.2.2.2.2.2.2.2.2.2.1, x10.2.2.2.2.2.2.2.2.2.2.2.2.2.1, x10.2.2.2.2.2.2.2.2.2.2.2.2.2.2.1, (List.set x10.2.2.2.2.2.2.2.2.2.2.2.2.2.2.2 (Int.toNat x10.2.1) ((yi x10.2.2.2.2.2.2.2.2.2.2.2.2.2.2.2 x10.2.1).1, (yi x10.2.2.2.2.2.2.2.2.2.2.2.2.2.2.2 x10.2.1).2.1, x10.1, (yi x10.2.2.2.2.2.2.2.2.2.2.2.2.2.2.2 x10.2.1).2.2.2)), x10.2.2.2.2.2.2.2.2.2.2.1, x10.2.2.1)) fun r11 => some r11 else none else none) (fun x12 => if (0 : Int) ≤ x12.2.1 then if x12.2.1 < (List.length x12.2.2.2.2.2.2.2.2.2.2.2.2.2.2.2 : Int) then Option.bind (yU (x12.2.2.2.1, x12.2.2.2.2.1, x12.2.2.2.2.2.1, x12.2.2.2.2.2.2.1, x12.2.2.2.2.2.2.2.1, x12.2.2.2.2.2.2.2.2.1, x12.2.2.2.2.2.2.2.2.2.2.1, x12.2.2.2.2.2.2.2.2.2.2.2.1, x12.2.2.2.2.2.2.2.2.2.2.2.2.1, x12.2.2.2.2.2.2.2.2.2.2.2.2.2.2.1, (List.set x12.2.2.2.2.2.2.2.2.2.2.2.2.2.2.2 (Int.toNat x12.2.1) ((yi x12.2.2.2.2.2.2.2.2.2.2.2.2.2.2.2 x12.2.1).1, (yi x12.2.2.2.2.2.2.2.2.2.2.2.2.2.2.2 x12.2.1).2.1, x12.1, (yi x12.2.2.2.2.2.2.2.2.2.2.2.2.2.2.2 x12.2.1).2.2.2)), x12.2.2.2.2.2.2.2.2.2.2.2.2.2.1, x12.2.2.1)) fun r13 => some r13 else none else none) (Sum.inl (x.2.2.2.2.2.2.2, r5, true, (Go.IntKind.wrap .i64 ((yi x.2.2.2.2.1 r5).2.2.1 - (1 : Int))), x.1, x.2.1, x.2.2.1, x.2.2.2.1, x.2.2.2.2.1, x.2.2.2.2.2.1, (0 : Int), r1.2.2.2.2.2, r1.1, r1.2.1, r1.2.2.1, r1.2.2.2.1, r1.2.2.2.2.1)) else none else none else bif (r2 != (0 : Int)) then some (r1.1, r1.2.1, r1.2.2.1, r1.2.2.2.1, r1.2.2.2.2.1, r1.2.2.2.2.2, r2) else Option.bind (zw (x.1, x.2.1, x.2.2.1, x.2.2.2.1, x.2.2.2.2.1, x.2.2.2.2.2.1, x.2.2.2.2.2.2.1)) fun r14 => if (0 : Int) ≤ r14 then if r14 < (List.length x.2.2.2.2.1 : Int) then wZ (fun x19 => if (0 : Int) ≤ x19.2.1 then if x19.2.1 < (List.length x19.2.2.2.2.2.2.2.2.2.2.2.2.2.2.2 : Int) then Option.bind (yU (x19.2.2.2.1, x19.2.2.2.2.1, x19.2.2.2.2.2.1, x19.2.2.2.2.2.2.1, x19.2.2.2.2.2.2.2.1, x19.2.2.2.2.2.2.2.2.1, x19.2.2.2.2.2.2.2.2.2.2.2.1, x19.2.2.2.2.2.2.2.2.2.2.2.2.1, x19.2.2.2.2.2.2.2.2.2.2.2.2.2.1, x19.2.2.2.2.2.2.2.2.2.2.2.2.2.2.1, (List.set x19.2.2.2.2.2.2.2.2.2.2.2.2.2.2.2 (Int.toNat x19.2.1) ((yi x19.2.2.2.2.2.2.2.2.2.2.2.2.2.2.2 x19.2.1).1, (yi x19.2.2.2.2.2.2.2.2.2.2.2.2.2.2.2 x19.2.1).2.1, x19.1, (yi x19.2.2.2.2.2.2.2.2.2.2.2.2.2.2.2 x19.2.1).2.2.2)), x19.2.2.2.2.2.2.2.2.2.2.1, x19.2.2.1)) fun r20 => some r20 else none else none) (fun x21 => if (0 : Int) ≤ x21.2.1 then if x21.2.1 < (List.length x21.2.2.2.2.2.2.2.2.2.2.2.2.2.2.2 : Int) then Option.bind (yU (x21.2.2.2.1, x21.2.2.2.2.1, x21.2.2.2.2.2.1, x21.2.2.2.2.2.2.1, x21.2.2.2.2.2.2.2.1, x21.2.2.2.2.2.2.2.2.1, x21.2.2.2.2.2.2.2.2.2.2.1, x21.2.2.2.2.2.2.2.2.2.2.2.1, x21.2.2.2.2.2.2.2.2.2.2.2.2.1, x21.2.2.2.2.2.2.2.2.2.2.2.2.2.2.1, (List.set x21.2.2.2.2.2.2.2.2.2.2.2.2.2.2.2 (Int.toNat x21.2.1) ((yi x21.2.2.2.2.2.2.2.2.2.2.2.2.2.2.2 x21.2.1).1, (yi x21.2.2.2.2.2.2.2.2.2.2.2.2.2.2.2 x21.2.1).2.1, x21.1, (yi x21.2.2.2.2.2.2.2.2.2.2.2.2.2.2.2 x21.2.1).2.2.2)), x21.2.2.2.2.2.2.2.2.2.2.2.2.2.1, x21.2.2.1)) fun r22 => some r22 else none else none) (Sum.inl (x.2.2.2.2.2.2.2, r14, true, (Go.IntKind.wrap .i64 ((yi x.2.2.2.2.1 r14).2.2.1 - (1 : Int))), x.1, x.2.1, x.2.2.1, x.2.2.2.1, x.2.2.2.2.1, x.2.2.2.2.2.1, (0 : Int), r1.2.2.2.2.2, r1.1, r1.2.1, r1.2.2.1, r1.2.2.2.1, r1.2.2.2.2.1)) else none else none
def yg3 : List QF := [yg2, y7p, yjI, ynw, ywE, yC3]
def y2d (t : ynY) : St := ⟨dd 2 (vI t.1 :: .box 3 0 :: dd 2 (.box 6 0 :: .dead :: .box 8 0 :: .dead :: vI t.2.1 :: vB t.2.2.1 :: vI t.2.2.2.1 :: dd 49 [])), [(3, .box [zi t.2.2.2.2.1, yE t.2.2.2.2.2.1, zu t.2.2.2.2.2.2.1, z0 t.2.2.2.2.2.2.2.1, zW t.2.2.2.2.2.2.2.2.1, vI t.2.2.2.2.2.2.2.2.2.1]), (6, .box [.nils, .nils, .nils, .nils, .nils, vI t.2.2.2.2.2.2.2.2.2.2.1]), (8, .box [.own 10000000, .own 10000001, .own 10000002, .own 10000003, .own 10000004, vI t.2.2.2.2.2.2.2.2.2.2.2.1]), (10000000, .root true 3 yd t.2.2.2.2.2.2.2.2.2.2.2.2.1), (10000001, .root true 99 yl t.2.2.2.2.2.2.2.2.2.2.2.2.2.1), (10000002, .root true 67 yo t.2.2.2.2.2.2.2.2.2.2.2.2.2.2.1), (10000003, .root true 53 yj t.2.2.2.2.2.2.2.2.2.2.2.2.2.2.2.1), (10000004, .root true 41 yO t.2.2.2.2.2.2.2.2.2.2.2.2.2.2.2.2)]⟩
theorem yg4 : ∀ s t, unG yAx y2d s = some t → y2d t = s := yq fun t => by kernel_rfl
def y2e (t : ynZ) : St := ⟨dd 2 (vI t.1 :: .box 3 0 :: dd 2 (.box 6 0 :: .dead :: .box 8 0 :: .dead :: vI t.2.1 :: vB t.2.2.1 :: vI t.2.2.2.1 :: dd 49 [])), [(3, .box [zi t.2.2.2.2.1, yE t.2.2.2.2.2.1, zu t.2.2.2.2.2.2.1, z0 t.2.2.2.2.2.2.2.1, zW t.2.2.2.2.2.2.2.2.1, vI t.2.2.2.2.2.2.2.2.2.1]), (6, .box [.nils, .nils, .nils, .nils, .nils, vI t.2.2.2.2.2.2.2.2.2.2.1]), (8, .box [zi t.2.2.2.2.2.2.2.2.2.2.2.1, yE t.2.2.2.2.2.2.2.2.2.2.2.2.1, zu t.2.2.2.2.2.2.2.2.2.2.2.2.2.1, .own 10000000, .own 10000001, vI t.2.2.2.2.2.2.2.2.2.2.2.2.2.2.1]), (10000000, .root true 53 yj t.2.2.2.2.2.2.2.2.2.2.2.2.2.2.2.1), (10000001, .root true 41 yO t.2.2.2.2.2.2.2.2.2.2.2.2.2.2.2.2)]⟩
theorem yg5 : ∀ s t, unG yAy y2e s = some t → y2e t = s := yq fun t => by kernel_rfl
def y2f : (ynY ⊕ ynZ) → St := Sum.elim y2d y2e
def y50 (s : St) : Option (ynY ⊕ ynZ) := ((unG yAx y2d s).map Sum.inl).or (((unG yAy y2e) s).map Sum.inr)
theorem yg6 : ∀ s t, y50 s = some t → y2f t = s := y9V yg4 yg5
def y81 : Gk wY := fun κ => jJ (fun t => κ (some 0) ⟨dd 2 (vI t.1 :: .box 3 0 :: dd 2 (.box 6 0 :: .dead :: .box 8 0 :: .dead :: vI t.2.1 :: vB t.2.2.1 :: dd 50 [])), [(3, .box [zi t.2.2.2.1, yE t.2.2.2.2.1, zu t.2.2.2.2.2.1, z0 t.2.2.2.2.2.2.1, zW t.2.2.2.2.2.2.2.1, vI t.2.2.2.2.2.2.2.2.1]), (6, .box [.nils, .nils, .nils, .nils, .nils, vI t.2.2.2.2.2.2.2.2.2.1]), (8, .box [.own 10000000, .own 10000001, .own 10000002, .own 10000003, .own 10000004, vI t.2.2.2.2.2.2.2.2.2.2.1]), (10000000, .root true 3 yd t.2.2.2.2.2.2.2.2.2.2.2.1), (10000001, .root true 99 yl t.2.2.2.2.2.2.2.2.2.2.2.2.1), (10000002, .root true 67 yo t.2.2.2.2.2.2.2.2.2.2.2.2.2.1), (10000003, .root true 53 yj t.2.2.2.2.2.2.2.2.2.2.2.2.2.2.1), (10000004, .root true 41 yO t.2.2.2.2.2.2.2.2.2.2.2.2.2.2.2)]⟩) (fun t => κ (some 0) ⟨dd 2 (vI t.1 :: .box 3 0 :: dd 2 (.box 6 0 :: .dead :: .box 8 0 :: .dead :: vI t.2.1 :: vB t.2.2.1 :: dd 50 [])), [(3, .box [zi t.2.2.2.1, yE t.2.2.2.2.1, zu t.2.2.2.2.2.1, z0 t.2.2.2.2.2.2.1, zW t.2.2.2.2.2.2.2.1, vI t.2.2.2.2.2.2.2.2.1]), (6, .box [.nils, .nils, .nils, .nils, .nils, vI t.2.2.2.2.2.2.2.2.2.1]), (8, .box [zi t.2.2.2.2.2.2.2.2.2.2.1, yE t.2.2.2.2.2.2.2.2.2.2.2.1, zu t.2.2.2.2.2.2.2.2.2.2.2.2.1, .own 10000000, .own 10000001, vI t.2.2.2.2.2.2.2.2.2.2.2.2.2.1]), (10000000, .root true 53 yj t.2.2.2.2.2.2.2.2.2.2.2.2.2.2.1), (10000001, .root true 41 yO t.2.2.2.2.2.2.2.2.2.2.2.2.2.2.2)]⟩)
def yg7 : Lp := lpC 10 y50 @y81 lpN
theorem yg8 : LF yg3 yg7 115 10 Tryz.f115 0 y2f @y81 fun v : ynY => .inl v := fun R κ again v => by kernel_rfl
theorem yg9 : LF yg3 yg7 115 10 Tryz.f115 0 y2f @y81 fun v : ynZ => .inr v := fun R κ again v => by kernel_rfl
theorem ylT : LF yg3 yg7 115 10 Tryz.f115 0 y2f @y81 fun t => t := (LC.sum yg8 yg9)
theorem ylU : LK yg3 yg7 115 Tryz.f115 0 := lkN (u := y50) yg6 ylT
theorem yx4 : EV yg3 yg7 115 Tryz.f115 yqH yuq ybz wc := fun x => by kernel_rfl
def yDd : QF := ⟨115, wc, okN (n := 1) Tryz.func115 ⟨ylU, trivial⟩ yx4⟩
def vY (x : yux) : Option yeO :=
 Option.bind (w9 (x.2.2.1, x.2.2.2.2)) fun r1 => Option.bind (jv (x.1, x.2.1, x.2.2.2.1, r1)) fun r2 => some r2
theorem yx5 : EV [yC0, yC1] lpN 210 Tryz.f210 yqI yuy yeP vY := fun x => by kernel_rfl
def yDe : QF := ⟨210, vY, okN (n := 0) Tryz.func210 trivial yx5⟩
def vZ (x : yAz) : Option Bool :=
 Option.bind (vY (x.1, x.2.1, x.2.2.1, x.2.2.2.1, x.2.2.2.2.2.2.2.2)) fun r1 => Option.bind (bif r1.2.2.2.2.2 then some (r1.2.1 == x.2.2.2.2.1) else some false) fun u2 => some u2
theorem yx6 : EV [yDe] lpN 209 Tryz.f209 yqJ yAA [.bool] vZ := fun x => by kernel_rfl
def yDf : QF := ⟨209, vZ, okN (n := 0) Tryz.func209 trivial yx6⟩
abbrev WP : Type := yAB
def Zh (k0 : Bool → Option R) (k1 : Unit → Option R) (again : WP → Option R) (t2 : WP) : Option R :=
 bif (decide (t2.1 < (List.length t2.2.2.2.2.2.1 : Int))) then if (0 : Int) ≤ t2.1 then if t2.1 < (List.length t2.2.2.2.2.2.1 : Int) then Option.bind (bif (decide ((yi t2.2.2.2.2.2.1 t2.1).2.2.1 > t2.2.2.2.2.2.2.2.1)) then if (0 : Int) ≤ t2.1 then if t2.1 < (List.length t2.2.2.2.2.2.1 : Int) then Option.bind (vZ (t2.2.1, t2.2.2.1, t2.2.2.2.1, t2.2.2.2.2.2.2.2.1, t2.2.2.2.2.2.2.2.2.1, t2.2.2.2.2.2.2.2.2.2.1, t2.2.2.2.2.2.2.2.2.2.2.1, t2.2.2.2.2.2.2.2.2.2.2.2, (yi t2.2.2.2.2.2.1 t2.1).2.1)) fun r2 => some r2 else none else none else some false) fun u1 => bif u1 then k0 true else again ((Go.IntKind.wrap .i64 (t2.1 + (1 : Int))), t2.2.1, t2.2.2.1, t2.2.2.2.1, t2.2.2.2.2.1, t2.2.2.2.2.2.1, t2.2.2.2.2.2.2.1, t2.2.2.2.2.2.2.2.1, t2.2.2.2.2.2.2.2.2.1, t2.2.2.2.2.2.2.2.2.2.1, t2.2.2.2.2.2.2.2.2.2.2.1, t2.2.2.2.2.2.2.2.2.2.2.2) else none else none else k1 ()
def VD k0 k1 := zS (@Zh R k0 k1) Y4
def jK (x : ynt) : Option Bool :=
 VD (fun x3 => some x3) (fun x4 => some false) ((0 : Int), x.1, x.2.1, x.2.2.1, x.2.2.2.1, x.2.2.2.2.1, x.2.2.2.2.2.1, x.2.2.2.2.2.2.1, x.2.2.2.2.2.2.2.1, x.2.2.2.2.2.2.2.2.1, x.2.2.2.2.2.2.2.2.2.1, x.2.2.2.2.2.2.2.2.2.2)
def ylV : List QF := [yDf]
def y82 (t : yAB) : St := ⟨dd 2 (.box 2 0 :: .box 3 0 :: .dead :: vI t.1 :: dd 30 []), [(2, .box [zi t.2.1, yE t.2.2.1, zu t.2.2.2.1, z0 t.2.2.2.2.1, zW t.2.2.2.2.2.1, vI t.2.2.2.2.2.2.1]), (3, .box [vI t.2.2.2.2.2.2.2.1, vI t.2.2.2.2.2.2.2.2.1, vI t.2.2.2.2.2.2.2.2.2.1, vI t.2.2.2.2.2.2.2.2.2.2.1, vI t.2.2.2.2.2.2.2.2.2.2.2])]⟩
def yjV : Gk WP := fun κ => Zh (fun t => κ none ⟨dd 4 (vB t :: dd 31 []), []⟩) (fun t => κ (some 0) ⟨dd 36 [], []⟩)
def ylW : Lp := lpC 2 (unG yAC y82) @yjV lpN
theorem ysA : LF ylV ylW 206 2 Tryz.f206 0 y82 @yjV fun t => t := fun R κ again t => by kernel_rfl
theorem ysB : LK ylV ylW 206 Tryz.f206 0 := lkN (u := (unG yAC y82)) (yq fun t => by kernel_rfl) ysA
theorem yx7 : EV ylV ylW 206 Tryz.f206 yqK ynu [.bool] jK := fun x => by kernel_rfl
def yDg : QF := ⟨206, jK, okN (n := 1) Tryz.func206 ⟨ysB, trivial⟩ yx7⟩
abbrev qX : Type := yv7
def WQ (k0 : Bool → Option R) (k1 : Unit → Option R) (again : qX → Option R) (t2 : qX) : Option R :=
 bif (decide (t2.2.1 < (List.length t2.2.2.2.2.2.2.1 : Int))) then if (0 : Int) ≤ t2.2.1 then if t2.2.1 < (List.length t2.2.2.2.2.2.2.1 : Int) then bif ((yi t2.2.2.2.2.2.2.1 t2.2.1).2.1 == t2.1) then k0 false else again (t2.1, (Go.IntKind.wrap .i64 (t2.2.1 + (1 : Int))), t2.2.2.1, t2.2.2.2.1, t2.2.2.2.2.1, t2.2.2.2.2.2.1, t2.2.2.2.2.2.2.1, t2.2.2.2.2.2.2.2) else none else none else k1 ()
def y2g k0 k1 := zS (@WQ R k0 k1) Y4
def kT (x : yby) : Option Bool :=
 y2g (fun x1 => some x1) (fun x2 => some true) (x.2.2.2.2.2.2, (0 : Int), x.1, x.2.1, x.2.2.1, x.2.2.2.1, x.2.2.2.2.1, x.2.2.2.2.2.1)
def ylX : List QF := []
def y83 (t : yv7) : St := ⟨.dead :: vI t.1 :: .box 2 0 :: dd 2 (vI t.2.1 :: dd 15 []), [(2, .box [zi t.2.2.1, yE t.2.2.2.1, zu t.2.2.2.2.1, z0 t.2.2.2.2.2.1, zW t.2.2.2.2.2.2.1, vI t.2.2.2.2.2.2.2])]⟩
def yjW : Gk qX := fun κ => WQ (fun t => κ none ⟨dd 4 (vB t :: dd 16 []), []⟩) (fun t => κ (some 0) ⟨dd 21 [], []⟩)
def ylY : Lp := lpC 2 (unG yAD y83) @yjW lpN
theorem ysC : LF ylX ylY 194 2 Tryz.f194 0 y83 @yjW fun t => t := fun R κ again t => by kernel_rfl
theorem ysD : LK ylX ylY 194 Tryz.f194 0 := lkN (u := (unG yAD y83)) (yq fun t => by kernel_rfl) ysC
theorem yx8 : EV ylX ylY 194 Tryz.f194 yqL ybz [.bool] kT := fun x => by kernel_rfl
def yC4 : QF := ⟨194, kT, okN (n := 1) Tryz.func194 ⟨ysD, trivial⟩ yx8⟩
def Zi (x : yby) : Option Int :=
 Option.bind (jr (x.2.2.1, x.2.2.2.2.2.2)) fun r1 => Option.bind (kT x) fun r2 => Option.bind (bif (!r2) then some true else some ((List.length r1 : Int) != (1 : Int))) fun u3 => bif u3 then some (0 : Int) else if (0 : Int) ≤ (0 : Int) then if (0 : Int) < (List.length r1 : Int) then some (zt r1 (0 : Int)) else none else none
theorem yx9 : EV [ywh, yC4] lpN 172 Tryz.f172 yqM ybz [(.int .i64)] Zi := fun x => by kernel_rfl
def yC5 : QF := ⟨172, Zi, okN (n := 0) Tryz.func172 trivial yx9⟩
def Kr (x : ynt) : Option Bool :=
 Option.bind (Zi (x.1, x.2.1, x.2.2.1, x.2.2.2.1, x.2.2.2.2.1, x.2.2.2.2.2.1, x.2.2.2.2.2.2.2.1)) fun r1 => bif (r1 == (0 : Int)) then some false else Option.bind (ju (x.1, x.2.1, x.2.2.2.2.2.2.1, r1)) fun r2 => some (!r2.2.2.2.2.2)
theorem yxa : EV [ywK, yC5] lpN 207 Tryz.f207 yqN ynu [.bool] Kr := fun x => by kernel_rfl
def yDh : QF := ⟨207, Kr, okN (n := 0) Tryz.func207 trivial yxa⟩
def WR (x : yAE) : Option Bool :=
 bif (x.2.2.2.2.2.2.1 == (1 : Int)) then Option.bind (jK (x.1, x.2.1, x.2.2.1, x.2.2.2.1, x.2.2.2.2.1, x.2.2.2.2.2.1, x.2.2.2.2.2.2.2)) fun r1 => some (!r1) else bif (x.2.2.2.2.2.2.1 == (2 : Int)) then Option.bind (Z8 (x.1, x.2.1, x.2.2.1, x.2.2.2.2.2.2.2.1, x.2.2.2.2.2.2.2.2.1)) fun r2 => Option.bind (bif (x.2.2.2.2.2.2.2.2.2.1 == (2 : Int)) then some (!r2.2.2.2.2.2) else some false) fun u3 => some u3 else Option.bind (Kr (x.1, x.2.1, x.2.2.1, x.2.2.2.1, x.2.2.2.2.1, x.2.2.2.2.2.1, x.2.2.2.2.2.2.2)) fun r4 => some r4
theorem yxb : EV [yC2, yDg, yDh] lpN 192 Tryz.f192 yqO yAF [.bool] WR := fun x => by kernel_rfl
def yDi : QF := ⟨192, WR, okN (n := 0) Tryz.func192 trivial yxb⟩
abbrev V0 : Type := yjk
def Jr (k0 : yCA → Option R) (k1 : yhc → Option R) (again : V0 → Option R) (t3 : V0) : Option R :=
 bif (decide (t3.2.1 < (List.length t3.2.2.2.2.2.2.2.2 : Int))) then if (0 : Int) ≤ t3.2.1 then if t3.2.1 < (List.length t3.2.2.2.2.2.2.2.2 : Int) then bif ((y6 t3.2.2.2.2.2.2.2.2 t3.2.1).2.1 == t3.1) then k0 (t3.1, false, t3.2.2.1, t3.2.2.2.1, t3.2.2.2.2.1, t3.2.2.2.2.2.1, t3.2.2.2.2.2.2.1, t3.2.2.2.2.2.2.2.1) else again (t3.1, (Go.IntKind.wrap .i64 (t3.2.1 + (1 : Int))), t3.2.2.1, t3.2.2.2.1, t3.2.2.2.2.1, t3.2.2.2.2.2.1, t3.2.2.2.2.2.2.1, t3.2.2.2.2.2.2.2.1, t3.2.2.2.2.2.2.2.2) else none else none else k1 (t3.1, t3.2.2.1, t3.2.2.2.1, t3.2.2.2.2.1, t3.2.2.2.2.2.1, t3.2.2.2.2.2.2.1, t3.2.2.2.2.2.2.2.1)
def y03 k0 k1 := zS (@Jr R k0 k1) Y4
def WS (x : yby) : Option Bool :=
 Option.bind (yP (x.1, x.2.1)) fun r1 => y03 (fun x2 => some x2.2.1) (fun x3 => Option.bind (kT (x3.2.1, x3.2.2.1, x3.2.2.2.1, x3.2.2.2.2.1, x3.2.2.2.2.2.1, x3.2.2.2.2.2.2, x3.1)) fun r4 => Option.bind (bif r4 then Option.bind (jr (x3.2.2.2.1, x3.1)) fun r6 => some (decide ((List.length r6 : Int) ≤ (1 : Int))) else some false) fun u5 => some u5) (x.2.2.2.2.2.2, (0 : Int), x.1, x.2.1, x.2.2.1, x.2.2.2.1, x.2.2.2.2.1, x.2.2.2.2.2.1, r1)
def ylZ : List QF := [ylb, ywh, yC4]
def y84 (t : yjk) : St := ⟨.dead :: vI t.1 :: .box 2 0 :: dd 2 (.own 10000000 :: vI t.2.1 :: dd 27 []), [(2, .box [zi t.2.2.1, yE t.2.2.2.1, zu t.2.2.2.2.1, z0 t.2.2.2.2.2.1, zW t.2.2.2.2.2.2.1, vI t.2.2.2.2.2.2.2.1]), (10000000, .root true 63 yg t.2.2.2.2.2.2.2.2)]⟩
def yjX : Gk V0 := fun κ => Jr (fun t => κ none ⟨.dead :: vI t.1 :: .box 2 0 :: .dead :: vB t.2.1 :: dd 29 [], [(2, .box [zi t.2.2.1, yE t.2.2.2.1, zu t.2.2.2.2.1, z0 t.2.2.2.2.2.1, zW t.2.2.2.2.2.2.1, vI t.2.2.2.2.2.2.2])]⟩) (fun t => κ (some 0) ⟨.dead :: vI t.1 :: .box 2 0 :: dd 31 [], [(2, .box [zi t.2.1, yE t.2.2.1, zu t.2.2.2.1, z0 t.2.2.2.2.1, zW t.2.2.2.2.2.1, vI t.2.2.2.2.2.2])]⟩)
def ym0 : Lp := lpC 3 (unG yns y84) @yjX lpN
theorem ysE : LF ylZ ym0 193 3 Tryz.f193 0 y84 @yjX fun t => t := fun R κ again t => by kernel_rfl
theorem ysF : LK ylZ ym0 193 Tryz.f193 0 := lkN (u := (unG yns y84)) (yq fun t => by kernel_rfl) ysE
theorem yxc : EV ylZ ym0 193 Tryz.f193 yqP ybz [.bool] WS := fun x => by kernel_rfl
def yDj : QF := ⟨193, WS, okN (n := 1) Tryz.func193 ⟨ysF, trivial⟩ yxc⟩
abbrev kU : Type := yjk
def ZS (k0 : yuX → Option R) (k1 : ykJ → Option R) (again : kU → Option R) (t8 : kU) : Option R :=
 bif (decide (t8.2.1 < (List.length t8.2.2.2.2.2.2.2.2 : Int))) then if (0 : Int) ≤ t8.2.1 then if t8.2.1 < (List.length t8.2.2.2.2.2.2.2.2 : Int) then Option.bind (WR (t8.2.2.1, t8.2.2.2.1, t8.2.2.2.2.1, t8.2.2.2.2.2.1, t8.2.2.2.2.2.2.1, t8.2.2.2.2.2.2.2.1, t8.1, (y6 t8.2.2.2.2.2.2.2.2 t8.2.1).1, (y6 t8.2.2.2.2.2.2.2.2 t8.2.1).2.1, (y6 t8.2.2.2.2.2.2.2.2 t8.2.1).2.2.1, (y6 t8.2.2.2.2.2.2.2.2 t8.2.1).2.2.2.1, (y6 t8.2.2.2.2.2.2.2.2 t8.2.1).2.2.2.2)) fun r3 => bif r3 then k0 (t8.1, t8.2.1, t8.1, t8.2.2) else again (t8.1, (Go.IntKind.wrap .i64 (t8.2.1 + (1 : Int))), t8.2.2.1, t8.2.2.2.1, t8.2.2.2.2.1, t8.2.2.2.2.2.1, t8.2.2.2.2.2.2.1, t8.2.2.2.2.2.2.2.1, t8.2.2.2.2.2.2.2.2) else none else none else k1 (t8.1, t8.2.2)
def qs k0 k1 := zS (@ZS R k0 k1) Y4
abbrev kV : Type := ykJ
def ZT (k0 : yv7 → Option R) (k1 : Qz9 → Option R) (again : kV → Option R) (t5 : kV) : Option R :=
 bif (decide (t5.1 ≤ (3 : Int))) then qs (fun x4 => k0 (x4.1, x4.2.1, x4.2.2.2.1, x4.2.2.2.2.1, x4.2.2.2.2.2.1, x4.2.2.2.2.2.2.1, x4.2.2.2.2.2.2.2.1, x4.2.2.2.2.2.2.2.2.1)) (fun x5 => again ((Go.IntKind.wrap .i64 (x5.1 + (1 : Int))), x5.2.1, x5.2.2.1, x5.2.2.2.1, x5.2.2.2.2.1, x5.2.2.2.2.2.1, x5.2.2.2.2.2.2.1, x5.2.2.2.2.2.2.2)) (t5.1, (0 : Int), t5.2.1, t5.2.2.1, t5.2.2.2.1, t5.2.2.2.2.1, t5.2.2.2.2.2.1, t5.2.2.2.2.2.2.1, t5.2.2.2.2.2.2.2) else k1 (t5.2.1, t5.2.2.1, t5.2.2.2.1, t5.2.2.2.2.1, t5.2.2.2.2.2.1, t5.2.2.2.2.2.2.1)
def qt k0 k1 := zS (@ZT R k0 k1) Y4
abbrev WT : Type := yhc
def Zj (k0 : yha → Option R) (k1 : Unit → Option R) (again : WT → Option R) (t13 : WT) : Option R :=
 bif (decide (t13.1 < (List.length t13.2.2.2.1 : Int))) then if (0 : Int) ≤ t13.1 then if t13.1 < (List.length t13.2.2.2.1 : Int) then Option.bind (WS (t13.2.1, t13.2.2.1, t13.2.2.2.1, t13.2.2.2.2.1, t13.2.2.2.2.2.1, t13.2.2.2.2.2.2, (yG t13.2.2.2.1 t13.1).1)) fun r8 => bif r8 then k0 ((4 : Int), t13.1) else again ((Go.IntKind.wrap .i64 (t13.1 + (1 : Int))), t13.2.1, t13.2.2.1, t13.2.2.2.1, t13.2.2.2.2.1, t13.2.2.2.2.2.1, t13.2.2.2.2.2.2) else none else none else k1 ()
def VE k0 k1 := zS (@Zj R k0 k1) Y4
def Js (x : Qz9) : Option yha :=
 Option.bind (yK x) fun r1 => bif (!r1) then some ((0 : Int), (0 : Int)) else Option.bind (yP (x.1, x.2.1)) fun r2 => qt (fun x6 => some (x6.1, x6.2.1)) (fun x7 => VE (fun x9 => some x9) (fun x10 => some ((0 : Int), (0 : Int))) ((0 : Int), x7.1, x7.2.1, x7.2.2.1, x7.2.2.2.1, x7.2.2.2.2.1, x7.2.2.2.2.2)) ((1 : Int), x.1, x.2.1, x.2.2.1, x.2.2.2.1, x.2.2.2.2.1, x.2.2.2.2.2, r2)
def ybB : List QF := [yls, ylb, yDi, yDj]
def y85 (t : yjk) : St := ⟨.dead :: .box 1 0 :: dd 2 (.own 10000000 :: vI t.1 :: vI t.2.1 :: dd 42 []), [(1, .box [zi t.2.2.1, yE t.2.2.2.1, zu t.2.2.2.2.1, z0 t.2.2.2.2.2.1, zW t.2.2.2.2.2.2.1, vI t.2.2.2.2.2.2.2.1]), (10000000, .root true 63 yg t.2.2.2.2.2.2.2.2)]⟩
def yjY : Gk kU := fun κ => ZS (fun t => κ none ⟨.dead :: .box 1 0 :: vI t.1 :: vI t.2.1 :: .own 10000000 :: vI t.2.2.1 :: dd 43 [], [(1, .box [zi t.2.2.2.1, yE t.2.2.2.2.1, zu t.2.2.2.2.2.1, z0 t.2.2.2.2.2.2.1, zW t.2.2.2.2.2.2.2.1, vI t.2.2.2.2.2.2.2.2.1]), (10000000, .root true 63 yg t.2.2.2.2.2.2.2.2.2)]⟩) (fun t => κ (some 2) ⟨.dead :: .box 1 0 :: dd 2 (.own 10000000 :: vI t.1 :: dd 43 []), [(1, .box [zi t.2.1, yE t.2.2.1, zu t.2.2.2.1, z0 t.2.2.2.2.1, zW t.2.2.2.2.2.1, vI t.2.2.2.2.2.2.1]), (10000000, .root true 63 yg t.2.2.2.2.2.2.2)]⟩)
def y86 (t : ykJ) : St := ⟨.dead :: .box 1 0 :: dd 2 (.own 10000000 :: vI t.1 :: dd 43 []), [(1, .box [zi t.2.1, yE t.2.2.1, zu t.2.2.2.1, z0 t.2.2.2.2.1, zW t.2.2.2.2.2.1, vI t.2.2.2.2.2.2.1]), (10000000, .root true 63 yg t.2.2.2.2.2.2.2)]⟩
def yjZ : Gk kV := fun κ => ZT (fun t => κ none ⟨.dead :: .box 1 0 :: vI t.1 :: vI t.2.1 :: dd 45 [], [(1, .box [zi t.2.2.1, yE t.2.2.2.1, zu t.2.2.2.2.1, z0 t.2.2.2.2.2.1, zW t.2.2.2.2.2.2.1, vI t.2.2.2.2.2.2.2])]⟩) (fun t => κ (some 0) ⟨.dead :: .box 1 0 :: dd 47 [], [(1, .box [zi t.1, yE t.2.1, zu t.2.2.1, z0 t.2.2.2.1, zW t.2.2.2.2.1, vI t.2.2.2.2.2])]⟩)
def y51 (t : yhc) : St := ⟨.dead :: .box 1 0 :: dd 5 (vI t.1 :: dd 41 []), [(1, .box [zi t.2.1, yE t.2.2.1, zu t.2.2.2.1, z0 t.2.2.2.2.1, zW t.2.2.2.2.2.1, vI t.2.2.2.2.2.2])]⟩
def yga : Gk WT := fun κ => Zj (fun t => κ none ⟨dd 2 (vI t.1 :: vI t.2 :: dd 45 []), []⟩) (fun t => κ (some 4) ⟨dd 49 [], []⟩)
def ybC : Lp := lpC 13 (unG ynr y51) @yga (lpC 5 (unG yo0 y86) @yjZ (lpC 8 (unG yns y85) @yjY lpN))
theorem ysG : LF ybB ybC 170 8 Tryz.f170 1 y85 @yjY fun t => t := fun R κ again t => by kernel_rfl
theorem ysH : LK ybB ybC 170 Tryz.f170 1 := lkN (u := (unG yns y85)) (yq fun t => by kernel_rfl) ysG
theorem ysI : LF ybB ybC 170 5 Tryz.f170 0 y86 @yjZ fun t => t := fun R κ again t => by kernel_rfl
theorem ysJ : LK ybB ybC 170 Tryz.f170 0 := lkN (u := (unG yo0 y86)) (yq fun t => by kernel_rfl) ysI
theorem ym1 : LF ybB ybC 170 13 Tryz.f170 2 y51 @yga fun t => t := fun R κ again t => by kernel_rfl
theorem ym2 : LK ybB ybC 170 Tryz.f170 2 := lkN (u := (unG ynr y51)) (yq fun t => by kernel_rfl) ym1
theorem yxd : EV ybB ybC 170 Tryz.f170 yqQ qz9 ykF Js := fun x => by kernel_rfl
def yDk : QF := ⟨170, Js, okN (n := 3) Tryz.func170 ⟨ysJ, ysH, ym2, trivial⟩ yxd⟩
def ZD (x : ynt) : Option yhV :=
 Option.bind (zK (x.1, x.2.1, x.2.2.1, x.2.2.2.1, x.2.2.2.2.1, x.2.2.2.2.2.1, x.2.2.2.2.2.2.1, x.2.2.2.2.2.2.2.1, (0 : Int), (0 : Int), (0 : Int))) fun r1 => some r1
theorem yxe : EV [ywV] lpN 171 Tryz.f171 yqR ynu ynW ZD := fun x => by kernel_rfl
def yDl : QF := ⟨171, ZD, okN (n := 0) Tryz.func171 trivial yxe⟩
abbrev V1 : Type := yo1
def WU (k0 : List y9 → Option R) (again : V1 → Option R) (t6 : V1) : Option R :=
 bif (decide (t6.2.2.2.1 < (List.length t6.1 : Int))) then if (0 : Int) ≤ t6.2.2.2.1 then if t6.2.2.2.1 < (List.length t6.1 : Int) then bif ((yG t6.1 t6.2.2.2.1).2 == t6.2.1) then if (0 : Int) ≤ t6.2.2.1 then if t6.2.2.1 < (List.length t6.1 : Int) then bif (t6.2.2.2.1 != t6.2.2.1) then if (List.length t6.2.2.2.2 + List.length ([((yG t6.1 t6.2.2.2.1).1, (yG t6.1 t6.2.2.1).2)] : List y9)) * 16 < 140737488355328 then again (t6.1, t6.2.1, t6.2.2.1, (Go.IntKind.wrap .i64 (t6.2.2.2.1 + (1 : Int))), (t6.2.2.2.2 ++ ([((yG t6.1 t6.2.2.2.1).1, (yG t6.1 t6.2.2.1).2)] : List y9))) else none else again (t6.1, t6.2.1, t6.2.2.1, (Go.IntKind.wrap .i64 (t6.2.2.2.1 + (1 : Int))), t6.2.2.2.2) else none else none else bif (t6.2.2.2.1 != t6.2.2.1) then if (List.length t6.2.2.2.2 + List.length ([((yG t6.1 t6.2.2.2.1).1, (yG t6.1 t6.2.2.2.1).2)] : List y9)) * 16 < 140737488355328 then again (t6.1, t6.2.1, t6.2.2.1, (Go.IntKind.wrap .i64 (t6.2.2.2.1 + (1 : Int))), (t6.2.2.2.2 ++ ([((yG t6.1 t6.2.2.2.1).1, (yG t6.1 t6.2.2.2.1).2)] : List y9))) else none else again (t6.1, t6.2.1, t6.2.2.1, (Go.IntKind.wrap .i64 (t6.2.2.2.1 + (1 : Int))), t6.2.2.2.2) else none else none else k0 t6.2.2.2.2
def y04 k0 := zS (@WU R k0) Y4
def wd (x : yfD) : Option ynT :=
 Option.bind (zU x) fun r1 => Option.bind (bif (decide (r1 < (0 : Int))) then some true else Option.bind (Zd x.1) fun r3 => some (!r3)) fun u2 => bif u2 then if (List.length ([] : List y9) + List.length x.1) * 16 < 140737488355328 then some ((([] : List y9) ++ x.1), false) else none else y04 (fun x4 => some (x4, true)) (x.1, x.2, r1, (0 : Int), ([] : List y9))
def ym3 : List QF := [ywd, ynv]
def y87 (t : yo1) : St := ⟨zu t.1 :: vI t.2.1 :: dd 4 (vI t.2.2.1 :: .own 10000000 :: vI t.2.2.2.1 :: dd 43 []), [(10000000, .root true 67 yo t.2.2.2.2)]⟩
def yk0 : Gk V1 := fun κ => WU (fun t => κ (some 0) ⟨dd 7 (.own 10000000 :: dd 44 []), [(10000000, .root true 67 yo t)]⟩)
def ym4 : Lp := lpC 6 (unG yo2 y87) @yk0 lpN
theorem ysK : LF ym3 ym4 173 6 Tryz.f173 0 y87 @yk0 fun t => t := fun R κ again t => by kernel_rfl
theorem ysL : LK ym3 ym4 173 Tryz.f173 0 := lkN (u := (unG yo2 y87)) (yq fun t => by kernel_rfl) ysK
theorem yxf : EV ym3 ym4 173 Tryz.f173 yqS yfE yuV wd := fun x => by kernel_rfl
def yDm : QF := ⟨173, wd, okN (n := 1) Tryz.func173 ⟨ysL, trivial⟩ yxf⟩
def Yi (x : Qz9) : Option yfF :=
 Option.bind (ym x) fun r1 => Option.bind (Js x) fun r2 => Option.bind (yP (x.1, x.2.1)) fun r3 => bif (r2.1 == (1 : Int)) then bif (r2.1 == (1 : Int)) then if (0 : Int) ≤ r2.2 then if r2.2 < (List.length r3 : Int) then Option.bind (ZD (r1.1, r1.2.1, r1.2.2.1, r1.2.2.2.1, r1.2.2.2.2.1, r1.2.2.2.2.2, (y6 r3 r2.2).1, (y6 r3 r2.2).2.1, (y6 r3 r2.2).2.2.1, (y6 r3 r2.2).2.2.2.1, (y6 r3 r2.2).2.2.2.2)) fun r4 => Option.bind (bif (!r4.1) then some true else Option.bind (yK r4.2) fun r6 => some (!r6)) fun u5 => bif u5 then Option.bind (ym x) fun r7 => some (r7.1, r7.2.1, r7.2.2.1, r7.2.2.2.1, r7.2.2.2.2.1, r7.2.2.2.2.2, false) else some (r4.2.1, r4.2.2.1, r4.2.2.2.1, r4.2.2.2.2.1, r4.2.2.2.2.2.1, r4.2.2.2.2.2.2, true) else none else none else bif (r2.1 == (3 : Int)) then if (0 : Int) ≤ r2.2 then if r2.2 < (List.length r3 : Int) then Option.bind (Y5 (r1.1, r1.2.1, (y6 r3 r2.2).1, (y6 r3 r2.2).2.1, (0 : Int), (0 : Int), (0 : Int))) fun r8 => Option.bind (Zi (x.1, x.2.1, x.2.2.1, x.2.2.2.1, x.2.2.2.2.1, x.2.2.2.2.2, (y6 r3 r2.2).2.1)) fun r9 => Option.bind (Y5 (r8.1, r8.2.1, (y6 r3 r2.2).1, r9, (y6 r3 r2.2).2.2.1, (y6 r3 r2.2).2.2.2.1, (y6 r3 r2.2).2.2.2.2)) fun r10 => Option.bind (bif r8.2.2 then some r10.2.2 else some false) fun u11 => Option.bind (bif (!u11) then some true else Option.bind (yK (r10.1, r10.2.1, r1.2.2)) fun r13 => some (!r13)) fun u12 => bif u12 then Option.bind (ym x) fun r14 => some (r14.1, r14.2.1, r14.2.2.1, r14.2.2.2.1, r14.2.2.2.2.1, r14.2.2.2.2.2, false) else some (r10.1, r10.2.1, r1.2.2.1, r1.2.2.2.1, r1.2.2.2.2.1, r1.2.2.2.2.2, true) else none else none else bif (r2.1 == (4 : Int)) then if (0 : Int) ≤ r2.2 then if r2.2 < (List.length x.2.2.1 : Int) then Option.bind (wd (x.2.2.1, (yG x.2.2.1 r2.2).1)) fun r15 => Option.bind (bif (!r15.2) then some true else Option.bind (yK (r1.1, r1.2.1, r15.1, r1.2.2.2)) fun r17 => some (!r17)) fun u16 => bif u16 then Option.bind (ym x) fun r18 => some (r18.1, r18.2.1, r18.2.2.1, r18.2.2.2.1, r18.2.2.2.2.1, r18.2.2.2.2.2, false) else some (r1.1, r1.2.1, r15.1, r1.2.2.2.1, r1.2.2.2.2.1, r1.2.2.2.2.2, true) else none else none else Option.bind (bif (!(r2.1 != (0 : Int))) then some true else Option.bind (yK r1) fun r20 => some (!r20)) fun u19 => bif u19 then Option.bind (ym x) fun r21 => some (r21.1, r21.2.1, r21.2.2.1, r21.2.2.2.1, r21.2.2.2.2.1, r21.2.2.2.2.2, false) else some (r1.1, r1.2.1, r1.2.2.1, r1.2.2.2.1, r1.2.2.2.2.1, r1.2.2.2.2.2, true) else bif (r2.1 == (2 : Int)) then if (0 : Int) ≤ r2.2 then if r2.2 < (List.length r3 : Int) then Option.bind (ZD (r1.1, r1.2.1, r1.2.2.1, r1.2.2.2.1, r1.2.2.2.2.1, r1.2.2.2.2.2, (y6 r3 r2.2).1, (y6 r3 r2.2).2.1, (y6 r3 r2.2).2.2.1, (y6 r3 r2.2).2.2.2.1, (y6 r3 r2.2).2.2.2.2)) fun r22 => Option.bind (bif (!r22.1) then some true else Option.bind (yK r22.2) fun r24 => some (!r24)) fun u23 => bif u23 then Option.bind (ym x) fun r25 => some (r25.1, r25.2.1, r25.2.2.1, r25.2.2.2.1, r25.2.2.2.2.1, r25.2.2.2.2.2, false) else some (r22.2.1, r22.2.2.1, r22.2.2.2.1, r22.2.2.2.2.1, r22.2.2.2.2.2.1, r22.2.2.2.2.2.2, true) else none else none else bif (r2.1 == (3 : Int)) then if (0 : Int) ≤ r2.2 then if r2.2 < (List.length r3 : Int) then Option.bind (Y5 (r1.1, r1.2.1, (y6 r3 r2.2).1, (y6 r3 r2.2).2.1, (0 : Int), (0 : Int), (0 : Int))) fun r26 => Option.bind (Zi (x.1, x.2.1, x.2.2.1, x.2.2.2.1, x.2.2.2.2.1, x.2.2.2.2.2, (y6 r3 r2.2).2.1)) fun r27 => Option.bind (Y5 (r26.1, r26.2.1, (y6 r3 r2.2).1, r27, (y6 r3 r2.2).2.2.1, (y6 r3 r2.2).2.2.2.1, (y6 r3 r2.2).2.2.2.2)) fun r28 => Option.bind (bif r26.2.2 then some r28.2.2 else some false) fun u29 => Option.bind (bif (!u29) then some true else Option.bind (yK (r28.1, r28.2.1, r1.2.2)) fun r31 => some (!r31)) fun u30 => bif u30 then Option.bind (ym x) fun r32 => some (r32.1, r32.2.1, r32.2.2.1, r32.2.2.2.1, r32.2.2.2.2.1, r32.2.2.2.2.2, false) else some (r28.1, r28.2.1, r1.2.2.1, r1.2.2.2.1, r1.2.2.2.2.1, r1.2.2.2.2.2, true) else none else none else bif (r2.1 == (4 : Int)) then if (0 : Int) ≤ r2.2 then if r2.2 < (List.length x.2.2.1 : Int) then Option.bind (wd (x.2.2.1, (yG x.2.2.1 r2.2).1)) fun r33 => Option.bind (bif (!r33.2) then some true else Option.bind (yK (r1.1, r1.2.1, r33.1, r1.2.2.2)) fun r35 => some (!r35)) fun u34 => bif u34 then Option.bind (ym x) fun r36 => some (r36.1, r36.2.1, r36.2.2.1, r36.2.2.2.1, r36.2.2.2.2.1, r36.2.2.2.2.2, false) else some (r1.1, r1.2.1, r33.1, r1.2.2.2.1, r1.2.2.2.2.1, r1.2.2.2.2.2, true) else none else none else Option.bind (bif (!(r2.1 != (0 : Int))) then some true else Option.bind (yK r1) fun r38 => some (!r38)) fun u37 => bif u37 then Option.bind (ym x) fun r39 => some (r39.1, r39.2.1, r39.2.2.1, r39.2.2.2.1, r39.2.2.2.2.1, r39.2.2.2.2.2, false) else some (r1.1, r1.2.1, r1.2.2.1, r1.2.2.2.1, r1.2.2.2.2.1, r1.2.2.2.2.2, true)
theorem yxg : EV [yls, yg2, ylb, ywR, yDk, yDl, yC5, yDm] lpN 152 Tryz.f152 yqT qz9 yfG Yi := fun x => by kernel_rfl
def yDn : QF := ⟨152, Yi, okN (n := 0) Tryz.func152 trivial yxg⟩
def WV (x : List ya) : Option (List ya) :=
 Option.bind (yC x) fun r1 => Option.bind (yX r1) fun r2 => some r2
theorem yxh : EV [yl8, yuB] lpN 195 Tryz.f195 yqU [(.sl 58 yp)] [(.sl 58 yp)] WV := fun x => by kernel_rfl
def yDo : QF := ⟨195, WV, okN (n := 0) Tryz.func195 trivial yxh⟩
def Jt (x : ynR) : Option Qz8 :=
 Option.bind (Zf (x.1, x.2.1)) fun r1 => Option.bind (yB (x.2.2, (0 : Int), (Go.IntKind.wrap .i64 ((List.length x.2.1 : Int) - (1 : Int))))) fun r2 => bif r2 then if (0 : Int) ≤ x.2.2 then if x.2.2 < (List.length x.2.1 : Int) then Option.bind (WV (ye x.2.1 x.2.2)) fun r3 => if (0 : Int) ≤ x.2.2 then if x.2.2 < (List.length r1.2 : Int) then some (r1.1, (List.set r1.2 (Int.toNat x.2.2) r3)) else none else none else none else none else some r1
theorem yxi : EV [y7p, ywp, yDo] lpN 174 Tryz.f174 yqV ynS qz8 Jt := fun x => by kernel_rfl
def yDp : QF := ⟨174, Jt, okN (n := 0) Tryz.func174 trivial yxi⟩
def Yw (x : yby) : Option yfF :=
 Option.bind (ym (x.1, x.2.1, x.2.2.1, x.2.2.2.1, x.2.2.2.2.1, x.2.2.2.2.2.1)) fun r1 => Option.bind (yK (x.1, x.2.1, x.2.2.1, x.2.2.2.1, x.2.2.2.2.1, x.2.2.2.2.2.1)) fun r2 => Option.bind (bif (!r2) then some true else Option.bind (yB (x.2.2.2.2.2.2, (0 : Int), (Go.IntKind.wrap .i64 ((List.length x.2.1 : Int) - (1 : Int))))) fun r4 => some (!r4)) fun u3 => bif u3 then some (r1.1, r1.2.1, r1.2.2.1, r1.2.2.2.1, r1.2.2.2.2.1, r1.2.2.2.2.2, false) else Option.bind (Jt (x.1, x.2.1, x.2.2.2.2.2.2)) fun r5 => some (r5.1, r5.2, r1.2.2.1, r1.2.2.2.1, r1.2.2.2.2.1, r1.2.2.2.2.2, true)
theorem yxj : EV [yls, yg2, y7p, yDp] lpN 153 Tryz.f153 yqW ybz yfG Yw := fun x => by kernel_rfl
def yDq : QF := ⟨153, Yw, okN (n := 0) Tryz.func153 trivial yxj⟩
abbrev V2 : Type := yo3
def Ju (k0 : yh9 → Option R) (k1 : yh9 → Option R) (again : V2 → Option R) (t3 : V2) : Option R :=
 bif (decide (t3.2.1 < (List.length t3.2.2.2.2.2.2.2 : Int))) then if (0 : Int) ≤ t3.2.1 then if t3.2.1 < (List.length t3.2.2.2.2.2.2.2 : Int) then Option.bind (bif ((y6 t3.2.2.2.2.2.2.2 t3.2.1).2.2.1 == (1 : Int)) then if (0 : Int) ≤ t3.2.1 then if t3.2.1 < (List.length t3.2.2.2.2.2.2.2 : Int) then some ((y6 t3.2.2.2.2.2.2.2 t3.2.1).2.2.2.1 == t3.1) else none else none else some false) fun u2 => bif u2 then if (0 : Int) ≤ t3.2.1 then if t3.2.1 < (List.length t3.2.2.2.2.2.2.2 : Int) then k0 ((y6 t3.2.2.2.2.2.2.2 t3.2.1).1, (y6 t3.2.2.2.2.2.2.2 t3.2.1).2.1, (y6 t3.2.2.2.2.2.2.2 t3.2.1).2.2.1, (y6 t3.2.2.2.2.2.2.2 t3.2.1).2.2.2.1, (y6 t3.2.2.2.2.2.2.2 t3.2.1).2.2.2.2) else none else none else again (t3.1, (Go.IntKind.wrap .i64 (t3.2.1 + (1 : Int))), t3.2.2.1, t3.2.2.2.1, t3.2.2.2.2.1, t3.2.2.2.2.2.1, t3.2.2.2.2.2.2.1, t3.2.2.2.2.2.2.2) else none else none else k1 (t3.2.2.1, t3.2.2.2.1, t3.2.2.2.2.1, t3.2.2.2.2.2.1, t3.2.2.2.2.2.2.1)
def y05 k0 k1 := zS (@Ju R k0 k1) Y4
def WW (x : yby) : Option yh9 :=
 Option.bind (yP (x.1, x.2.1)) fun r1 => y05 (fun x3 => some x3) (fun x4 => some ((0 : Int), (0 : Int), (0 : Int), (0 : Int), (0 : Int))) (x.2.2.2.2.2.2, (0 : Int), (0 : Int), (0 : Int), (0 : Int), (0 : Int), (0 : Int), r1)
def ym5 : List QF := [ylb]
def y88 (t : yo3) : St := ⟨.dead :: vI t.1 :: dd 2 (.box 4 0 :: .own 10000000 :: vI t.2.1 :: dd 29 []), [(4, .box [vI t.2.2.1, vI t.2.2.2.1, vI t.2.2.2.2.1, vI t.2.2.2.2.2.1, vI t.2.2.2.2.2.2.1]), (10000000, .root true 63 yg t.2.2.2.2.2.2.2)]⟩
def yk1 : Gk V2 := fun κ => Ju (fun t => κ none ⟨dd 4 (.box 4 0 :: dd 31 []), [(4, .box [vI t.1, vI t.2.1, vI t.2.2.1, vI t.2.2.2.1, vI t.2.2.2.2])]⟩) (fun t => κ (some 0) ⟨dd 4 (.box 4 0 :: dd 31 []), [(4, .box [vI t.1, vI t.2.1, vI t.2.2.1, vI t.2.2.2.1, vI t.2.2.2.2])]⟩)
def ym6 : Lp := lpC 3 (unG yo4 y88) @yk1 lpN
theorem ysM : LF ym5 ym6 175 3 Tryz.f175 0 y88 @yk1 fun t => t := fun R κ again t => by kernel_rfl
theorem ysN : LK ym5 ym6 175 Tryz.f175 0 := lkN (u := (unG yo4 y88)) (yq fun t => by kernel_rfl) ysM
theorem yxk : EV ym5 ym6 175 Tryz.f175 yqX ybz Vs WW := fun x => by kernel_rfl
def yDr : QF := ⟨175, WW, okN (n := 1) Tryz.func175 ⟨ysN, trivial⟩ yxk⟩
def Yx (x : yby) : Option yfF :=
 Option.bind (ym (x.1, x.2.1, x.2.2.1, x.2.2.2.1, x.2.2.2.2.1, x.2.2.2.2.2.1)) fun r1 => Option.bind (yK (x.1, x.2.1, x.2.2.1, x.2.2.2.1, x.2.2.2.2.1, x.2.2.2.2.2.1)) fun r2 => Option.bind (bif (!r2) then some true else Option.bind (yB (x.2.2.2.2.2.2, (0 : Int), (Go.IntKind.wrap .i64 ((List.length x.2.2.2.1 : Int) - (1 : Int))))) fun r4 => some (!r4)) fun u3 => Option.bind (bif u3 then some true else if (0 : Int) ≤ x.2.2.2.2.2.2 then if x.2.2.2.2.2.2 < (List.length x.2.2.2.1 : Int) then some (!((yA x.2.2.2.1 x.2.2.2.2.2.2).2.1)) else none else none) fun u5 => bif u5 then some (r1.1, r1.2.1, r1.2.2.1, r1.2.2.2.1, r1.2.2.2.2.1, r1.2.2.2.2.2, false) else Option.bind (WW x) fun r6 => if (0 : Int) ≤ x.2.2.2.2.2.2 then if x.2.2.2.2.2.2 < (List.length x.2.2.2.1 : Int) then Option.bind (Y9 (x.2.2.2.1, (yA x.2.2.2.1 x.2.2.2.2.2.2).2.2)) fun r7 => Option.bind (bif (!r7.2.2) then some true else some (decide (r7.2.1 > x.2.2.2.2.2.2))) fun u8 => bif u8 then some (r1.1, r1.2.1, r1.2.2.1, r1.2.2.2.1, r1.2.2.2.2.1, r1.2.2.2.2.2, false) else if (0 : Int) ≤ r7.2.1 then if r7.2.1 < (List.length r7.1 : Int) then Option.bind (Y5 (x.1, x.2.1, r6.1, r6.2.1, r6.2.2.1, r7.2.1, (yA r7.1 r7.2.1).1)) fun r9 => Option.bind (ZR (r7.1, x.2.2.2.2.2.2)) fun r10 => Option.bind (bif (!r9.2.2) then some true else Option.bind (yK (r9.1, r9.2.1, r1.2.2.1, r10, r1.2.2.2.2)) fun r12 => some (!r12)) fun u11 => bif u11 then Option.bind (ym (x.1, x.2.1, x.2.2.1, x.2.2.2.1, x.2.2.2.2.1, x.2.2.2.2.2.1)) fun r13 => some (r13.1, r13.2.1, r13.2.2.1, r13.2.2.2.1, r13.2.2.2.2.1, r13.2.2.2.2.2, false) else some (r9.1, r9.2.1, r1.2.2.1, r10, r1.2.2.2.2.1, r1.2.2.2.2.2, true) else none else none else none else none
theorem yxl : EV [yls, yg2, y7p, yBW, ywR, yDr, yBZ] lpN 154 Tryz.f154 yqY ybz yfG Yx := fun x => by kernel_rfl
def yDs : QF := ⟨154, Yx, okN (n := 0) Tryz.func154 trivial yxl⟩
def Kt (x : ykK) : Option yfF :=
 bif (x.2.2.2.2.2.2.1 == (7 : Int)) then Option.bind (Yi (x.1, x.2.1, x.2.2.1, x.2.2.2.1, x.2.2.2.2.1, x.2.2.2.2.2.1)) fun r1 => some r1 else bif (x.2.2.2.2.2.2.1 == (8 : Int)) then Option.bind (Yw (x.1, x.2.1, x.2.2.1, x.2.2.2.1, x.2.2.2.2.1, x.2.2.2.2.2.1, x.2.2.2.2.2.2.2.2.2.1)) fun r2 => some r2 else Option.bind (Yx (x.1, x.2.1, x.2.2.1, x.2.2.2.1, x.2.2.2.2.1, x.2.2.2.2.2.1, x.2.2.2.2.2.2.2.2.2.1)) fun r3 => some r3
theorem yxm : EV [yDn, yDq, yDs] lpN 116 Tryz.f116 yqZ ykL yfG Kt := fun x => by kernel_rfl
def yDt : QF := ⟨116, Kt, okN (n := 0) Tryz.func116 trivial yxm⟩
def Jv (x : ykK) : Option yby :=
 Option.bind (vF x.2.2.2.2.2.2) fun r1 => Option.bind (bif (!r1) then some true else Option.bind (yK (x.1, x.2.1, x.2.2.1, x.2.2.2.1, x.2.2.2.2.1, x.2.2.2.2.2.1)) fun r3 => some (!r3)) fun u2 => bif u2 then Option.bind (ym (x.1, x.2.1, x.2.2.1, x.2.2.2.1, x.2.2.2.2.1, x.2.2.2.2.2.1)) fun r4 => some (r4.1, r4.2.1, r4.2.2.1, r4.2.2.2.1, r4.2.2.2.2.1, r4.2.2.2.2.2, (1 : Int)) else bif (x.2.2.2.2.2.2.1 == (1 : Int)) then Option.bind (w5 (x.1, x.2.1, x.2.2.1, x.2.2.2.1, x.2.2.2.2.1, x.2.2.2.2.2.1, x.2.2.2.2.2.2.2.1, x.2.2.2.2.2.2.2.2.2.1)) fun r5 => some r5 else bif (x.2.2.2.2.2.2.1 == (2 : Int)) then Option.bind (kQ (x.1, x.2.1, x.2.2.1, x.2.2.2.1, x.2.2.2.2.1, x.2.2.2.2.2.1, x.2.2.2.2.2.2.2.1, x.2.2.2.2.2.2.2.2.1, (x.2.2.2.2.2.2.2.2.2.2 == (1 : Int)))) fun r6 => some r6 else bif (x.2.2.2.2.2.2.1 == (3 : Int)) then Option.bind (kR (x.1, x.2.1, x.2.2.1, x.2.2.2.1, x.2.2.2.2.1, x.2.2.2.2.2.1, x.2.2.2.2.2.2.2.1)) fun r7 => some r7 else bif (x.2.2.2.2.2.2.1 == (4 : Int)) then Option.bind (Wj (x.1, x.2.1, x.2.2.1, x.2.2.2.1, x.2.2.2.2.1, x.2.2.2.2.2.1, x.2.2.2.2.2.2.2.1, x.2.2.2.2.2.2.2.2.2)) fun r8 => some r8 else bif (x.2.2.2.2.2.2.1 == (5 : Int)) then Option.bind (J1 (x.1, x.2.1, x.2.2.1, x.2.2.2.1, x.2.2.2.2.1, x.2.2.2.2.2.1, x.2.2.2.2.2.2.2.1, x.2.2.2.2.2.2.2.2.2.1)) fun r9 => some r9 else bif (x.2.2.2.2.2.2.1 == (6 : Int)) then Option.bind (wc (x.1, x.2.1, x.2.2.1, x.2.2.2.1, x.2.2.2.2.1, x.2.2.2.2.2.1, x.2.2.2.2.2.2.2.1, x.2.2.2.2.2.2.2.2.2.1)) fun r10 => some r10 else Option.bind (Kt x) fun r11 => bif (!r11.2.2.2.2.2.2) then some (r11.1, r11.2.1, r11.2.2.1, r11.2.2.2.1, r11.2.2.2.2.1, r11.2.2.2.2.2.1, (2 : Int)) else some (r11.1, r11.2.1, r11.2.2.1, r11.2.2.2.1, r11.2.2.2.2.1, r11.2.2.2.2.2.1, (0 : Int))
theorem yDu : EV [yCP, yls, yg2, yD0, yD1, yD2, yD9, yDc, yDd, yDt] lpN 70 Tryz.f70 yAO ykL ybz Jv := fun x => by kernel_rfl
def q70 : QF := ⟨70, Jv, okN (n := 0) Tryz.func70 trivial yDu⟩
abbrev W0 : Type := yfH ⊕ yfI
def jL (k0 : yv8 → Option R) (k1 : yv9 → Option R) (again : W0 → Option R) : W0 → Option R
 | .inl t3 => bif (decide (t3.1 > (0 : Int))) then Option.bind (YS (t3.2.1, t3.2.2.1, t3.2.2.2.1)) fun r3 => Option.bind (Jv (t3.2.2.2.2.2.2.1, t3.2.2.2.2.2.2.2.1, t3.2.2.2.2.2.2.2.2.1, t3.2.2.2.2.2.2.2.2.2.1, t3.2.2.2.2.2.2.2.2.2.2, t3.2.2.2.2.2.1, r3.1, r3.2.1, r3.2.2.1, r3.2.2.2.1, r3.2.2.2.2.1)) fun r4 => again (Sum.inr ((Go.IntKind.wrap .i64 (t3.1 - (1 : Int))), r3.2.2.2.2.2.1, r3.2.2.2.2.2.2.1, r3.2.2.2.2.2.2.2, t3.2.2.2.2.1, r4.1, r4.2.1, r4.2.2.1, r4.2.2.2.2.2.1, r4.2.2.2.1, r4.2.2.2.2.1)) else k0 t3.2
 | .inr t3 => bif (decide (t3.1 > (0 : Int))) then Option.bind (YS (t3.2.1, t3.2.2.1, t3.2.2.2.1)) fun r5 => Option.bind (Jv (t3.2.2.2.2.2.1, t3.2.2.2.2.2.2.1, t3.2.2.2.2.2.2.2.1, t3.2.2.2.2.2.2.2.2.2.1, t3.2.2.2.2.2.2.2.2.2.2, t3.2.2.2.2.2.2.2.2.1, r5.1, r5.2.1, r5.2.2.1, r5.2.2.2.1, r5.2.2.2.2.1)) fun r6 => again (Sum.inr ((Go.IntKind.wrap .i64 (t3.1 - (1 : Int))), r5.2.2.2.2.2.1, r5.2.2.2.2.2.2.1, r5.2.2.2.2.2.2.2, t3.2.2.2.2.1, r6.1, r6.2.1, r6.2.2.1, r6.2.2.2.2.2.1, r6.2.2.2.1, r6.2.2.2.2.1)) else k1 t3.2
def Qq k0 k1 := zS (@jL R k0 k1) Y4
def wI (x : Qz3) : Option yva :=
 Option.bind (Kq ()) fun r1 => Option.bind (yw (x.1, x.2.1, x.2.2.1, (Go.IntKind.wrap .i64 (x.2.2.2 + (1 : Int))))) fun r2 => Qq (fun x7 => some (x7.2.2.2.2.2.1, x7.2.2.2.2.2.2.1, x7.2.2.2.2.2.2.2.1, x7.2.2.2.2.2.2.2.2.1, x7.2.2.2.2.2.2.2.2.2, x7.2.2.2.2.1, x7.1, x7.2.1, x7.2.2.1)) (fun x8 => some (x8.2.2.2.2.1, x8.2.2.2.2.2.1, x8.2.2.2.2.2.2.1, x8.2.2.2.2.2.2.2.2.1, x8.2.2.2.2.2.2.2.2.2, x8.2.2.2.2.2.2.2.1, x8.1, x8.2.1, x8.2.2.1)) (Sum.inl (r2.1, r2.2.1, r2.2.2.1, r2.2.2.2, (0 : Int), r1.2.2.2.2.2, r1.1, r1.2.1, r1.2.2.1, r1.2.2.2.1, r1.2.2.2.2.1))
def ysO : List QF := [q35, q68, q69, q70]
def y89 (t : yfH) : St := ⟨.box 900 0 :: dd 3 (.box 4 0 :: .box 5 0 :: vI t.1 :: dd 17 []), [(900, .box [ynq t.2.1, vI t.2.2.1, vI t.2.2.2.1]), (4, .box [.nils, .nils, .nils, .nils, .nils, vI t.2.2.2.2.1]), (5, .box [.own 10000000, .own 10000001, .own 10000002, .own 10000003, .own 10000004, vI t.2.2.2.2.2.1]), (10000000, .root true 3 yd t.2.2.2.2.2.2.1), (10000001, .root true 99 yl t.2.2.2.2.2.2.2.1), (10000002, .root true 67 yo t.2.2.2.2.2.2.2.2.1), (10000003, .root true 53 yj t.2.2.2.2.2.2.2.2.2.1), (10000004, .root true 41 yO t.2.2.2.2.2.2.2.2.2.2)]⟩
theorem ym7 : ∀ s t, unG yo5 y89 s = some t → y89 t = s := yq fun t => by kernel_rfl
def y8a (t : yfI) : St := ⟨.box 900 0 :: dd 3 (.box 4 0 :: .box 5 0 :: vI t.1 :: dd 17 []), [(900, .box [ynq t.2.1, vI t.2.2.1, vI t.2.2.2.1]), (4, .box [.nils, .nils, .nils, .nils, .nils, vI t.2.2.2.2.1]), (5, .box [zi t.2.2.2.2.2.1, yE t.2.2.2.2.2.2.1, zu t.2.2.2.2.2.2.2.1, .own 10000000, .own 10000001, vI t.2.2.2.2.2.2.2.2.1]), (10000000, .root true 53 yj t.2.2.2.2.2.2.2.2.2.1), (10000001, .root true 41 yO t.2.2.2.2.2.2.2.2.2.2)]⟩
theorem ym8 : ∀ s t, unG yo6 y8a s = some t → y8a t = s := yq fun t => by kernel_rfl
def y8b : (yfH ⊕ yfI) → St := Sum.elim y89 y8a
def ybD (s : St) : Option (yfH ⊕ yfI) := ((unG yo5 y89 s).map Sum.inl).or (((unG yo6 y8a) s).map Sum.inr)
theorem ym9 : ∀ s t, ybD s = some t → y8b t = s := y9V ym7 ym8
def yib : Gk W0 := fun κ => jL (fun t => κ (some 0) ⟨.box 900 0 :: dd 3 (.box 4 0 :: .box 5 0 :: dd 18 []), [(900, .box [ynq t.1, vI t.2.1, vI t.2.2.1]), (4, .box [.nils, .nils, .nils, .nils, .nils, vI t.2.2.2.1]), (5, .box [.own 10000000, .own 10000001, .own 10000002, .own 10000003, .own 10000004, vI t.2.2.2.2.1]), (10000000, .root true 3 yd t.2.2.2.2.2.1), (10000001, .root true 99 yl t.2.2.2.2.2.2.1), (10000002, .root true 67 yo t.2.2.2.2.2.2.2.1), (10000003, .root true 53 yj t.2.2.2.2.2.2.2.2.1), (10000004, .root true 41 yO t.2.2.2.2.2.2.2.2.2)]⟩) (fun t => κ (some 0) ⟨.box 900 0 :: dd 3 (.box 4 0 :: .box 5 0 :: dd 18 []), [(900, .box [ynq t.1, vI t.2.1, vI t.2.2.1]), (4, .box [.nils, .nils, .nils, .nils, .nils, vI t.2.2.2.1]), (5, .box [zi t.2.2.2.2.1, yE t.2.2.2.2.2.1, zu t.2.2.2.2.2.2.1, .own 10000000, .own 10000001, vI t.2.2.2.2.2.2.2.1]), (10000000, .root true 53 yj t.2.2.2.2.2.2.2.2.1), (10000001, .root true 41 yO t.2.2.2.2.2.2.2.2.2)]⟩)
def ysP : Lp := lpC 3 ybD @yib lpN
theorem yma : LF ysO ysP 33 3 Tryz.f33 0 y8b @yib fun v : yfH => .inl v := fun R κ again v => by kernel_rfl
theorem ymb : LF ysO ysP 33 3 Tryz.f33 0 y8b @yib fun v : yfI => .inr v := fun R κ again v => by kernel_rfl
theorem yxn : LF ysO ysP 33 3 Tryz.f33 0 y8b @yib fun t => t := (LC.sum yma ymb)
theorem yxo : LK ysO ysP 33 Tryz.f33 0 := lkN (u := ybD) ym9 yxn
theorem yDv : EV ysO ysP 33 Tryz.f33 yAP qz3 yvb wI := fun x => by kernel_rfl
def q33 : QF := ⟨33, wI, okN (n := 1) Tryz.func33 ⟨yxo, trivial⟩ yDv⟩
def WX (x : Qz1) : Option Int :=
 bif (decide ((Go.IntKind.wrap .i64 ((3 : Int) + (Go.IntKind.wrap .i64 (Int.tdiv (List.length x.1 : Int) (12 : Int))))) > x.2)) then some x.2 else some (Go.IntKind.wrap .i64 ((3 : Int) + (Go.IntKind.wrap .i64 (Int.tdiv (List.length x.1 : Int) (12 : Int)))))
theorem yDw : EV [] lpN 34 Tryz.f34 yAQ qz1 [(.int .i64)] WX := fun x => by kernel_rfl
def q34 : QF := ⟨34, WX, okN (n := 0) Tryz.func34 trivial yDw⟩
def Jw (x : List y5P) : Option ykK :=
 Option.bind (Vz x) fun r1 => Option.bind (WX (x, (30 : Int))) fun r2 => Option.bind (wI (r1.1, r1.2.1, r1.2.2, (Go.IntKind.wrap .i64 ((8 : Int) + r2)))) fun r3 => Option.bind (YS r3.2.2.2.2.2.2) fun r4 => some (r3.1, r3.2.1, r3.2.2.1, r3.2.2.2.1, r3.2.2.2.2.1, r3.2.2.2.2.2.1, r4.1, r4.2.1, r4.2.2.1, r4.2.2.2.1, r4.2.2.2.2.1)
theorem ev8 : EV [q32, q33, q34, q35] lpN 8 Tryz.f8 sg8 [(.sl 5 kL)] ykL Jw := fun x => by kernel_rfl
def q8 : QF := ⟨8, Jw, okN (n := 0) Tryz.func8 trivial ev8⟩
abbrev kW : Type := yo7
def ZU (k0 : Bool → Option R) (k1 : Unit → Option R) (again : kW → Option R) (t4 : kW) : Option R :=
 bif (decide (t4.2.2 < (List.length t4.1 : Int))) then if (0 : Int) ≤ t4.2.2 then if t4.2.2 < (List.length t4.1 : Int) then if (0 : Int) ≤ t4.2.2 then if t4.2.2 < (List.length t4.2.1 : Int) then bif ((zt t4.1 t4.2.2) != (zt t4.2.1 t4.2.2)) then k0 false else again (t4.1, t4.2.1, (Go.IntKind.wrap .i64 (t4.2.2 + (1 : Int)))) else none else none else none else none else k1 ()
def qu k0 k1 := zS (@ZU R k0 k1) Y4
def Jx (x : yo9) : Option Bool :=
 bif ((List.length x.1 : Int) != (List.length x.2 : Int)) then some false else qu (fun x1 => some x1) (fun x2 => some true) (x.1, x.2, (0 : Int))
def yxp : List QF := []
def ybE (t : yo7) : St := ⟨zi t.1 :: zi t.2.1 :: dd 3 (vI t.2.2 :: dd 20 []), []⟩
def ysQ : Gk kW := fun κ => ZU (fun t => κ none ⟨dd 4 (vB t :: dd 21 []), []⟩) (fun t => κ (some 0) ⟨dd 26 [], []⟩)
def yxq : Lp := lpC 4 (unG yo8 ybE) @ysQ lpN
theorem yxr : LF yxp yxq 83 4 Tryz.f83 0 ybE @ysQ fun t => t := fun R κ again t => by kernel_rfl
theorem yxs : LK yxp yxq 83 Tryz.f83 0 := lkN (u := (unG yo8 ybE)) (yq fun t => by kernel_rfl) yxr
theorem yDx : EV yxp yxq 83 Tryz.f83 yAR yoa [.bool] Jx := fun x => by kernel_rfl
def q83 : QF := ⟨83, Jx, okN (n := 1) Tryz.func83 ⟨yxs, trivial⟩ yDx⟩
abbrev kX : Type := yob
def ZV (k0 : Bool → Option R) (k1 : Unit → Option R) (again : kX → Option R) (t4 : kX) : Option R :=
 bif (decide (t4.2.2 < (List.length t4.1 : Int))) then if (0 : Int) ≤ t4.2.2 then if t4.2.2 < (List.length t4.1 : Int) then if (0 : Int) ≤ t4.2.2 then if t4.2.2 < (List.length t4.2.1 : Int) then bif (!(((y6 t4.1 t4.2.2).1 == (y6 t4.2.1 t4.2.2).1) && (((y6 t4.1 t4.2.2).2.1 == (y6 t4.2.1 t4.2.2).2.1) && (((y6 t4.1 t4.2.2).2.2.1 == (y6 t4.2.1 t4.2.2).2.2.1) && (((y6 t4.1 t4.2.2).2.2.2.1 == (y6 t4.2.1 t4.2.2).2.2.2.1) && (((y6 t4.1 t4.2.2).2.2.2.2 == (y6 t4.2.1 t4.2.2).2.2.2.2) && true)))))) then k0 false else again (t4.1, t4.2.1, (Go.IntKind.wrap .i64 (t4.2.2 + (1 : Int)))) else none else none else none else none else k1 ()
def qv k0 k1 := zS (@ZV R k0 k1) Y4
def Jy (x : yuQ) : Option Bool :=
 bif ((List.length x.1 : Int) != (List.length x.2 : Int)) then some false else qv (fun x1 => some x1) (fun x2 => some true) (x.1, x.2, (0 : Int))
def ymc : List QF := []
def y8c (t : yob) : St := ⟨qp t.1 :: qp t.2.1 :: dd 3 (vI t.2.2 :: dd 20 []), []⟩
def yk2 : Gk kX := fun κ => ZV (fun t => κ none ⟨dd 4 (vB t :: dd 21 []), []⟩) (fun t => κ (some 0) ⟨dd 26 [], []⟩)
def ymd : Lp := lpC 4 (unG yoc y8c) @yk2 lpN
theorem ysR : LF ymc ymd 123 4 Tryz.f123 0 y8c @yk2 fun t => t := fun R κ again t => by kernel_rfl
theorem ysS : LK ymc ymd 123 Tryz.f123 0 := lkN (u := (unG yoc y8c)) (yq fun t => by kernel_rfl) ysR
theorem yxt : EV ymc ymd 123 Tryz.f123 yr0 yuR [.bool] Jy := fun x => by kernel_rfl
def yDy : QF := ⟨123, Jy, okN (n := 1) Tryz.func123 ⟨ysS, trivial⟩ yxt⟩
abbrev kY : Type := ykG
def ZW (k0 : Bool → Option R) (k1 : Unit → Option R) (again : kY → Option R) (t4 : kY) : Option R :=
 bif (decide (t4.1 < (List.length t4.2.1 : Int))) then if (0 : Int) ≤ t4.1 then if t4.1 < (List.length t4.2.1 : Int) then if (0 : Int) ≤ t4.1 then if t4.1 < (List.length t4.2.2 : Int) then Option.bind (Jy ((yn t4.2.1 t4.1), (yn t4.2.2 t4.1))) fun r1 => bif (!r1) then k0 false else again ((Go.IntKind.wrap .i64 (t4.1 + (1 : Int))), t4.2.1, t4.2.2) else none else none else none else none else k1 ()
def qw k0 k1 := zS (@ZW R k0 k1) Y4
def Jz (x : yvc) : Option Bool :=
 bif ((List.length x.1 : Int) != (List.length x.2 : Int)) then some false else qw (fun x2 => some x2) (fun x3 => some true) ((0 : Int), x.1, x.2)
def yxu : List QF := [yDy]
def ybF (t : ykG) : St := ⟨dd 2 (.box 2 0 :: .box 3 0 :: .dead :: vI t.1 :: dd 26 []), [(2, .box [Yv t.2.1]), (3, .box [Yv t.2.2])]⟩
def ysT : Gk kY := fun κ => ZW (fun t => κ none ⟨dd 4 (vB t :: dd 27 []), []⟩) (fun t => κ (some 0) ⟨dd 32 [], []⟩)
def yxv : Lp := lpC 4 (unG yul ybF) @ysT lpN
theorem yxw : LF yxu yxv 84 4 Tryz.f84 0 ybF @ysT fun t => t := fun R κ again t => by kernel_rfl
theorem yxx : LK yxu yxv 84 Tryz.f84 0 := lkN (u := (unG yul ybF)) (yq fun t => by kernel_rfl) yxw
theorem yDz : EV yxu yxv 84 Tryz.f84 yAS yvd [.bool] Jz := fun x => by kernel_rfl
def q84 : QF := ⟨84, Jz, okN (n := 1) Tryz.func84 ⟨yxx, trivial⟩ yDz⟩
abbrev kZ : Type := ykH
def ZX (k0 : Bool → Option R) (k1 : Unit → Option R) (again : kZ → Option R) (t4 : kZ) : Option R :=
 bif (decide (t4.1 < (List.length t4.2.2.1 : Int))) then if (0 : Int) ≤ t4.1 then if t4.1 < (List.length t4.2.2.1 : Int) then if (0 : Int) ≤ t4.1 then if t4.1 < (List.length t4.2.2.2.2 : Int) then Option.bind (Jz ((ye t4.2.2.1 t4.1), (ye t4.2.2.2.2 t4.1))) fun r3 => bif (!r3) then k0 false else again ((Go.IntKind.wrap .i64 (t4.1 + (1 : Int))), t4.2.1, t4.2.2.1, t4.2.2.2.1, t4.2.2.2.2) else none else none else none else none else k1 ()
def qx k0 k1 := zS (@ZX R k0 k1) Y4
def JA (x : yve) : Option Bool :=
 Option.bind (Jx (x.1, x.2.2.1)) fun r1 => Option.bind (bif (!r1) then some true else some ((List.length x.2.1 : Int) != (List.length x.2.2.2 : Int))) fun u2 => bif u2 then some false else qx (fun x4 => some x4) (fun x5 => some true) ((0 : Int), x.1, x.2.1, x.2.2.1, x.2.2.2)
def yxy : List QF := [q83, q84]
def ybG (t : ykH) : St := ⟨dd 2 (.box 2 0 :: .box 3 0 :: .dead :: vI t.1 :: dd 34 []), [(2, .box [zi t.2.1, yE t.2.2.1]), (3, .box [zi t.2.2.2.1, yE t.2.2.2.2])]⟩
def ysU : Gk kZ := fun κ => ZX (fun t => κ none ⟨dd 4 (vB t :: dd 35 []), []⟩) (fun t => κ (some 0) ⟨dd 40 [], []⟩)
def yxz : Lp := lpC 4 (unG yum ybG) @ysU lpN
theorem yxA : LF yxy yxz 43 4 Tryz.f43 0 ybG @ysU fun t => t := fun R κ again t => by kernel_rfl
theorem yxB : LK yxy yxz 43 Tryz.f43 0 := lkN (u := (unG yum ybG)) (yq fun t => by kernel_rfl) yxA
theorem yDA : EV yxy yxz 43 Tryz.f43 yAT yvf [.bool] JA := fun x => by kernel_rfl
def q43 : QF := ⟨43, JA, okN (n := 1) Tryz.func43 ⟨yxB, trivial⟩ yDA⟩
abbrev K0 : Type := yod
def ZY (k0 : Bool → Option R) (k1 : Unit → Option R) (again : K0 → Option R) (t4 : K0) : Option R :=
 bif (decide (t4.2.2 < (List.length t4.1 : Int))) then if (0 : Int) ≤ t4.2.2 then if t4.2.2 < (List.length t4.1 : Int) then if (0 : Int) ≤ t4.2.2 then if t4.2.2 < (List.length t4.2.1 : Int) then bif (!(((yG t4.1 t4.2.2).1 == (yG t4.2.1 t4.2.2).1) && (((yG t4.1 t4.2.2).2 == (yG t4.2.1 t4.2.2).2) && true))) then k0 false else again (t4.1, t4.2.1, (Go.IntKind.wrap .i64 (t4.2.2 + (1 : Int)))) else none else none else none else none else k1 ()
def qy k0 k1 := zS (@ZY R k0 k1) Y4
def JB (x : yvg) : Option Bool :=
 bif ((List.length x.1 : Int) != (List.length x.2 : Int)) then some false else qy (fun x1 => some x1) (fun x2 => some true) (x.1, x.2, (0 : Int))
def yxC : List QF := []
def ybH (t : yod) : St := ⟨zu t.1 :: zu t.2.1 :: dd 3 (vI t.2.2 :: dd 20 []), []⟩
def ysV : Gk K0 := fun κ => ZY (fun t => κ none ⟨dd 4 (vB t :: dd 21 []), []⟩) (fun t => κ (some 0) ⟨dd 26 [], []⟩)
def yxD : Lp := lpC 4 (unG yoe ybH) @ysV lpN
theorem yxE : LF yxC yxD 44 4 Tryz.f44 0 ybH @ysV fun t => t := fun R κ again t => by kernel_rfl
theorem yxF : LK yxC yxD 44 Tryz.f44 0 := lkN (u := (unG yoe ybH)) (yq fun t => by kernel_rfl) yxE
theorem yDB : EV yxC yxD 44 Tryz.f44 yAU yvh [.bool] JB := fun x => by kernel_rfl
def q44 : QF := ⟨44, JB, okN (n := 1) Tryz.func44 ⟨yxF, trivial⟩ yDB⟩
abbrev WY : Type := yof
def Zk (k0 : Bool → Option R) (k1 : Unit → Option R) (again : WY → Option R) (t4 : WY) : Option R :=
 bif (decide (t4.2.2 < (List.length t4.1 : Int))) then if (0 : Int) ≤ t4.2.2 then if t4.2.2 < (List.length t4.1 : Int) then if (0 : Int) ≤ t4.2.2 then if t4.2.2 < (List.length t4.2.1 : Int) then bif (!(((yA t4.1 t4.2.2).1 == (yA t4.2.1 t4.2.2).1) && (((yA t4.1 t4.2.2).2.1 == (yA t4.2.1 t4.2.2).2.1) && (((yA t4.1 t4.2.2).2.2 == (yA t4.2.1 t4.2.2).2.2) && true)))) then k0 false else again (t4.1, t4.2.1, (Go.IntKind.wrap .i64 (t4.2.2 + (1 : Int)))) else none else none else none else none else k1 ()
def VF k0 k1 := zS (@Zk R k0 k1) Y4
def jM (x : yvi) : Option Bool :=
 bif ((List.length x.1 : Int) != (List.length x.2 : Int)) then some false else VF (fun x1 => some x1) (fun x2 => some true) (x.1, x.2, (0 : Int))
def yxG : List QF := []
def ybI (t : yof) : St := ⟨z0 t.1 :: z0 t.2.1 :: dd 3 (vI t.2.2 :: dd 20 []), []⟩
def ysW : Gk WY := fun κ => Zk (fun t => κ none ⟨dd 4 (vB t :: dd 21 []), []⟩) (fun t => κ (some 0) ⟨dd 26 [], []⟩)
def yxH : Lp := lpC 4 (unG yog ybI) @ysW lpN
theorem yxI : LF yxG yxH 45 4 Tryz.f45 0 ybI @ysW fun t => t := fun R κ again t => by kernel_rfl
theorem yxJ : LK yxG yxH 45 Tryz.f45 0 := lkN (u := (unG yog ybI)) (yq fun t => by kernel_rfl) yxI
theorem yDC : EV yxG yxH 45 Tryz.f45 yAV yvj [.bool] jM := fun x => by kernel_rfl
def q45 : QF := ⟨45, jM, okN (n := 1) Tryz.func45 ⟨yxJ, trivial⟩ yDC⟩
abbrev K1 : Type := yoh
def ZZ (k0 : Bool → Option R) (k1 : Unit → Option R) (again : K1 → Option R) (t4 : K1) : Option R :=
 bif (decide (t4.1 < (List.length t4.2.2.2.2.2.1 : Int))) then if (0 : Int) ≤ t4.1 then if t4.1 < (List.length t4.2.2.2.2.2.1 : Int) then if (0 : Int) ≤ t4.1 then if t4.1 < (List.length t4.2.2.2.2.2.2.2.2.2.2.2.1 : Int) then bif (!((ByteArray.toList ((yi t4.2.2.2.2.2.1 t4.1).1) == ByteArray.toList ((yi t4.2.2.2.2.2.2.2.2.2.2.2.1 t4.1).1)) && (((yi t4.2.2.2.2.2.1 t4.1).2.1 == (yi t4.2.2.2.2.2.2.2.2.2.2.2.1 t4.1).2.1) && (((yi t4.2.2.2.2.2.1 t4.1).2.2.1 == (yi t4.2.2.2.2.2.2.2.2.2.2.2.1 t4.1).2.2.1) && (((yi t4.2.2.2.2.2.1 t4.1).2.2.2 == (yi t4.2.2.2.2.2.2.2.2.2.2.2.1 t4.1).2.2.2) && true))))) then k0 false else again ((Go.IntKind.wrap .i64 (t4.1 + (1 : Int))), t4.2.1, t4.2.2.1, t4.2.2.2.1, t4.2.2.2.2.1, t4.2.2.2.2.2.1, t4.2.2.2.2.2.2.1, t4.2.2.2.2.2.2.2.1, t4.2.2.2.2.2.2.2.2.1, t4.2.2.2.2.2.2.2.2.2.1, t4.2.2.2.2.2.2.2.2.2.2.1, t4.2.2.2.2.2.2.2.2.2.2.2.1, t4.2.2.2.2.2.2.2.2.2.2.2.2) else none else none else none else none else k1 ()
def K2 k0 k1 := zS (@ZZ R k0 k1) Y4
def j6 (x : yvk) : Option Bool :=
 Option.bind (JA (x.1, x.2.1, x.2.2.2.2.2.2.1, x.2.2.2.2.2.2.2.1)) fun r1 => Option.bind (bif (!r1) then some true else Option.bind (JB (x.2.2.1, x.2.2.2.2.2.2.2.2.1)) fun r3 => some (!r3)) fun u2 => Option.bind (bif u2 then some true else Option.bind (jM (x.2.2.2.1, x.2.2.2.2.2.2.2.2.2.1)) fun r5 => some (!r5)) fun u4 => Option.bind (bif u4 then some true else some ((List.length x.2.2.2.2.1 : Int) != (List.length x.2.2.2.2.2.2.2.2.2.2.1 : Int))) fun u6 => Option.bind (bif u6 then some true else some (x.2.2.2.2.2.1 != x.2.2.2.2.2.2.2.2.2.2.2)) fun u7 => bif u7 then some false else K2 (fun x8 => some x8) (fun x9 => some true) ((0 : Int), x.1, x.2.1, x.2.2.1, x.2.2.2.1, x.2.2.2.2.1, x.2.2.2.2.2.1, x.2.2.2.2.2.2.1, x.2.2.2.2.2.2.2.1, x.2.2.2.2.2.2.2.2.1, x.2.2.2.2.2.2.2.2.2.1, x.2.2.2.2.2.2.2.2.2.2.1, x.2.2.2.2.2.2.2.2.2.2.2)
def yxK : List QF := [q43, q44, q45]
def ybJ (t : yoh) : St := ⟨dd 2 (.box 2 0 :: .box 3 0 :: .dead :: vI t.1 :: dd 56 []), [(2, .box [zi t.2.1, yE t.2.2.1, zu t.2.2.2.1, z0 t.2.2.2.2.1, zW t.2.2.2.2.2.1, vI t.2.2.2.2.2.2.1]), (3, .box [zi t.2.2.2.2.2.2.2.1, yE t.2.2.2.2.2.2.2.2.1, zu t.2.2.2.2.2.2.2.2.2.1, z0 t.2.2.2.2.2.2.2.2.2.2.1, zW t.2.2.2.2.2.2.2.2.2.2.2.1, vI t.2.2.2.2.2.2.2.2.2.2.2.2])]⟩
def ysX : Gk K1 := fun κ => ZZ (fun t => κ none ⟨dd 4 (vB t :: dd 57 []), []⟩) (fun t => κ (some 0) ⟨dd 62 [], []⟩)
def yxL : Lp := lpC 4 (unG yoi ybJ) @ysX lpN
theorem yxM : LF yxK yxL 12 4 Tryz.f12 0 ybJ @ysX fun t => t := fun R κ again t => by kernel_rfl
theorem yxN : LK yxK yxL 12 Tryz.f12 0 := lkN (u := (unG yoi ybJ)) (yq fun t => by kernel_rfl) yxM
theorem yDD : EV yxK yxL 12 Tryz.f12 yAW yvl [.bool] j6 := fun x => by kernel_rfl
def q12 : QF := ⟨12, j6, okN (n := 1) Tryz.func12 ⟨yxN, trivial⟩ yDD⟩
def yL (x : yuO) : Option Bool :=
 Option.bind (bif (decide (x.1 ≥ x.2.1)) then some (decide (x.1 ≤ x.2.2)) else some false) fun u1 => some u1
theorem yDE : EV [] lpN 47 Tryz.f47 yAX yuP [.bool] yL := fun x => by kernel_rfl
def q47 : QF := ⟨47, yL, okN (n := 0) Tryz.func47 trivial yDE⟩
def J2 (x : yue) : Option Bool :=
 Option.bind (bif (decide (x.1 < x.2.2.2.2.2.1)) then some true else Option.bind (bif (x.1 == x.2.2.2.2.2.1) then some (decide (x.2.1 < x.2.2.2.2.2.2.1)) else some false) fun u2 => some u2) fun u1 => some u1
theorem yxO : EV [] lpN 157 Tryz.f157 yr1 yuf [.bool] J2 := fun x => by kernel_rfl
def yC6 : QF := ⟨157, J2, okN (n := 0) Tryz.func157 trivial yxO⟩
def j7 (x : yue) : Option Bool :=
 Option.bind (bif (x.1 == x.2.2.2.2.2.1) then some (x.2.1 == x.2.2.2.2.2.2.1) else some false) fun u1 => some u1
theorem yxP : EV [] lpN 158 Tryz.f158 yr2 yuf [.bool] j7 := fun x => by kernel_rfl
def yDF : QF := ⟨158, j7, okN (n := 0) Tryz.func158 trivial yxP⟩
abbrev WZ : Type := yoj
def Z0 (k0 : yzK → Option R) (again : WZ → Option R) (t4 : WZ) : Option R :=
 bif (decide (t4.2.2.2.1 < t4.2.2.1)) then if (0 : Int) ≤ t4.2.2.2.1 then if t4.2.2.2.1 < (List.length t4.2.1 : Int) then Option.bind (bif (!t4.1) then Option.bind (J2 ((y6 t4.2.1 t4.2.2.2.1).1, (y6 t4.2.1 t4.2.2.2.1).2.1, (y6 t4.2.1 t4.2.2.2.1).2.2.1, (y6 t4.2.1 t4.2.2.2.1).2.2.2.1, (y6 t4.2.1 t4.2.2.2.1).2.2.2.2, t4.2.2.2.2.1, t4.2.2.2.2.2.1, t4.2.2.2.2.2.2.1, t4.2.2.2.2.2.2.2.1, t4.2.2.2.2.2.2.2.2.1)) fun r2 => some (!r2) else some false) fun u1 => bif u1 then if (List.length t4.2.2.2.2.2.2.2.2.2 + List.length ([(t4.2.2.2.2.1, t4.2.2.2.2.2.1, t4.2.2.2.2.2.2.1, t4.2.2.2.2.2.2.2.1, t4.2.2.2.2.2.2.2.2.1)] : List y7)) * 40 < 140737488355328 then Option.bind (j7 ((y6 t4.2.1 t4.2.2.2.1).1, (y6 t4.2.1 t4.2.2.2.1).2.1, (y6 t4.2.1 t4.2.2.2.1).2.2.1, (y6 t4.2.1 t4.2.2.2.1).2.2.2.1, (y6 t4.2.1 t4.2.2.2.1).2.2.2.2, t4.2.2.2.2.1, t4.2.2.2.2.2.1, t4.2.2.2.2.2.2.1, t4.2.2.2.2.2.2.2.1, t4.2.2.2.2.2.2.2.2.1)) fun r3 => bif (!r3) then if (List.length (t4.2.2.2.2.2.2.2.2.2 ++ ([(t4.2.2.2.2.1, t4.2.2.2.2.2.1, t4.2.2.2.2.2.2.1, t4.2.2.2.2.2.2.2.1, t4.2.2.2.2.2.2.2.2.1)] : List y7)) + List.length ([((y6 t4.2.1 t4.2.2.2.1).1, (y6 t4.2.1 t4.2.2.2.1).2.1, (y6 t4.2.1 t4.2.2.2.1).2.2.1, (y6 t4.2.1 t4.2.2.2.1).2.2.2.1, (y6 t4.2.1 t4.2.2.2.1).2.2.2.2)] : List y7)) * 40 < 140737488355328 then again (true, t4.2.1, t4.2.2.1, (Go.IntKind.wrap .i64 (t4.2.2.2.1 + (1 : Int))), t4.2.2.2.2.1, t4.2.2.2.2.2.1, t4.2.2.2.2.2.2.1, t4.2.2.2.2.2.2.2.1, t4.2.2.2.2.2.2.2.2.1, ((t4.2.2.2.2.2.2.2.2.2 ++ ([(t4.2.2.2.2.1, t4.2.2.2.2.2.1, t4.2.2.2.2.2.2.1, t4.2.2.2.2.2.2.2.1, t4.2.2.2.2.2.2.2.2.1)] : List y7)) ++ ([((y6 t4.2.1 t4.2.2.2.1).1, (y6 t4.2.1 t4.2.2.2.1).2.1, (y6 t4.2.1 t4.2.2.2.1).2.2.1, (y6 t4.2.1 t4.2.2.2.1).2.2.2.1, (y6 t4.2.1 t4.2.2.2.1).2.2.2.2)] : List y7))) else none else again (true, t4.2.1, t4.2.2.1, (Go.IntKind.wrap .i64 (t4.2.2.2.1 + (1 : Int))), t4.2.2.2.2.1, t4.2.2.2.2.2.1, t4.2.2.2.2.2.2.1, t4.2.2.2.2.2.2.2.1, t4.2.2.2.2.2.2.2.2.1, (t4.2.2.2.2.2.2.2.2.2 ++ ([(t4.2.2.2.2.1, t4.2.2.2.2.2.1, t4.2.2.2.2.2.2.1, t4.2.2.2.2.2.2.2.1, t4.2.2.2.2.2.2.2.2.1)] : List y7))) else none else Option.bind (j7 ((y6 t4.2.1 t4.2.2.2.1).1, (y6 t4.2.1 t4.2.2.2.1).2.1, (y6 t4.2.1 t4.2.2.2.1).2.2.1, (y6 t4.2.1 t4.2.2.2.1).2.2.2.1, (y6 t4.2.1 t4.2.2.2.1).2.2.2.2, t4.2.2.2.2.1, t4.2.2.2.2.2.1, t4.2.2.2.2.2.2.1, t4.2.2.2.2.2.2.2.1, t4.2.2.2.2.2.2.2.2.1)) fun r4 => bif (!r4) then if (List.length t4.2.2.2.2.2.2.2.2.2 + List.length ([((y6 t4.2.1 t4.2.2.2.1).1, (y6 t4.2.1 t4.2.2.2.1).2.1, (y6 t4.2.1 t4.2.2.2.1).2.2.1, (y6 t4.2.1 t4.2.2.2.1).2.2.2.1, (y6 t4.2.1 t4.2.2.2.1).2.2.2.2)] : List y7)) * 40 < 140737488355328 then again (t4.1, t4.2.1, t4.2.2.1, (Go.IntKind.wrap .i64 (t4.2.2.2.1 + (1 : Int))), t4.2.2.2.2.1, t4.2.2.2.2.2.1, t4.2.2.2.2.2.2.1, t4.2.2.2.2.2.2.2.1, t4.2.2.2.2.2.2.2.2.1, (t4.2.2.2.2.2.2.2.2.2 ++ ([((y6 t4.2.1 t4.2.2.2.1).1, (y6 t4.2.1 t4.2.2.2.1).2.1, (y6 t4.2.1 t4.2.2.2.1).2.2.1, (y6 t4.2.1 t4.2.2.2.1).2.2.2.1, (y6 t4.2.1 t4.2.2.2.1).2.2.2.2)] : List y7))) else none else again (t4.1, t4.2.1, t4.2.2.1, (Go.IntKind.wrap .i64 (t4.2.2.2.1 + (1 : Int))), t4.2.2.2.2.1, t4.2.2.2.2.2.1, t4.2.2.2.2.2.2.1, t4.2.2.2.2.2.2.2.1, t4.2.2.2.2.2.2.2.2.1, t4.2.2.2.2.2.2.2.2.2) else none else none else k0 (t4.1, t4.2.2.2.2)
def V3 k0 := zS (@Z0 R k0) Y4
def jw (x : yzL) : Option (List y7) :=
 V3 (fun x5 => bif (!x5.1) then if (List.length x5.2.2.2.2.2.2 + List.length ([(x5.2.1, x5.2.2.1, x5.2.2.2.1, x5.2.2.2.2.1, x5.2.2.2.2.2.1)] : List y7)) * 40 < 140737488355328 then some (x5.2.2.2.2.2.2 ++ ([(x5.2.1, x5.2.2.1, x5.2.2.2.1, x5.2.2.2.2.1, x5.2.2.2.2.2.1)] : List y7)) else none else some x5.2.2.2.2.2.2) (false, x.1, (List.length x.1 : Int), (0 : Int), x.2.1, x.2.2.1, x.2.2.2.1, x.2.2.2.2.1, x.2.2.2.2.2, ([] : List y7))
def yme : List QF := [yC6, yDF]
def y8d (t : yoj) : St := ⟨dd 3 (.box 3 0 :: .dead :: .own 10000000 :: vB t.1 :: dd 3 (qp t.2.1 :: vI t.2.2.1 :: vI t.2.2.2.1 :: dd 31 [])), [(3, .box [vI t.2.2.2.2.1, vI t.2.2.2.2.2.1, vI t.2.2.2.2.2.2.1, vI t.2.2.2.2.2.2.2.1, vI t.2.2.2.2.2.2.2.2.1]), (10000000, .root true 63 yg t.2.2.2.2.2.2.2.2.2)]⟩
def yk3 : Gk WZ := fun κ => Z0 (fun t => κ (some 0) ⟨dd 3 (.box 3 0 :: .dead :: .own 10000000 :: vB t.1 :: dd 37 []), [(3, .box [vI t.2.1, vI t.2.2.1, vI t.2.2.2.1, vI t.2.2.2.2.1, vI t.2.2.2.2.2.1]), (10000000, .root true 63 yg t.2.2.2.2.2.2)]⟩)
def ymf : Lp := lpC 4 (unG yok y8d) @yk3 lpN
theorem ysY : LF yme ymf 125 4 Tryz.f125 0 y8d @yk3 fun t => t := fun R κ again t => by kernel_rfl
theorem ysZ : LK yme ymf 125 Tryz.f125 0 := lkN (u := (unG yok y8d)) (yq fun t => by kernel_rfl) ysY
theorem yxQ : EV yme ymf 125 Tryz.f125 yr3 yzM [(.sl 63 yg)] jw := fun x => by kernel_rfl
def yxR : QF := ⟨125, jw, okN (n := 1) Tryz.func125 ⟨ysZ, trivial⟩ yxQ⟩
def Ya (x : List y7) : Option (List y7) :=
 if (List.length ([] : List y7) + List.length x) * 40 < 140737488355328 then some (([] : List y7) ++ x) else none
theorem yxS : EV [] lpN 126 Tryz.f126 yr4 [(.sl 63 yg)] [(.sl 63 yg)] Ya := fun x => by kernel_rfl
def yxT : QF := ⟨126, Ya, okN (n := 0) Tryz.func126 trivial yxS⟩
abbrev k6 : Type := yhW
def Zl (k0 : List y7 → Option R) (again : k6 → Option R) (t3 : k6) : Option R :=
 bif (decide (t3.2.2.1 < t3.2.1)) then if (0 : Int) ≤ t3.2.2.1 then if t3.2.2.1 < (List.length t3.1 : Int) then Option.bind (jw (t3.2.2.2, (y6 t3.1 t3.2.2.1).1, (y6 t3.1 t3.2.2.1).2.1, (y6 t3.1 t3.2.2.1).2.2.1, (y6 t3.1 t3.2.2.1).2.2.2.1, (y6 t3.1 t3.2.2.1).2.2.2.2)) fun r2 => again (t3.1, t3.2.1, (Go.IntKind.wrap .i64 (t3.2.2.1 + (1 : Int))), r2) else none else none else k0 t3.2.2.2
def VG k0 := zS (@Zl R k0) Y4
def Z9 (x : yuQ) : Option (List y7) :=
 Option.bind (Ya x.1) fun r1 => VG (fun x3 => some x3) (x.2, (List.length x.2 : Int), (0 : Int), r1)
def ymg : List QF := [yxR, yxT]
def y8e (t : yhW) : St := ⟨dd 5 (.own 10000000 :: dd 4 (qp t.1 :: vI t.2.1 :: vI t.2.2.1 :: dd 8 [])), [(10000000, .root true 63 yg t.2.2.2)]⟩
def yk4 : Gk k6 := fun κ => Zl (fun t => κ (some 0) ⟨dd 5 (.own 10000000 :: dd 15 []), [(10000000, .root true 63 yg t)]⟩)
def ymh : Lp := lpC 3 (unG yhX y8e) @yk4 lpN
theorem yt0 : LF ymg ymh 101 3 Tryz.f101 0 y8e @yk4 fun t => t := fun R κ again t => by kernel_rfl
theorem yt1 : LK ymg ymh 101 Tryz.f101 0 := lkN (u := (unG yhX y8e)) (yq fun t => by kernel_rfl) yt0
theorem yxU : EV ymg ymh 101 Tryz.f101 yr5 yuR [(.sl 63 yg)] Z9 := fun x => by kernel_rfl
def yDG : QF := ⟨101, Z9, okN (n := 1) Tryz.func101 ⟨yt1, trivial⟩ yxU⟩
abbrev qY : Type := yhW
def k7 (k0 : List y7 → Option R) (again : qY → Option R) (t3 : qY) : Option R :=
 bif (decide (t3.2.2.1 < t3.2.1)) then if (0 : Int) ≤ t3.2.2.1 then if t3.2.2.1 < (List.length t3.1 : Int) then bif ((y6 t3.1 t3.2.2.1).2.2.1 != (0 : Int)) then if (List.length t3.2.2.2 + List.length ([((y6 t3.1 t3.2.2.1).1, (y6 t3.1 t3.2.2.1).2.1, (y6 t3.1 t3.2.2.1).2.2.1, (y6 t3.1 t3.2.2.1).2.2.2.1, (y6 t3.1 t3.2.2.1).2.2.2.2)] : List y7)) * 40 < 140737488355328 then again (t3.1, t3.2.1, (Go.IntKind.wrap .i64 (t3.2.2.1 + (1 : Int))), (t3.2.2.2 ++ ([((y6 t3.1 t3.2.2.1).1, (y6 t3.1 t3.2.2.1).2.1, (y6 t3.1 t3.2.2.1).2.2.1, (y6 t3.1 t3.2.2.1).2.2.2.1, (y6 t3.1 t3.2.2.1).2.2.2.2)] : List y7))) else none else again (t3.1, t3.2.1, (Go.IntKind.wrap .i64 (t3.2.2.1 + (1 : Int))), t3.2.2.2) else none else none else k0 t3.2.2.2
def y2h k0 := zS (@k7 R k0) Y4
def JC (x : List y7) : Option (List y7) :=
 y2h (fun x1 => some x1) (x, (List.length x : Int), (0 : Int), ([] : List y7))
def ymi : List QF := []
def y8f (t : yhW) : St := ⟨dd 3 (.own 10000000 :: dd 3 (qp t.1 :: vI t.2.1 :: vI t.2.2.1 :: dd 12 [])), [(10000000, .root true 63 yg t.2.2.2)]⟩
def yk5 : Gk qY := fun κ => k7 (fun t => κ (some 0) ⟨dd 3 (.own 10000000 :: dd 18 []), [(10000000, .root true 63 yg t)]⟩)
def ymj : Lp := lpC 3 (unG yhX y8f) @yk5 lpN
theorem yt2 : LF ymi ymj 102 3 Tryz.f102 0 y8f @yk5 fun t => t := fun R κ again t => by kernel_rfl
theorem yt3 : LK ymi ymj 102 Tryz.f102 0 := lkN (u := (unG yhX y8f)) (yq fun t => by kernel_rfl) yt2
theorem yxV : EV ymi ymj 102 Tryz.f102 yr6 [(.sl 63 yg)] [(.sl 63 yg)] JC := fun x => by kernel_rfl
def yC7 : QF := ⟨102, JC, okN (n := 1) Tryz.func102 ⟨yt3, trivial⟩ yxV⟩
abbrev K3 : Type := yol
def j8 (k0 : List y7 → Option R) (again : K3 → Option R) (t3 : K3) : Option R :=
 bif (decide (t3.2.2.1 < t3.2.1)) then if (0 : Int) ≤ t3.2.2.1 then if t3.2.2.1 < (List.length t3.1 : Int) then Option.bind (Z9 (t3.2.2.2, (yn t3.1 t3.2.2.1))) fun r1 => again (t3.1, t3.2.1, (Go.IntKind.wrap .i64 (t3.2.2.1 + (1 : Int))), r1) else none else none else k0 t3.2.2.2
def qz k0 := zS (@j8 R k0) Y4
def yR (x : List ya) : Option (List y7) :=
 qz (fun x2 => Option.bind (JC x2) fun r3 => some r3) (x, (List.length x : Int), (0 : Int), ([] : List y7))
def yxW : List QF := [yDG, yC7]
def ybK (t : yol) : St := ⟨dd 3 (.own 10000000 :: dd 4 (Yv t.1 :: vI t.2.1 :: vI t.2.2.1 :: dd 9 [])), [(10000000, .root true 63 yg t.2.2.2)]⟩
def yt4 : Gk K3 := fun κ => j8 (fun t => κ (some 0) ⟨dd 3 (.own 10000000 :: dd 16 []), [(10000000, .root true 63 yg t)]⟩)
def yxX : Lp := lpC 3 (unG yom ybK) @yt4 lpN
theorem yxY : LF yxW yxX 63 3 Tryz.f63 0 ybK @yt4 fun t => t := fun R κ again t => by kernel_rfl
theorem yxZ : LK yxW yxX 63 Tryz.f63 0 := lkN (u := (unG yom ybK)) (yq fun t => by kernel_rfl) yxY
theorem yDH : EV yxW yxX 63 Tryz.f63 yAY [(.sl 58 yp)] [(.sl 63 yg)] yR := fun x => by kernel_rfl
def q63 : QF := ⟨63, yR, okN (n := 1) Tryz.func63 ⟨yxZ, trivial⟩ yDH⟩
abbrev K4 : Type := yon
def j9 (k0 : List y7 → Option R) (again : K4 → Option R) (t3 : K4) : Option R :=
 bif (decide (t3.2.2.1 < t3.2.1)) then if (0 : Int) ≤ t3.2.2.1 then if t3.2.2.1 < (List.length t3.1 : Int) then Option.bind (yR (ye t3.1 t3.2.2.1)) fun r1 => if (List.length t3.2.2.2 + List.length r1) * 40 < 140737488355328 then again (t3.1, t3.2.1, (Go.IntKind.wrap .i64 (t3.2.2.1 + (1 : Int))), (t3.2.2.2 ++ r1)) else none else none else none else k0 t3.2.2.2
def qA k0 := zS (@j9 R k0) Y4
def za (x : Qz8) : Option (List y7) :=
 qA (fun x2 => some x2) (x.2, (List.length x.2 : Int), (0 : Int), ([] : List y7))
def yy0 : List QF := [q63]
def ybL (t : yon) : St := ⟨dd 3 (.own 10000000 :: dd 4 (yE t.1 :: vI t.2.1 :: vI t.2.2.1 :: dd 9 [])), [(10000000, .root true 63 yg t.2.2.2)]⟩
def yt5 : Gk K4 := fun κ => j9 (fun t => κ (some 0) ⟨dd 3 (.own 10000000 :: dd 16 []), [(10000000, .root true 63 yg t)]⟩)
def yy1 : Lp := lpC 3 (unG yoo ybL) @yt5 lpN
theorem yy2 : LF yy0 yy1 23 3 Tryz.f23 0 ybL @yt5 fun t => t := fun R κ again t => by kernel_rfl
theorem yy3 : LK yy0 yy1 23 Tryz.f23 0 := lkN (u := (unG yoo ybL)) (yq fun t => by kernel_rfl) yy2
theorem yDI : EV yy0 yy1 23 Tryz.f23 yAZ qz8 [(.sl 63 yg)] za := fun x => by kernel_rfl
def q23 : QF := ⟨23, za, okN (n := 1) Tryz.func23 ⟨yy3, trivial⟩ yDI⟩
abbrev V4 : Type := yop
def JD (k0 : List y7 → Option R) (again : V4 → Option R) (t3 : V4) : Option R :=
 bif (decide (t3.2.2.1 < t3.2.1)) then if (0 : Int) ≤ t3.2.2.1 then if t3.2.2.1 < (List.length t3.2.2.2.2 : Int) then bif ((y6 t3.2.2.2.2 t3.2.2.1).1 == t3.1) then if (List.length t3.2.2.2.1 + List.length ([((y6 t3.2.2.2.2 t3.2.2.1).1, (y6 t3.2.2.2.2 t3.2.2.1).2.1, (y6 t3.2.2.2.2 t3.2.2.1).2.2.1, (y6 t3.2.2.2.2 t3.2.2.1).2.2.2.1, (y6 t3.2.2.2.2 t3.2.2.1).2.2.2.2)] : List y7)) * 40 < 140737488355328 then again (t3.1, t3.2.1, (Go.IntKind.wrap .i64 (t3.2.2.1 + (1 : Int))), (t3.2.2.2.1 ++ ([((y6 t3.2.2.2.2 t3.2.2.1).1, (y6 t3.2.2.2.2 t3.2.2.1).2.1, (y6 t3.2.2.2.2 t3.2.2.1).2.2.1, (y6 t3.2.2.2.2 t3.2.2.1).2.2.2.1, (y6 t3.2.2.2.2 t3.2.2.1).2.2.2.2)] : List y7)), t3.2.2.2.2) else none else again (t3.1, t3.2.1, (Go.IntKind.wrap .i64 (t3.2.2.1 + (1 : Int))), t3.2.2.2.1, t3.2.2.2.2) else none else none else k0 t3.2.2.2.1
def y06 k0 := zS (@JD R k0) Y4
def k8 (x : ynR) : Option (List y7) :=
 Option.bind (za (x.1, x.2.1)) fun r1 => y06 (fun x2 => some x2) (x.2.2, (List.length r1 : Int), (0 : Int), ([] : List y7), r1)
def ymk : List QF := [q23]
def y8g (t : yop) : St := ⟨.dead :: vI t.1 :: dd 3 (.own 10000000 :: dd 4 (.own 10000001 :: vI t.2.1 :: vI t.2.2.1 :: dd 13 [])), [(10000000, .root true 63 yg t.2.2.2.1), (10000001, .root true 63 yg t.2.2.2.2)]⟩
def yk6 : Gk V4 := fun κ => JD (fun t => κ (some 0) ⟨dd 5 (.own 10000000 :: dd 20 []), [(10000000, .root true 63 yg t)]⟩)
def yml : Lp := lpC 3 (unG yoq y8g) @yk6 lpN
theorem yt6 : LF ymk yml 155 3 Tryz.f155 0 y8g @yk6 fun t => t := fun R κ again t => by kernel_rfl
theorem yt7 : LK ymk yml 155 Tryz.f155 0 := lkN (u := (unG yoq y8g)) (yq fun t => by kernel_rfl) yt6
theorem yy4 : EV ymk yml 155 Tryz.f155 yr7 ynS [(.sl 63 yg)] k8 := fun x => by kernel_rfl
def yDJ : QF := ⟨155, k8, okN (n := 1) Tryz.func155 ⟨yt7, trivial⟩ yy4⟩
abbrev wq : Type := yor
def YI (k0 : Int → Option R) (k1 : Unit → Option R) (again : wq → Option R) (t2 : wq) : Option R :=
 bif (decide (t2.2.2.2 < t2.2.2.1)) then if (0 : Int) ≤ t2.2.2.2 then if t2.2.2.2 < (List.length t2.1 : Int) then bif (t2.2.1 == (zt t2.1 t2.2.2.2)) then k0 t2.2.2.2 else again (t2.1, t2.2.1, t2.2.2.1, (Go.IntKind.wrap .i64 (t2.2.2.2 + (1 : Int)))) else none else none else k1 ()
def ve k0 k1 := zS (@YI R k0 k1) Y4
def Zm (x : yv3) : Option Int :=
 ve (fun x1 => some x1) (fun x2 => some (-1 : Int)) (x.1, x.2, (List.length x.1 : Int), (0 : Int))
def ymm : List QF := []
def y8h (t : yor) : St := ⟨zi t.1 :: vI t.2.1 :: dd 5 (vI t.2.2.1 :: vI t.2.2.2 :: dd 10 []), []⟩
def yk7 : Gk wq := fun κ => YI (fun t => κ none ⟨dd 4 (vI t :: dd 14 []), []⟩) (fun t => κ (some 0) ⟨dd 19 [], []⟩)
def ymn : Lp := lpC 2 (unG yos y8h) @yk7 lpN
theorem yt8 : LF ymm ymn 177 2 Tryz.f177 0 y8h @yk7 fun t => t := fun R κ again t => by kernel_rfl
theorem yt9 : LK ymm ymn 177 Tryz.f177 0 := lkN (u := (unG yos y8h)) (yq fun t => by kernel_rfl) yt8
theorem yy5 : EV ymm ymn 177 Tryz.f177 yr8 yv4 [(.int .i64)] Zm := fun x => by kernel_rfl
def yDK : QF := ⟨177, Zm, okN (n := 1) Tryz.func177 ⟨yt9, trivial⟩ yy5⟩
def Yy (x : yv3) : Option Bool :=
 Option.bind (Zm x) fun r1 => some (decide (r1 ≥ (0 : Int)))
theorem yy6 : EV [yDK] lpN 156 Tryz.f156 yr9 yv4 [.bool] Yy := fun x => by kernel_rfl
def yDL : QF := ⟨156, Yy, okN (n := 0) Tryz.func156 trivial yy6⟩
abbrev V5 : Type := yot
def JE (k0 : yAu → Option R) (again : V5 → Option R) (t3 : V5) : Option R :=
 bif (decide (t3.2.2.2.1 < t3.2.2.1)) then if (0 : Int) ≤ t3.2.2.2.1 then if t3.2.2.2.1 < (List.length t3.2.2.2.2.2.2.2.2.2.2.2.2.2.2 : Int) then Option.bind (Yy (t3.1, (y6 t3.2.2.2.2.2.2.2.2.2.2.2.2.2.2 t3.2.2.2.1).2.1)) fun r2 => Option.bind (bif r2 then Option.bind (bif (!t3.2.1) then some true else some (decide ((y6 t3.2.2.2.2.2.2.2.2.2.2.2.2.2.2 t3.2.2.2.1).2.1 > t3.2.2.2.2.2.2.2.2.2.2.1))) fun u4 => some u4 else some false) fun u3 => bif u3 then again (t3.1, true, t3.2.2.1, (Go.IntKind.wrap .i64 (t3.2.2.2.1 + (1 : Int))), t3.2.2.2.2.1, t3.2.2.2.2.2.1, t3.2.2.2.2.2.2.1, t3.2.2.2.2.2.2.2.1, t3.2.2.2.2.2.2.2.2.1, (y6 t3.2.2.2.2.2.2.2.2.2.2.2.2.2.2 t3.2.2.2.1).1, (y6 t3.2.2.2.2.2.2.2.2.2.2.2.2.2.2 t3.2.2.2.1).2.1, (y6 t3.2.2.2.2.2.2.2.2.2.2.2.2.2.2 t3.2.2.2.1).2.2.1, (y6 t3.2.2.2.2.2.2.2.2.2.2.2.2.2.2 t3.2.2.2.1).2.2.2.1, (y6 t3.2.2.2.2.2.2.2.2.2.2.2.2.2.2 t3.2.2.2.1).2.2.2.2, t3.2.2.2.2.2.2.2.2.2.2.2.2.2.2) else again (t3.1, t3.2.1, t3.2.2.1, (Go.IntKind.wrap .i64 (t3.2.2.2.1 + (1 : Int))), t3.2.2.2.2.1, t3.2.2.2.2.2.1, t3.2.2.2.2.2.2.1, t3.2.2.2.2.2.2.2.1, t3.2.2.2.2.2.2.2.2.1, t3.2.2.2.2.2.2.2.2.2.1, t3.2.2.2.2.2.2.2.2.2.2.1, t3.2.2.2.2.2.2.2.2.2.2.2.1, t3.2.2.2.2.2.2.2.2.2.2.2.2.1, t3.2.2.2.2.2.2.2.2.2.2.2.2.2.1, t3.2.2.2.2.2.2.2.2.2.2.2.2.2.2) else none else none else k0 (t3.2.1, t3.2.2.2.2.1, t3.2.2.2.2.2.1, t3.2.2.2.2.2.2.1, t3.2.2.2.2.2.2.2.1, t3.2.2.2.2.2.2.2.2.1, t3.2.2.2.2.2.2.2.2.2.1, t3.2.2.2.2.2.2.2.2.2.2.1, t3.2.2.2.2.2.2.2.2.2.2.2.1, t3.2.2.2.2.2.2.2.2.2.2.2.2.1, t3.2.2.2.2.2.2.2.2.2.2.2.2.2.1)
def y07 k0 := zS (@JE R k0) Y4
def jx (x : yAv) : Option yeO :=
 Option.bind (k8 (x.1, x.2.1, x.2.2.1)) fun r1 => y07 (fun x5 => some (x5.2.2.2.2.2.2.1, x5.2.2.2.2.2.2.2.1, x5.2.2.2.2.2.2.2.2.1, x5.2.2.2.2.2.2.2.2.2.1, x5.2.2.2.2.2.2.2.2.2.2, x5.1)) (x.2.2.2, false, (List.length r1 : Int), (0 : Int), (0 : Int), (0 : Int), (0 : Int), (0 : Int), (0 : Int), (0 : Int), (0 : Int), (0 : Int), (0 : Int), (0 : Int), r1)
def ymo : List QF := [yDJ, yDL]
def y8i (t : yot) : St := ⟨dd 2 (zi t.1 :: dd 3 (.box 6 0 :: .dead :: .box 8 0 :: vB t.2.1 :: dd 5 (.own 10000000 :: vI t.2.2.1 :: vI t.2.2.2.1 :: dd 22 []))), [(6, .box [vI t.2.2.2.2.1, vI t.2.2.2.2.2.1, vI t.2.2.2.2.2.2.1, vI t.2.2.2.2.2.2.2.1, vI t.2.2.2.2.2.2.2.2.1]), (8, .box [vI t.2.2.2.2.2.2.2.2.2.1, vI t.2.2.2.2.2.2.2.2.2.2.1, vI t.2.2.2.2.2.2.2.2.2.2.2.1, vI t.2.2.2.2.2.2.2.2.2.2.2.2.1, vI t.2.2.2.2.2.2.2.2.2.2.2.2.2.1]), (10000000, .root true 63 yg t.2.2.2.2.2.2.2.2.2.2.2.2.2.2)]⟩
def yk8 : Gk V5 := fun κ => JE (fun t => κ (some 0) ⟨dd 6 (.box 6 0 :: .dead :: .box 8 0 :: vB t.1 :: dd 30 []), [(6, .box [vI t.2.1, vI t.2.2.1, vI t.2.2.2.1, vI t.2.2.2.2.1, vI t.2.2.2.2.2.1]), (8, .box [vI t.2.2.2.2.2.2.1, vI t.2.2.2.2.2.2.2.1, vI t.2.2.2.2.2.2.2.2.1, vI t.2.2.2.2.2.2.2.2.2.1, vI t.2.2.2.2.2.2.2.2.2.2])]⟩)
def ymp : Lp := lpC 3 (unG yov y8i) @yk8 lpN
theorem yta : LF ymo ymp 118 3 Tryz.f118 0 y8i @yk8 fun t => t := fun R κ again t => by kernel_rfl
theorem ytb : LK ymo ymp 118 Tryz.f118 0 := lkN (u := (unG yov y8i)) (yq fun t => by kernel_rfl) yta
theorem yy7 : EV ymo ymp 118 Tryz.f118 yra yAw yeP jx := fun x => by kernel_rfl
def yC8 : QF := ⟨118, jx, okN (n := 1) Tryz.func118 ⟨ytb, trivial⟩ yy7⟩
def Ku (x : yuO) : Option yhY :=
 some ((x.1 == x.2.2), x.2.2)
theorem yy8 : EV [] lpN 129 Tryz.f129 yrb yuP ykM Ku := fun x => by kernel_rfl
def yDM : QF := ⟨129, Ku, okN (n := 0) Tryz.func129 trivial yy8⟩
abbrev zT : Type := yow
def z3 (k0 : yha → Option R) (k1 : Int → Option R) (again : zT → Option R) (t2 : zT) : Option R :=
 bif (decide (t2.2.2.1 < t2.2.1)) then if (0 : Int) ≤ t2.2.2.1 then if t2.2.2.1 < (List.length t2.1 : Int) then Option.bind (Ku ((yG t2.1 t2.2.2.1).1, (yG t2.1 t2.2.2.1).2, t2.2.2.2)) fun r1 => bif r1.1 then k0 (t2.2.2.1, r1.2) else again (t2.1, t2.2.1, (Go.IntKind.wrap .i64 (t2.2.2.1 + (1 : Int))), r1.2) else none else none else k1 t2.2.2.2
def YJ k0 k1 := zS (@z3 R k0 k1) Y4
def zb (x : yfD) : Option yha :=
 YJ (fun x2 => some x2) (fun x3 => some ((-1 : Int), x3)) (x.1, (List.length x.1 : Int), (0 : Int), x.2)
def y8j : List QF := [yDM]
def y1D (t : yow) : St := ⟨zu t.1 :: .clo 129 901 :: dd 5 (vI t.2.1 :: vI t.2.2.1 :: dd 10 []), [(901, .box [vI t.2.2.2])]⟩
def ya0 : Gk zT := fun κ => z3 (fun t => κ none ⟨.dead :: .clo 129 901 :: dd 2 (vI t.1 :: dd 14 []), [(901, .box [vI t.2])]⟩) (fun t => κ (some 0) ⟨.dead :: .clo 129 901 :: dd 17 [], [(901, .box [vI t])]⟩)
def y8k : Lp := lpC 2 (unG yox y1D) @ya0 lpN
theorem ygb : LF y8j y8k 100000 2 Tryz.f128 0 y1D @ya0 fun t => t := fun R κ again t => by kernel_rfl
theorem ygc : LK y8j y8k 100000 Tryz.f128 0 := lkN (u := (unG yox y1D)) (yq fun t => by kernel_rfl) ygb
theorem yic : EV y8j y8k 100000 Tryz.f128 yd3 yfE ykF zb := fun x => by kernel_rfl
def ymq : QF := ⟨100000, zb, okN (n := 1) Tryz.func128 ⟨ygc, trivial⟩ yic⟩
def YU (x : yfD) : Option Int :=
 Option.bind (zb x) fun r1 => some r1.1
theorem yDN : EV [ymq] lpN 97 Tryz.f97 yB0 yfE [(.int .i64)] YU := fun x => by kernel_rfl
def q97 : QF := ⟨97, YU, okN (n := 0) Tryz.func97 trivial yDN⟩
abbrev k9 : Type := yoy
def ka (k0 : List yb → Option R) (again : k9 → Option R) (t3 : k9) : Option R :=
 bif (decide (t3.2.2.2.1 < t3.2.2.1)) then Option.bind (YU (t3.1, t3.2.1)) fun r1 => bif (decide (r1 < (0 : Int))) then k0 t3.2.2.2.2 else if (List.length t3.2.2.2.2 + List.length ([t3.2.1] : List yb)) * 8 < 140737488355328 then if (0 : Int) ≤ r1 then if r1 < (List.length t3.1 : Int) then again (t3.1, (yG t3.1 r1).2, t3.2.2.1, (Go.IntKind.wrap .i64 (t3.2.2.2.1 + (1 : Int))), (t3.2.2.2.2 ++ ([t3.2.1] : List yb))) else none else none else none else k0 t3.2.2.2.2
def y08 k0 := zS (@ka R k0) Y4
def we (x : yfD) : Option (List yb) :=
 y08 (fun x2 => some x2) (x.1, x.2, (Go.IntKind.wrap .i64 ((List.length x.1 : Int) + (1 : Int))), (0 : Int), ([] : List yb))
def ymr : List QF := [q97]
def y8l (t : yoy) : St := ⟨zu t.1 :: vI t.2.1 :: dd 3 (.own 10000000 :: dd 4 (vI t.2.2.1 :: vI t.2.2.2.1 :: dd 17 [])), [(10000000, .root true 3 yd t.2.2.2.2)]⟩
def yk9 : Gk k9 := fun κ => ka (fun t => κ (some 0) ⟨dd 5 (.own 10000000 :: dd 23 []), [(10000000, .root true 3 yd t)]⟩)
def yms : Lp := lpC 3 (unG yoz y8l) @yk9 lpN
theorem ytc : LF ymr yms 119 3 Tryz.f119 0 y8l @yk9 fun t => t := fun R κ again t => by kernel_rfl
theorem ytd : LK ymr yms 119 Tryz.f119 0 := lkN (u := (unG yoz y8l)) (yq fun t => by kernel_rfl) ytc
theorem yy9 : EV ymr yms 119 Tryz.f119 yrc yfE [(.sl 3 yd)] we := fun x => by kernel_rfl
def yC9 : QF := ⟨119, we, okN (n := 1) Tryz.func119 ⟨ytd, trivial⟩ yy9⟩
def K5 (x : yux) : Option yeO :=
 Option.bind (we (x.2.2.1, x.2.2.2.2)) fun r1 => Option.bind (jx (x.1, x.2.1, x.2.2.2.1, r1)) fun r2 => some r2
theorem yDO : EV [yC8, yC9] lpN 77 Tryz.f77 yB1 yuy yeP K5 := fun x => by kernel_rfl
def q77 : QF := ⟨77, K5, okN (n := 0) Tryz.func77 trivial yDO⟩
def wg (x : yuj) : Option yzZ :=
 Option.bind (yL (x.2.1, (0 : Int), (Go.IntKind.wrap .i64 ((List.length x.1 : Int) - (1 : Int))))) fun r1 => Option.bind (bif (!r1) then some true else if (0 : Int) ≤ x.2.1 then if x.2.1 < (List.length x.1 : Int) then some (!((yA x.1 x.2.1).2.1)) else none else none) fun u2 => Option.bind (bif u2 then some true else if (0 : Int) ≤ x.2.1 then if x.2.1 < (List.length x.1 : Int) then some ((yA x.1 x.2.1).1 != x.2.2) else none else none) fun u3 => bif u3 then some ((0 : Int), false) else if (0 : Int) ≤ x.2.1 then if x.2.1 < (List.length x.1 : Int) then some ((yA x.1 x.2.1).2.2, true) else none else none
theorem yDP : EV [q47] lpN 78 Tryz.f78 yB2 yuk yA0 wg := fun x => by kernel_rfl
def q78 : QF := ⟨78, wg, okN (n := 0) Tryz.func78 trivial yDP⟩
def ZE (x : yv5) : Option Int :=
 Option.bind (yL (x.2.2.2.2.2.2.1, (0 : Int), (Go.IntKind.wrap .i64 ((List.length x.2.2.2.2.1 : Int) - (1 : Int))))) fun r1 => Option.bind (bif (!r1) then some true else if (0 : Int) ≤ x.2.2.2.2.2.2.1 then if x.2.2.2.2.2.2.1 < (List.length x.2.2.2.2.1 : Int) then Option.bind (yL (x.2.2.2.2.2.2.2, (0 : Int), (Go.IntKind.wrap .i64 ((yi x.2.2.2.2.1 x.2.2.2.2.2.2.1).2.2.1 - (1 : Int))))) fun r3 => some (!r3) else none else none) fun u2 => bif u2 then some (0 : Int) else if (0 : Int) ≤ x.2.2.2.2.2.2.1 then if x.2.2.2.2.2.2.1 < (List.length x.2.2.2.2.1 : Int) then Option.bind (K5 (x.1, x.2.1, x.2.2.1, x.2.2.2.2.2.2.2, (yi x.2.2.2.2.1 x.2.2.2.2.2.2.1).2.1)) fun r4 => Option.bind (bif (!r4.2.2.2.2.2) then some true else some (r4.2.2.1 != (1 : Int))) fun u5 => bif u5 then some (0 : Int) else Option.bind (wg (x.2.2.2.1, r4.2.2.2.1, r4.2.2.2.2.1)) fun r6 => some r6.1 else none else none
theorem yDQ : EV [q47, q77, q78] lpN 37 Tryz.f37 yB3 yv6 [(.int .i64)] ZE := fun x => by kernel_rfl
def q37 : QF := ⟨37, ZE, okN (n := 0) Tryz.func37 trivial yDQ⟩
abbrev kb : Type := yfJ ⊕ yfK
def JF (k0 : yvm → Option R) (k1 : yvn → Option R) (again : kb → Option R) : kb → Option R
 | .inl t7 => Option.bind (bif (decide (t7.2.1 < t7.2.2.2.2.2.2.2.2.2.2.2.2.2.1)) then some (decide (t7.2.1 < (12 : Int))) else some false) fun u1 => bif u1 then Option.bind (ZE (t7.2.2.2.2.2.1, t7.2.2.2.2.2.2.1, t7.2.2.2.2.2.2.2.1, t7.2.2.2.2.2.2.2.2.1, t7.2.2.2.2.2.2.2.2.2.1, t7.2.2.2.2.2.2.2.2.2.2.1, t7.1, t7.2.1)) fun r2 => if List.length ([r2] : List yb) * 8 < 140737488355328 then again (Sum.inr (t7.1, (Go.IntKind.wrap .i64 (t7.2.1 + (1 : Int))), t7.2.2.1, t7.2.2.2.1, t7.2.2.2.2.1, t7.2.2.2.2.2.1, t7.2.2.2.2.2.2.1, t7.2.2.2.2.2.2.2.1, t7.2.2.2.2.2.2.2.2.1, t7.2.2.2.2.2.2.2.2.2.1, t7.2.2.2.2.2.2.2.2.2.2.1, t7.2.2.2.2.2.2.2.2.2.2.2.1, t7.2.2.2.2.2.2.2.2.2.2.2.2.1, t7.2.2.2.2.2.2.2.2.2.2.2.2.2.1, t7.2.2.2.2.2.2.2.2.2.2.2.2.2.2.1, t7.2.2.2.2.2.2.2.2.2.2.2.2.2.2.2.1, t7.2.2.2.2.2.2.2.2.2.2.2.2.2.2.2.2.1, t7.2.2.2.2.2.2.2.2.2.2.2.2.2.2.2.2.2, ([r2] : List yb))) else none else k0 (t7.2.2.1, t7.2.2.2.1, t7.2.2.2.2.1, t7.2.2.2.2.2.1, t7.2.2.2.2.2.2.1, t7.2.2.2.2.2.2.2.1, t7.2.2.2.2.2.2.2.2.1, t7.2.2.2.2.2.2.2.2.2.1, t7.2.2.2.2.2.2.2.2.2.2.1, t7.2.2.2.2.2.2.2.2.2.2.2.2.2.2.2)
 | .inr t7 => Option.bind (bif (decide (t7.2.1 < t7.2.2.2.2.2.2.2.2.2.2.2.2.2.1)) then some (decide (t7.2.1 < (12 : Int))) else some false) fun u3 => bif u3 then Option.bind (ZE (t7.2.2.2.2.2.1, t7.2.2.2.2.2.2.1, t7.2.2.2.2.2.2.2.1, t7.2.2.2.2.2.2.2.2.1, t7.2.2.2.2.2.2.2.2.2.1, t7.2.2.2.2.2.2.2.2.2.2.1, t7.1, t7.2.1)) fun r4 => if (List.length t7.2.2.2.2.2.2.2.2.2.2.2.2.2.2.2.2.2.2 + List.length ([r4] : List yb)) * 8 < 140737488355328 then again (Sum.inr (t7.1, (Go.IntKind.wrap .i64 (t7.2.1 + (1 : Int))), t7.2.2.1, t7.2.2.2.1, t7.2.2.2.2.1, t7.2.2.2.2.2.1, t7.2.2.2.2.2.2.1, t7.2.2.2.2.2.2.2.1, t7.2.2.2.2.2.2.2.2.1, t7.2.2.2.2.2.2.2.2.2.1, t7.2.2.2.2.2.2.2.2.2.2.1, t7.2.2.2.2.2.2.2.2.2.2.2.1, t7.2.2.2.2.2.2.2.2.2.2.2.2.1, t7.2.2.2.2.2.2.2.2.2.2.2.2.2.1, t7.2.2.2.2.2.2.2.2.2.2.2.2.2.2.1, t7.2.2.2.2.2.2.2.2.2.2.2.2.2.2.2.1, t7.2.2.2.2.2.2.2.2.2.2.2.2.2.2.2.2.1, t7.2.2.2.2.2.2.2.2.2.2.2.2.2.2.2.2.2.1, (t7.2.2.2.2.2.2.2.2.2.2.2.2.2.2.2.2.2.2 ++ ([r4] : List yb)))) else none else k1 (t7.2.2.1, t7.2.2.2.1, t7.2.2.2.2.1, t7.2.2.2.2.2.1, t7.2.2.2.2.2.2.1, t7.2.2.2.2.2.2.2.1, t7.2.2.2.2.2.2.2.2.1, t7.2.2.2.2.2.2.2.2.2.1, t7.2.2.2.2.2.2.2.2.2.2.1, t7.2.2.2.2.2.2.2.2.2.2.2.2.2.2.2)
def V6 k0 k1 := zS (@JF R k0 k1) Y4
abbrev kc : Type := yoC
def ke (k0 : List vC → Option R) (again : kc → Option R) (t3 : kc) : Option R :=
 bif (decide (t3.2.2.1 < t3.2.1)) then if (0 : Int) ≤ t3.2.2.1 then if t3.2.2.1 < (List.length t3.1 : Int) then V6 (fun x5 => if (List.length x5.2.2.2.2.2.2.2.2.2.2.2 + List.length ([(x5.2.2.2.2.2.2.2.2.2.1, x5.2.2.2.2.2.2.2.2.2.2.1, ([] : List yb))] : List vC)) * 48 < 140737488355328 then again (x5.1, x5.2.1, (Go.IntKind.wrap .i64 (x5.2.2.1 + (1 : Int))), x5.2.2.2.1, x5.2.2.2.2.1, x5.2.2.2.2.2.1, x5.2.2.2.2.2.2.1, x5.2.2.2.2.2.2.2.1, x5.2.2.2.2.2.2.2.2.1, (x5.2.2.2.2.2.2.2.2.2.2.2 ++ ([(x5.2.2.2.2.2.2.2.2.2.1, x5.2.2.2.2.2.2.2.2.2.2.1, ([] : List yb))] : List vC))) else none) (fun x6 => if (List.length x6.2.2.2.2.2.2.2.2.2.2.2.1 + List.length ([(x6.2.2.2.2.2.2.2.2.2.1, x6.2.2.2.2.2.2.2.2.2.2.1, x6.2.2.2.2.2.2.2.2.2.2.2.2)] : List vC)) * 48 < 140737488355328 then again (x6.1, x6.2.1, (Go.IntKind.wrap .i64 (x6.2.2.1 + (1 : Int))), x6.2.2.2.1, x6.2.2.2.2.1, x6.2.2.2.2.2.1, x6.2.2.2.2.2.2.1, x6.2.2.2.2.2.2.2.1, x6.2.2.2.2.2.2.2.2.1, (x6.2.2.2.2.2.2.2.2.2.2.2.1 ++ ([(x6.2.2.2.2.2.2.2.2.2.1, x6.2.2.2.2.2.2.2.2.2.2.1, x6.2.2.2.2.2.2.2.2.2.2.2.2)] : List vC))) else none) (Sum.inl (t3.2.2.1, (0 : Int), t3.1, t3.2.1, t3.2.2.1, t3.2.2.2.1, t3.2.2.2.2.1, t3.2.2.2.2.2.1, t3.2.2.2.2.2.2.1, t3.2.2.2.2.2.2.2.1, t3.2.2.2.2.2.2.2.2.1, (yi t3.1 t3.2.2.1).1, (yi t3.1 t3.2.2.1).2.1, (yi t3.1 t3.2.2.1).2.2.1, (yi t3.1 t3.2.2.1).2.2.2, (yi t3.1 t3.2.2.1).1, (yi t3.1 t3.2.2.1).2.2.2, t3.2.2.2.2.2.2.2.2.2)) else none else none else k0 t3.2.2.2.2.2.2.2.2.2
def y09 k0 := zS (@ke R k0) Y4
def zL (x : Qz9) : Option (List vC) :=
 y09 (fun x7 => some x7) (x.2.2.2.2.1, (List.length x.2.2.2.2.1 : Int), (0 : Int), x.1, x.2.1, x.2.2.1, x.2.2.2.1, x.2.2.2.2.1, x.2.2.2.2.2, ([] : List vC))
def ymt : List QF := [q37]
def y8m (t : yfJ) : St := ⟨.dead :: .box 1 0 :: .dead :: .own 10000000 :: vI t.1 :: .box 5 0 :: .box 6 0 :: vI t.2.1 :: dd 2 (zW t.2.2.1 :: vI t.2.2.2.1 :: vI t.2.2.2.2.1 :: dd 34 []), [(1, .box [zi t.2.2.2.2.2.1, yE t.2.2.2.2.2.2.1, zu t.2.2.2.2.2.2.2.1, z0 t.2.2.2.2.2.2.2.2.1, zW t.2.2.2.2.2.2.2.2.2.1, vI t.2.2.2.2.2.2.2.2.2.2.1]), (5, .box [vS t.2.2.2.2.2.2.2.2.2.2.2.1, vI t.2.2.2.2.2.2.2.2.2.2.2.2.1, vI t.2.2.2.2.2.2.2.2.2.2.2.2.2.1, vB t.2.2.2.2.2.2.2.2.2.2.2.2.2.2.1]), (6, .box [vS t.2.2.2.2.2.2.2.2.2.2.2.2.2.2.2.1, vB t.2.2.2.2.2.2.2.2.2.2.2.2.2.2.2.2.1, .nils]), (10000000, .root true 89 Jg t.2.2.2.2.2.2.2.2.2.2.2.2.2.2.2.2.2)]⟩
theorem ymu : ∀ s t, unG yoA y8m s = some t → y8m t = s := yq fun t => by kernel_rfl
def y8n (t : yfK) : St := ⟨.dead :: .box 1 0 :: .dead :: .own 10000000 :: vI t.1 :: .box 5 0 :: .box 6 0 :: vI t.2.1 :: dd 2 (zW t.2.2.1 :: vI t.2.2.2.1 :: vI t.2.2.2.2.1 :: dd 34 []), [(1, .box [zi t.2.2.2.2.2.1, yE t.2.2.2.2.2.2.1, zu t.2.2.2.2.2.2.2.1, z0 t.2.2.2.2.2.2.2.2.1, zW t.2.2.2.2.2.2.2.2.2.1, vI t.2.2.2.2.2.2.2.2.2.2.1]), (5, .box [vS t.2.2.2.2.2.2.2.2.2.2.2.1, vI t.2.2.2.2.2.2.2.2.2.2.2.2.1, vI t.2.2.2.2.2.2.2.2.2.2.2.2.2.1, vB t.2.2.2.2.2.2.2.2.2.2.2.2.2.2.1]), (6, .box [vS t.2.2.2.2.2.2.2.2.2.2.2.2.2.2.2.1, vB t.2.2.2.2.2.2.2.2.2.2.2.2.2.2.2.2.1, .own 10000001]), (10000000, .root true 89 Jg t.2.2.2.2.2.2.2.2.2.2.2.2.2.2.2.2.2.1), (10000001, .root true 3 yd t.2.2.2.2.2.2.2.2.2.2.2.2.2.2.2.2.2.2)]⟩
theorem ymv : ∀ s t, unG yoB y8n s = some t → y8n t = s := yq fun t => by kernel_rfl
def y8o : (yfJ ⊕ yfK) → St := Sum.elim y8m y8n
def ybM (s : St) : Option (yfJ ⊕ yfK) := ((unG yoA y8m s).map Sum.inl).or (((unG yoB y8n) s).map Sum.inr)
theorem ymw : ∀ s t, ybM s = some t → y8o t = s := y9V ymu ymv
def yid : Gk kb := fun κ => JF (fun t => κ (some 2) ⟨.dead :: .box 1 0 :: .dead :: .own 10000000 :: dd 2 (.box 6 0 :: dd 3 (zW t.1 :: vI t.2.1 :: vI t.2.2.1 :: dd 34 [])), [(1, .box [zi t.2.2.2.1, yE t.2.2.2.2.1, zu t.2.2.2.2.2.1, z0 t.2.2.2.2.2.2.1, zW t.2.2.2.2.2.2.2.1, vI t.2.2.2.2.2.2.2.2.1]), (6, .box [vS t.2.2.2.2.2.2.2.2.2.1, vB t.2.2.2.2.2.2.2.2.2.2.1, .nils]), (10000000, .root true 89 Jg t.2.2.2.2.2.2.2.2.2.2.2)]⟩) (fun t => κ (some 2) ⟨.dead :: .box 1 0 :: .dead :: .own 10000000 :: dd 2 (.box 6 0 :: dd 3 (zW t.1 :: vI t.2.1 :: vI t.2.2.1 :: dd 34 [])), [(1, .box [zi t.2.2.2.1, yE t.2.2.2.2.1, zu t.2.2.2.2.2.1, z0 t.2.2.2.2.2.2.1, zW t.2.2.2.2.2.2.2.1, vI t.2.2.2.2.2.2.2.2.1]), (6, .box [vS t.2.2.2.2.2.2.2.2.2.1, vB t.2.2.2.2.2.2.2.2.2.2.1, .own 10000001]), (10000000, .root true 89 Jg t.2.2.2.2.2.2.2.2.2.2.2.1), (10000001, .root true 3 yd t.2.2.2.2.2.2.2.2.2.2.2.2)]⟩)
def ybN (t : yoC) : St := ⟨.dead :: .box 1 0 :: .dead :: .own 10000000 :: dd 6 (zW t.1 :: vI t.2.1 :: vI t.2.2.1 :: dd 34 []), [(1, .box [zi t.2.2.2.1, yE t.2.2.2.2.1, zu t.2.2.2.2.2.1, z0 t.2.2.2.2.2.2.1, zW t.2.2.2.2.2.2.2.1, vI t.2.2.2.2.2.2.2.2.1]), (10000000, .root true 89 Jg t.2.2.2.2.2.2.2.2.2)]⟩
def yte : Gk kc := fun κ => ke (fun t => κ (some 0) ⟨dd 3 (.own 10000000 :: dd 43 []), [(10000000, .root true 89 Jg t)]⟩)
def ymx : Lp := lpC 3 (unG yoD ybN) @yte (lpC 7 ybM @yid lpN)
theorem ymy : LF ymt ymx 17 7 Tryz.f17 1 y8o @yid fun v : yfJ => .inl v := fun R κ again v => by kernel_rfl
theorem ymz : LF ymt ymx 17 7 Tryz.f17 1 y8o @yid fun v : yfK => .inr v := fun R κ again v => by kernel_rfl
theorem yya : LF ymt ymx 17 7 Tryz.f17 1 y8o @yid fun t => t := (LC.sum ymy ymz)
theorem yyb : LK ymt ymx 17 Tryz.f17 1 := lkN (u := ybM) ymw yya
theorem yyc : LF ymt ymx 17 3 Tryz.f17 0 ybN @yte fun t => t := fun R κ again t => by kernel_rfl
theorem yyd : LK ymt ymx 17 Tryz.f17 0 := lkN (u := (unG yoD ybN)) (yq fun t => by kernel_rfl) yyc
theorem yDR : EV ymt ymx 17 Tryz.f17 yB4 qz9 [(.sl 89 Jg)] zL := fun x => by kernel_rfl
def q17 : QF := ⟨17, zL, okN (n := 2) Tryz.func17 ⟨yyd, yyb, trivial⟩ yDR⟩
abbrev kf : Type := yoE
def Zn (k0 : Int → Option R) (again : kf → Option R) (t3 : kf) : Option R :=
 bif (decide (t3.2.2.2 < t3.2.2.1)) then if (0 : Int) ≤ t3.2.2.2 then if t3.2.2.2 < (List.length t3.2.1 : Int) then bif (yA t3.2.1 t3.2.2.2).2.1 then again ((Go.IntKind.wrap .i64 (t3.1 + (1 : Int))), t3.2.1, t3.2.2.1, (Go.IntKind.wrap .i64 (t3.2.2.2 + (1 : Int)))) else again (t3.1, t3.2.1, t3.2.2.1, (Go.IntKind.wrap .i64 (t3.2.2.2 + (1 : Int)))) else none else none else k0 t3.1
def VH k0 := zS (@Zn R k0) Y4
def yy (x : List y8) : Option Int :=
 VH (fun x1 => some x1) ((0 : Int), x, (List.length x : Int), (0 : Int))
def yye : List QF := []
def ybO (t : yoE) : St := ⟨dd 3 (vI t.1 :: dd 2 (z0 t.2.1 :: vI t.2.2.1 :: vI t.2.2.2 :: dd 9 [])), []⟩
def ytf : Gk kf := fun κ => Zn (fun t => κ (some 0) ⟨dd 3 (vI t :: dd 14 []), []⟩)
def yyf : Lp := lpC 3 (unG yoF ybO) @ytf lpN
theorem yyg : LF yye yyf 18 3 Tryz.f18 0 ybO @ytf fun t => t := fun R κ again t => by kernel_rfl
theorem yyh : LK yye yyf 18 Tryz.f18 0 := lkN (u := (unG yoF ybO)) (yq fun t => by kernel_rfl) yyg
theorem yDS : EV yye yyf 18 Tryz.f18 yB5 [(.sl 53 yj)] [(.int .i64)] yy := fun x => by kernel_rfl
def q18 : QF := ⟨18, yy, okN (n := 1) Tryz.func18 ⟨yyh, trivial⟩ yDS⟩
def Wk (x : yh9) : Option Bool :=
 Option.bind (yL (x.1, (0 : Int), (15 : Int))) fun r1 => Option.bind (bif (!r1) then some true else Option.bind (yL (x.2.1, (1 : Int), (60 : Int))) fun r3 => some (!r3)) fun u2 => Option.bind (bif u2 then some true else Option.bind (yL (x.2.2.1, (0 : Int), (2 : Int))) fun r5 => some (!r5)) fun u4 => bif u4 then some false else bif (x.2.2.1 != (1 : Int)) then Option.bind (bif (x.2.2.2.1 == (0 : Int)) then some (x.2.2.2.2 == (0 : Int)) else some false) fun u6 => some u6 else Option.bind (yL (x.2.2.2.1, (0 : Int), (23 : Int))) fun r7 => Option.bind (bif r7 then Option.bind (yL (x.2.2.2.2, (0 : Int), (999 : Int))) fun r9 => some r9 else some false) fun u8 => some u8
theorem yDT : EV [q47] lpN 87 Tryz.f87 yB6 Vs [.bool] Wk := fun x => by kernel_rfl
def q87 : QF := ⟨87, Wk, okN (n := 0) Tryz.func87 trivial yDT⟩
abbrev VT : Type := yoG
def wJ (k0 : yzF → Option R) (k1 : List y7 → Option R) (again : VT → Option R) (t2 : VT) : Option R :=
 bif (decide (t2.2.2.2 < t2.2.2.1)) then if (0 : Int) ≤ t2.2.2.2 then if t2.2.2.2 < (List.length t2.2.1 : Int) then Option.bind (Wk ((y6 t2.2.1 t2.2.2.2).1, (y6 t2.2.1 t2.2.2.2).2.1, (y6 t2.2.1 t2.2.2.2).2.2.1, (y6 t2.2.1 t2.2.2.2).2.2.2.1, (y6 t2.2.1 t2.2.2.2).2.2.2.2)) fun r1 => Option.bind (bif (!r1) then some true else Option.bind (bif (decide (t2.2.2.2 > (0 : Int))) then if (0 : Int) ≤ (Go.IntKind.wrap .i64 (t2.2.2.2 - (1 : Int))) then if (Go.IntKind.wrap .i64 (t2.2.2.2 - (1 : Int))) < (List.length t2.1 : Int) then Option.bind (J2 ((y6 t2.1 (Go.IntKind.wrap .i64 (t2.2.2.2 - (1 : Int)))).1, (y6 t2.1 (Go.IntKind.wrap .i64 (t2.2.2.2 - (1 : Int)))).2.1, (y6 t2.1 (Go.IntKind.wrap .i64 (t2.2.2.2 - (1 : Int)))).2.2.1, (y6 t2.1 (Go.IntKind.wrap .i64 (t2.2.2.2 - (1 : Int)))).2.2.2.1, (y6 t2.1 (Go.IntKind.wrap .i64 (t2.2.2.2 - (1 : Int)))).2.2.2.2, (y6 t2.2.1 t2.2.2.2).1, (y6 t2.2.1 t2.2.2.2).2.1, (y6 t2.2.1 t2.2.2.2).2.2.1, (y6 t2.2.1 t2.2.2.2).2.2.2.1, (y6 t2.2.1 t2.2.2.2).2.2.2.2)) fun r4 => some (!r4) else none else none else some false) fun u3 => some u3) fun u2 => bif u2 then k0 (t2.1, false) else again (t2.1, t2.2.1, t2.2.2.1, (Go.IntKind.wrap .i64 (t2.2.2.2 + (1 : Int)))) else none else none else k1 t2.1
def y1k k0 k1 := zS (@wJ R k0 k1) Y4
def KI (x : List y7) : Option Bool :=
 y1k (fun x5 => some x5.2) (fun x6 => some (decide ((List.length x6 : Int) ≤ (60 : Int)))) (x, x, (List.length x : Int), (0 : Int))
def ymA : List QF := [q87, yC6]
def y8p (t : yoG) : St := ⟨qp t.1 :: dd 4 (qp t.2.1 :: vI t.2.2.1 :: vI t.2.2.2 :: dd 25 []), []⟩
def yka : Gk VT := fun κ => wJ (fun t => κ none ⟨qp t.1 :: .dead :: vB t.2 :: dd 30 [], []⟩) (fun t => κ (some 0) ⟨qp t :: dd 32 [], []⟩)
def ymB : Lp := lpC 2 (unG yoH y8p) @yka lpN
theorem ytg : LF ymA ymB 127 2 Tryz.f127 0 y8p @yka fun t => t := fun R κ again t => by kernel_rfl
theorem yth : LK ymA ymB 127 Tryz.f127 0 := lkN (u := (unG yoH y8p)) (yq fun t => by kernel_rfl) ytg
theorem yyi : EV ymA ymB 127 Tryz.f127 yrd [(.sl 63 yg)] [.bool] KI := fun x => by kernel_rfl
def yDU : QF := ⟨127, KI, okN (n := 1) Tryz.func127 ⟨yth, trivial⟩ yyi⟩
abbrev V7 : Type := yoI
def JG (k0 : yvo → Option R) (k1 : yjj → Option R) (again : V7 → Option R) (t3 : V7) : Option R :=
 bif (decide (t3.2.2.2.1 < t3.2.2.1)) then if (0 : Int) ≤ t3.2.2.2.1 then if t3.2.2.2.1 < (List.length t3.2.1 : Int) then Option.bind (KI (yn t3.2.1 t3.2.2.2.1)) fun r1 => Option.bind (bif (!r1) then some true else some ((List.length (yn t3.2.1 t3.2.2.2.1) : Int) == (0 : Int))) fun u2 => bif u2 then k0 (false, t3.1, t3.2.2.2.2) else again ((Go.IntKind.wrap .i64 (t3.1 + (List.length (yn t3.2.1 t3.2.2.2.1) : Int))), t3.2.1, t3.2.2.1, (Go.IntKind.wrap .i64 (t3.2.2.2.1 + (1 : Int))), t3.2.2.2.2) else none else none else k1 (t3.1, t3.2.2.2.2)
def y0a k0 k1 := zS (@JG R k0 k1) Y4
def zM (x : List ya) : Option Bool :=
 y0a (fun x3 => some x3.1) (fun x4 => Option.bind (bif (decide ((List.length x4.2 : Int) ≤ (3 : Int))) then some (decide (x4.1 ≤ (8 : Int))) else some false) fun u5 => some u5) ((0 : Int), x, (List.length x : Int), (0 : Int), x)
def yyj : List QF := [yDU]
def ybP (t : yoI) : St := ⟨.dead :: .box 1 0 :: .dead :: vI t.1 :: dd 3 (Yv t.2.1 :: vI t.2.2.1 :: vI t.2.2.2.1 :: dd 24 []), [(1, .box [Yv t.2.2.2.2])]⟩
def yti : Gk V7 := fun κ => JG (fun t => κ none ⟨.dead :: .box 1 0 :: vB t.1 :: vI t.2.1 :: dd 30 [], [(1, .box [Yv t.2.2])]⟩) (fun t => κ (some 0) ⟨.dead :: .box 1 0 :: .dead :: vI t.1 :: dd 30 [], [(1, .box [Yv t.2])]⟩)
def yyk : Lp := lpC 3 (unG yoJ ybP) @yti lpN
theorem yyl : LF yyj yyk 95 3 Tryz.f95 0 ybP @yti fun t => t := fun R κ again t => by kernel_rfl
theorem yym : LK yyj yyk 95 Tryz.f95 0 := lkN (u := (unG yoJ ybP)) (yq fun t => by kernel_rfl) yyl
theorem yDV : EV yyj yyk 95 Tryz.f95 yB7 [(.sl 58 yp)] [.bool] zM := fun x => by kernel_rfl
def q95 : QF := ⟨95, zM, okN (n := 1) Tryz.func95 ⟨yym, trivial⟩ yDV⟩
def Zo (x : yha) : Option Int :=
 some (Go.IntKind.wrap .i64 ((Go.IntKind.wrap .i64 ((64 : Int) * x.1)) + x.2))
theorem yDW : EV [] lpN 92 Tryz.f92 yB8 ykF [(.int .i64)] Zo := fun x => by kernel_rfl
def q92 : QF := ⟨92, Zo, okN (n := 0) Tryz.func92 trivial yDW⟩
abbrev K6 : Type := yoK
def ja (k0 : yvp → Option R) (k1 : ykN → Option R) (again : K6 → Option R) (t5 : K6) : Option R :=
 bif (decide (t5.2.2.2.2.2.2.1 < t5.2.2.2.2.2.1)) then if (0 : Int) ≤ t5.2.2.2.2.2.2.1 then if t5.2.2.2.2.2.2.1 < (List.length t5.2.2.2.2.1 : Int) then Option.bind (Zo ((y6 t5.2.2.2.2.1 t5.2.2.2.2.2.2.1).1, (y6 t5.2.2.2.2.1 t5.2.2.2.2.2.2.1).2.1)) fun r1 => if (0 : Int) ≤ t5.1 then if t5.1 < (List.length t5.2.2.2.2.2.2.2.1 : Int) then Option.bind (bif (decide (r1 < (zt t5.2.2.2.2.2.2.2.1 t5.1))) then some true else Option.bind (bif (decide ((Go.IntKind.wrap .i64 (t5.1 + (1 : Int))) < (List.length t5.2.2.2.2.2.2.2.1 : Int))) then if (0 : Int) ≤ (Go.IntKind.wrap .i64 (t5.1 + (1 : Int))) then if (Go.IntKind.wrap .i64 (t5.1 + (1 : Int))) < (List.length t5.2.2.2.2.2.2.2.1 : Int) then some (decide (r1 ≥ (zt t5.2.2.2.2.2.2.2.1 (Go.IntKind.wrap .i64 (t5.1 + (1 : Int)))))) else none else none else some false) fun u3 => some u3) fun u2 => bif u2 then k0 (t5.1, false, t5.2.1, t5.2.2.1, t5.2.2.2.1, t5.2.2.2.2.2.2.2) else again (t5.1, t5.2.1, t5.2.2.1, t5.2.2.2.1, t5.2.2.2.2.1, t5.2.2.2.2.2.1, (Go.IntKind.wrap .i64 (t5.2.2.2.2.2.2.1 + (1 : Int))), t5.2.2.2.2.2.2.2.1, t5.2.2.2.2.2.2.2.2) else none else none else none else none else k1 (t5.1, t5.2.1, t5.2.2.1, t5.2.2.2.1, t5.2.2.2.2.2.2.2)
def K7 k0 k1 := zS (@ja R k0 k1) Y4
abbrev K8 : Type := ykN
def jb (k0 : Bool → Option R) (k1 : Unit → Option R) (again : K8 → Option R) (t2 : K8) : Option R :=
 bif (decide (t2.2.2.2.1 < t2.2.2.1)) then if (0 : Int) ≤ t2.2.2.2.1 then if t2.2.2.2.1 < (List.length t2.2.1 : Int) then K7 (fun x4 => k0 x4.2.1) (fun x5 => again (x5.1, x5.2.1, x5.2.2.1, (Go.IntKind.wrap .i64 (x5.2.2.2.1 + (1 : Int))), x5.2.2.2.2.1, x5.2.2.2.2.2)) (t2.1, t2.2.1, t2.2.2.1, t2.2.2.2.1, (yn t2.2.1 t2.2.2.2.1), (List.length (yn t2.2.1 t2.2.2.2.1) : Int), (0 : Int), t2.2.2.2.2.1, t2.2.2.2.2.2) else none else none else k1 ()
def qB k0 k1 := zS (@jb R k0 k1) Y4
def JH (x : ynR) : Option Bool :=
 if (0 : Int) ≤ x.2.2 then if x.2.2 < (List.length x.2.1 : Int) then qB (fun x6 => some x6) (fun x7 => some true) (x.2.2, (ye x.2.1 x.2.2), (List.length (ye x.2.1 x.2.2) : Int), (0 : Int), x.1, x.2.1) else none else none
def ytj : List QF := [q92]
def ybQ (t : yoK) : St := ⟨.dead :: vI t.1 :: .box 2 0 :: dd 12 (Yv t.2.1 :: vI t.2.2.1 :: vI t.2.2.2.1 :: dd 3 (qp t.2.2.2.2.1 :: vI t.2.2.2.2.2.1 :: vI t.2.2.2.2.2.2.1 :: dd 35 [])), [(2, .box [zi t.2.2.2.2.2.2.2.1, yE t.2.2.2.2.2.2.2.2])]⟩
def ytk : Gk K6 := fun κ => ja (fun t => κ none ⟨.dead :: vI t.1 :: .box 2 0 :: .dead :: vB t.2.1 :: dd 10 (Yv t.2.2.1 :: vI t.2.2.2.1 :: vI t.2.2.2.2.1 :: dd 41 []), [(2, .box [zi t.2.2.2.2.2.1, yE t.2.2.2.2.2.2])]⟩) (fun t => κ (some 2) ⟨.dead :: vI t.1 :: .box 2 0 :: dd 12 (Yv t.2.1 :: vI t.2.2.1 :: vI t.2.2.2.1 :: dd 41 []), [(2, .box [zi t.2.2.2.2.1, yE t.2.2.2.2.2])]⟩)
def ybR (t : ykN) : St := ⟨.dead :: vI t.1 :: .box 2 0 :: dd 12 (Yv t.2.1 :: vI t.2.2.1 :: vI t.2.2.2.1 :: dd 41 []), [(2, .box [zi t.2.2.2.2.1, yE t.2.2.2.2.2])]⟩
def ytl : Gk K8 := fun κ => jb (fun t => κ none ⟨dd 4 (vB t :: dd 54 []), []⟩) (fun t => κ (some 0) ⟨dd 59 [], []⟩)
def ytm : Lp := lpC 2 (unG yoM ybR) @ytl (lpC 5 (unG yoL ybQ) @ytk lpN)
theorem yyn : LF ytj ytm 96 5 Tryz.f96 1 ybQ @ytk fun t => t := fun R κ again t => by kernel_rfl
theorem yyo : LK ytj ytm 96 Tryz.f96 1 := lkN (u := (unG yoL ybQ)) (yq fun t => by kernel_rfl) yyn
theorem yyp : LF ytj ytm 96 2 Tryz.f96 0 ybR @ytl fun t => t := fun R κ again t => by kernel_rfl
theorem yyq : LK ytj ytm 96 Tryz.f96 0 := lkN (u := (unG yoM ybR)) (yq fun t => by kernel_rfl) yyp
theorem yDX : EV ytj ytm 96 Tryz.f96 yB9 ynS [.bool] JH := fun x => by kernel_rfl
def q96 : QF := ⟨96, JH, okN (n := 2) Tryz.func96 ⟨yyq, yyo, trivial⟩ yDX⟩
abbrev V8 : Type := yoN
def JI (k0 : yhY → Option R) (k1 : Int → Option R) (again : V8 → Option R) (t5 : V8) : Option R :=
 bif (decide (t5.2.2.2.1 < t5.2.2.1)) then if (0 : Int) ≤ t5.2.2.2.1 then if t5.2.2.2.1 < (List.length t5.2.1 : Int) then Option.bind (bif (decide (t5.2.2.2.1 > (0 : Int))) then if (0 : Int) ≤ (Go.IntKind.wrap .i64 (t5.2.2.2.1 - (1 : Int))) then if (Go.IntKind.wrap .i64 (t5.2.2.2.1 - (1 : Int))) < (List.length t5.2.2.2.2.1 : Int) then if (0 : Int) ≤ t5.2.2.2.1 then if t5.2.2.2.1 < (List.length t5.2.2.2.2.1 : Int) then some (decide ((zt t5.2.2.2.2.1 (Go.IntKind.wrap .i64 (t5.2.2.2.1 - (1 : Int)))) ≥ (zt t5.2.2.2.2.1 t5.2.2.2.1))) else none else none else none else none else some false) fun u4 => Option.bind (bif u4 then some true else Option.bind (zM (ye t5.2.1 t5.2.2.2.1)) fun r6 => some (!r6)) fun u5 => Option.bind (bif u5 then some true else Option.bind (JH (t5.2.2.2.2.1, t5.2.2.2.2.2, t5.2.2.2.1)) fun r8 => some (!r8)) fun u7 => bif u7 then k0 (false, t5.1) else Option.bind (yR (ye t5.2.1 t5.2.2.2.1)) fun r9 => Option.bind (bif (decide (t5.2.2.2.1 > (0 : Int))) then some ((List.length r9 : Int) == (0 : Int)) else some false) fun u10 => bif u10 then k0 (false, t5.1) else again ((Go.IntKind.wrap .i64 (t5.1 + (List.length r9 : Int))), t5.2.1, t5.2.2.1, (Go.IntKind.wrap .i64 (t5.2.2.2.1 + (1 : Int))), t5.2.2.2.2.1, t5.2.2.2.2.2) else none else none else k1 t5.1
def y0b k0 k1 := zS (@JI R k0 k1) Y4
def Yu (x : Qz8) : Option Bool :=
 Option.bind (yL ((List.length x.2 : Int), (1 : Int), (20 : Int))) fun r1 => Option.bind (bif (!r1) then some true else some ((List.length x.1 : Int) != (List.length x.2 : Int))) fun u2 => Option.bind (bif u2 then some true else if (0 : Int) ≤ (0 : Int) then if (0 : Int) < (List.length x.1 : Int) then some ((zt x.1 (0 : Int)) != (0 : Int)) else none else none) fun u3 => bif u3 then some false else y0b (fun x11 => some x11.1) (fun x12 => some (decide (x12 ≤ (60 : Int)))) ((0 : Int), x.2, (List.length x.2 : Int), (0 : Int), x.1, x.2)
def yyr : List QF := [q47, q63, q95, q96]
def ybS (t : yoN) : St := ⟨.dead :: .box 1 0 :: .dead :: vI t.1 :: dd 25 (yE t.2.1 :: vI t.2.2.1 :: vI t.2.2.2.1 :: dd 46 []), [(1, .box [zi t.2.2.2.2.1, yE t.2.2.2.2.2])]⟩
def ytn : Gk V8 := fun κ => JI (fun t => κ none ⟨dd 2 (vB t.1 :: vI t.2 :: dd 74 []), []⟩) (fun t => κ (some 0) ⟨dd 3 (vI t :: dd 74 []), []⟩)
def yys : Lp := lpC 5 (unG yoO ybS) @ytn lpN
theorem yyt : LF yyr yys 53 5 Tryz.f53 0 ybS @ytn fun t => t := fun R κ again t => by kernel_rfl
theorem yyu : LK yyr yys 53 Tryz.f53 0 := lkN (u := (unG yoO ybS)) (yq fun t => by kernel_rfl) yyt
theorem yDY : EV yyr yys 53 Tryz.f53 yBa qz8 [.bool] Yu := fun x => by kernel_rfl
def q53 : QF := ⟨53, Yu, okN (n := 1) Tryz.func53 ⟨yyu, trivial⟩ yDY⟩
abbrev V9 : Type := yoP
def JJ (k0 : ynT → Option R) (k1 : List y9 → Option R) (again : V9 → Option R) (t2 : V9) : Option R :=
 bif (decide (t2.2.2.2 < t2.2.2.1)) then if (0 : Int) ≤ t2.2.2.2 then if t2.2.2.2 < (List.length t2.2.1 : Int) then Option.bind (yL ((yG t2.2.1 t2.2.2.2).1, (1 : Int), (60 : Int))) fun r1 => Option.bind (bif (!r1) then some true else Option.bind (bif (decide (t2.2.2.2 > (0 : Int))) then if (0 : Int) ≤ (Go.IntKind.wrap .i64 (t2.2.2.2 - (1 : Int))) then if (Go.IntKind.wrap .i64 (t2.2.2.2 - (1 : Int))) < (List.length t2.1 : Int) then some (decide ((yG t2.1 (Go.IntKind.wrap .i64 (t2.2.2.2 - (1 : Int)))).1 ≥ (yG t2.2.1 t2.2.2.2).1)) else none else none else some false) fun u3 => some u3) fun u2 => Option.bind (bif u2 then some true else Option.bind (bif ((yG t2.2.1 t2.2.2.2).2 != (0 : Int)) then if (0 : Int) ≤ (0 : Int) then if (0 : Int) ≤ t2.2.2.2 then if t2.2.2.2 ≤ (List.length t2.1 : Int) then Option.bind (YU ((List.drop (Int.toNat (0 : Int)) (List.take (Int.toNat t2.2.2.2) t2.1)), (yG t2.2.1 t2.2.2.2).2)) fun r6 => some (decide (r6 < (0 : Int))) else none else none else none else some false) fun u5 => some u5) fun u4 => bif u4 then k0 (t2.1, false) else again (t2.1, t2.2.1, t2.2.2.1, (Go.IntKind.wrap .i64 (t2.2.2.2 + (1 : Int)))) else none else none else k1 t2.1
def y0c k0 k1 := zS (@JJ R k0 k1) Y4
def wh (x : List y9) : Option Bool :=
 y0c (fun x7 => some x7.2) (fun x8 => some (decide ((List.length x8 : Int) ≤ (16 : Int)))) (x, x, (List.length x : Int), (0 : Int))
def yyv : List QF := [q47, q97]
def ybT (t : yoP) : St := ⟨zu t.1 :: dd 4 (zu t.2.1 :: vI t.2.2.1 :: vI t.2.2.2 :: dd 41 []), []⟩
def yto : Gk V9 := fun κ => JJ (fun t => κ none ⟨zu t.1 :: .dead :: vB t.2 :: dd 46 [], []⟩) (fun t => κ (some 0) ⟨zu t :: dd 48 [], []⟩)
def yyw : Lp := lpC 2 (unG yoQ ybT) @yto lpN
theorem yyx : LF yyv yyw 54 2 Tryz.f54 0 ybT @yto fun t => t := fun R κ again t => by kernel_rfl
theorem yyy : LK yyv yyw 54 Tryz.f54 0 := lkN (u := (unG yoQ ybT)) (yq fun t => by kernel_rfl) yyx
theorem yDZ : EV yyv yyw 54 Tryz.f54 yBb [(.sl 67 yo)] [.bool] wh := fun x => by kernel_rfl
def q54 : QF := ⟨54, wh, okN (n := 1) Tryz.func54 ⟨yyy, trivial⟩ yDZ⟩
def kg (x : Int) : Option Bool :=
 Option.bind (yL (x, (0 : Int), (65535 : Int))) fun r1 => some r1
theorem yE0 : EV [q47] lpN 38 Tryz.f38 yBc [(.int .i64)] [.bool] kg := fun x => by kernel_rfl
def q38 : QF := ⟨38, kg, okN (n := 0) Tryz.func38 trivial yE0⟩
abbrev v5 : Type := yoR
def jN (k0 : yzU → Option R) (k1 : List y8 → Option R) (again : v5 → Option R) (t2 : v5) : Option R :=
 bif (decide (t2.2.2.2 < t2.2.2.1)) then if (0 : Int) ≤ t2.2.2.2 then if t2.2.2.2 < (List.length t2.2.1 : Int) then Option.bind (yL ((yA t2.2.1 t2.2.2.2).1, (0 : Int), (999 : Int))) fun r1 => Option.bind (bif (!r1) then some true else Option.bind (kg ((yA t2.2.1 t2.2.2.2).2.2)) fun r3 => some (!r3)) fun u2 => Option.bind (bif u2 then some true else Option.bind (bif ((yA t2.2.1 t2.2.2.2).2.2 != (0 : Int)) then some (!((yA t2.2.1 t2.2.2.2).2.1)) else some false) fun u5 => some u5) fun u4 => bif u4 then k0 (t2.1, false) else again (t2.1, t2.2.1, t2.2.2.1, (Go.IntKind.wrap .i64 (t2.2.2.2 + (1 : Int)))) else none else none else k1 t2.1
def Qr k0 k1 := zS (@jN R k0 k1) Y4
def J3 (x : List y8) : Option Bool :=
 Qr (fun x6 => some x6.2) (fun x7 => some ((List.length x7 : Int) == (24 : Int))) (x, x, (List.length x : Int), (0 : Int))
def yyz : List QF := [q38, q47]
def ybU (t : yoR) : St := ⟨z0 t.1 :: dd 4 (z0 t.2.1 :: vI t.2.2.1 :: vI t.2.2.2 :: dd 27 []), []⟩
def ytp : Gk v5 := fun κ => jN (fun t => κ none ⟨z0 t.1 :: .dead :: vB t.2 :: dd 32 [], []⟩) (fun t => κ (some 0) ⟨z0 t :: dd 34 [], []⟩)
def yyA : Lp := lpC 2 (unG yoS ybU) @ytp lpN
theorem yyB : LF yyz yyA 55 2 Tryz.f55 0 ybU @ytp fun t => t := fun R κ again t => by kernel_rfl
theorem yyC : LK yyz yyA 55 Tryz.f55 0 := lkN (u := (unG yoS ybU)) (yq fun t => by kernel_rfl) yyB
theorem yE1 : EV yyz yyA 55 Tryz.f55 yBd [(.sl 53 yj)] [.bool] J3 := fun x => by kernel_rfl
def q55 : QF := ⟨55, J3, okN (n := 1) Tryz.func55 ⟨yyC, trivial⟩ yE1⟩
abbrev Va : Type := yoT
def JK (k0 : List yb → Option R) (again : Va → Option R) (t5 : Va) : Option R :=
 bif (decide (t5.2.2.2.1 < t5.2.2.1)) then if (0 : Int) ≤ t5.2.2.2.1 then if t5.2.2.2.1 < (List.length t5.2.1 : Int) then bif ((yG t5.2.1 t5.2.2.2.1).2 == t5.1) then if (List.length t5.2.2.2.2 + List.length ([(yG t5.2.1 t5.2.2.2.1).1] : List yb)) * 8 < 140737488355328 then again (t5.1, t5.2.1, t5.2.2.1, (Go.IntKind.wrap .i64 (t5.2.2.2.1 + (1 : Int))), (t5.2.2.2.2 ++ ([(yG t5.2.1 t5.2.2.2.1).1] : List yb))) else none else again (t5.1, t5.2.1, t5.2.2.1, (Go.IntKind.wrap .i64 (t5.2.2.2.1 + (1 : Int))), t5.2.2.2.2) else none else none else k0 t5.2.2.2.2
def y0d k0 := zS (@JK R k0) Y4
def Zp (x : yfD) : Option (List yb) :=
 bif (x.2 == (0 : Int)) then some ([] : List yb) else y0d (fun x1 => some x1) (x.2, x.1, (List.length x.1 : Int), (0 : Int), ([] : List yb))
def yyD : List QF := []
def ybV (t : yoT) : St := ⟨.dead :: vI t.1 :: dd 3 (.own 10000000 :: dd 6 (zu t.2.1 :: vI t.2.2.1 :: vI t.2.2.2.1 :: dd 14 [])), [(10000000, .root true 3 yd t.2.2.2.2)]⟩
def ytq : Gk Va := fun κ => JK (fun t => κ (some 0) ⟨dd 5 (.own 10000000 :: dd 23 []), [(10000000, .root true 3 yd t)]⟩)
def yyE : Lp := lpC 5 (unG yoU ybV) @ytq lpN
theorem yyF : LF yyD yyE 28 5 Tryz.f28 0 ybV @ytq fun t => t := fun R κ again t => by kernel_rfl
theorem yyG : LK yyD yyE 28 Tryz.f28 0 := lkN (u := (unG yoU ybV)) (yq fun t => by kernel_rfl) yyF
theorem yE2 : EV yyD yyE 28 Tryz.f28 yBe yfE [(.sl 3 yd)] Zp := fun x => by kernel_rfl
def q28 : QF := ⟨28, Zp, okN (n := 1) Tryz.func28 ⟨yyG, trivial⟩ yE2⟩
abbrev Vb : Type := yuc
def Vc (k0 : yzD → Option R) (k1 : ByteArray → Option R) (again : Vb → Option R) (t2 : Vb) : Option R :=
 bif (decide (t2.2 < ((ByteArray.size t2.1 : Nat) : Int))) then if (0 : Int) ≤ t2.2 then if h1 : Int.toNat t2.2 < ByteArray.size t2.1 then Option.bind (yL ((Go.IntKind.wrap .i64 ((UInt8.toNat (ByteArray.get t2.1 (Int.toNat t2.2) h1) : Nat) : Int)), (97 : Int), (122 : Int))) fun r2 => Option.bind (bif (!r2) then if (0 : Int) ≤ t2.2 then if h4 : Int.toNat t2.2 < ByteArray.size t2.1 then Option.bind (yL ((Go.IntKind.wrap .i64 ((UInt8.toNat (ByteArray.get t2.1 (Int.toNat t2.2) h4) : Nat) : Int)), (48 : Int), (57 : Int))) fun r5 => some (!r5) else none else none else some false) fun u3 => bif u3 then k0 (t2.1, false) else again (t2.1, (Go.IntKind.wrap .i64 (t2.2 + (1 : Int)))) else none else none else k1 t2.1
def y0e k0 k1 := zS (@Vc R k0 k1) Y4
def kh (x : ByteArray) : Option Bool :=
 y0e (fun x6 => some x6.2) (fun x7 => Option.bind (yL (((ByteArray.size x7 : Nat) : Int), (1 : Int), (6 : Int))) fun r8 => some r8) (x, (0 : Int))
def yyH : List QF := [q47]
def ybW (t : yuc) : St := ⟨vS t.1 :: dd 2 (vI t.2 :: dd 23 []), []⟩
def ytr : Gk Vb := fun κ => Vc (fun t => κ none ⟨vS t.1 :: .dead :: vB t.2 :: dd 24 [], []⟩) (fun t => κ (some 0) ⟨vS t :: dd 26 [], []⟩)
def yyI : Lp := lpC 2 (unG yud ybW) @ytr lpN
theorem yyJ : LF yyH yyI 76 2 Tryz.f76 0 ybW @ytr fun t => t := fun R κ again t => by kernel_rfl
theorem yyK : LK yyH yyI 76 Tryz.f76 0 := lkN (u := (unG yud ybW)) (yq fun t => by kernel_rfl) yyJ
theorem yE3 : EV yyH yyI 76 Tryz.f76 yBf [.str] [.bool] kh := fun x => by kernel_rfl
def q76 : QF := ⟨76, kh, okN (n := 1) Tryz.func76 ⟨yyK, trivial⟩ yE3⟩
def ki (x : yvq) : Option yoV :=
 some ((x.2.1 == x.2.2.2.2.2.1), x.2.2.2.2.1, x.2.2.2.2.2.1, x.2.2.2.2.2.2.1, x.2.2.2.2.2.2.2)
theorem yE4 : EV [] lpN 98 Tryz.f98 yBg yvr yoW ki := fun x => by kernel_rfl
def q98 : QF := ⟨98, ki, okN (n := 0) Tryz.func98 trivial yE4⟩
abbrev zN : Type := yoX
def yV (k0 : yoZ → Option R) (k1 : yvt → Option R) (again : zN → Option R) (t2 : zN) : Option R :=
 bif (decide (t2.2.2.1 < t2.2.1)) then if (0 : Int) ≤ t2.2.2.1 then if t2.2.2.1 < (List.length t2.1 : Int) then Option.bind (ki ((yi t2.1 t2.2.2.1).1, (yi t2.1 t2.2.2.1).2.1, (yi t2.1 t2.2.2.1).2.2.1, (yi t2.1 t2.2.2.1).2.2.2, t2.2.2.2.1, t2.2.2.2.2.1, t2.2.2.2.2.2.1, t2.2.2.2.2.2.2)) fun r1 => bif r1.1 then k0 (t2.2.2.1, r1.2) else again (t2.1, t2.2.1, (Go.IntKind.wrap .i64 (t2.2.2.1 + (1 : Int))), r1.2.1, r1.2.2.1, r1.2.2.2.1, r1.2.2.2.2) else none else none else k1 t2.2.2.2
def YB k0 k1 := zS (@yV R k0 k1) Y4
def z7 (x : yuZ) : Option yoZ :=
 YB (fun x2 => some x2) (fun x3 => some ((-1 : Int), x3.1, x3.2.1, x3.2.2.1, x3.2.2.2)) (x.1, (List.length x.1 : Int), (0 : Int), x.2.1, x.2.2.1, x.2.2.2.1, x.2.2.2.2)
def y8q : List QF := [q98]
def y1E (t : yoX) : St := ⟨zW t.1 :: .clo 98 901 :: dd 5 (vI t.2.1 :: vI t.2.2.1 :: dd 10 []), [(901, .box [vS t.2.2.2.1, vI t.2.2.2.2.1, vI t.2.2.2.2.2.1, vB t.2.2.2.2.2.2])]⟩
def ya1 : Gk zN := fun κ => yV (fun t => κ none ⟨.dead :: .clo 98 901 :: dd 2 (vI t.1 :: dd 14 []), [(901, .box [vS t.2.1, vI t.2.2.1, vI t.2.2.2.1, vB t.2.2.2.2])]⟩) (fun t => κ (some 0) ⟨.dead :: .clo 98 901 :: dd 17 [], [(901, .box [vS t.1, vI t.2.1, vI t.2.2.1, vB t.2.2.2])]⟩)
def y8r : Lp := lpC 2 (unG yoY y1E) @ya1 lpN
theorem ygd : LF y8q y8r 100002 2 Tryz.f103 0 y1E @ya1 fun t => t := fun R κ again t => by kernel_rfl
theorem yge : LK y8q y8r 100002 Tryz.f103 0 := lkN (u := (unG yoY y1E)) (yq fun t => by kernel_rfl) ygd
theorem yie : EV y8q y8r 100002 Tryz.f103 yd4 yv0 yvs z7 := fun x => by kernel_rfl
def ymC : QF := ⟨100002, z7, okN (n := 1) Tryz.func103 ⟨yge, trivial⟩ yie⟩
def yI (x : yuZ) : Option yoV :=
 Option.bind (z7 x) fun r1 => some ((decide (r1.1 ≥ (0 : Int))), r1.2.1, r1.2.2.1, r1.2.2.2.1, r1.2.2.2.2)
theorem yif : EV [ymC] lpN 100001 Tryz.f66 yd5 yv0 yoW yI := fun x => by kernel_rfl
def ymD : QF := ⟨100001, yI, okN (n := 0) Tryz.func66 trivial yif⟩
end
end Go.Proofs.YtjllpipmaejeoaaGreat.XV
