/- What functions compute, and that they do; part 0 of W; by a program (dec.py). No condition. -/
import Derived.Test.YtjllpipmaejeoaaGreatXW
import Derived.Test.YtjllpipmaejeoaaGreatHW0
set_option linter.all false
namespace Go.Proofs.YtjllpipmaejeoaaGreat.XW
open Go.Proofs.YtjllpipmaejeoaaGreat.R
set_option maxRecDepth 100000
noncomputable section
variable {R : Type}
def y0K (x : List y5E) : Option Bool :=
 some (decide ((List.length x : Int) > (1048576 : Int)))
theorem ev7 : EV [] lpN 7 Tryz.f7 sg7 [(.sl 5 kK)] [.bool] y0K := fun x => by kernel_rfl
def q7 : QF := ⟨7, y0K, okN (n := 0) Tryz.func7 trivial ev7⟩
abbrev VI : Type := Qz0
def Kf (k0 : Qz1 → Option R) (again : VI → Option R) (t3 : VI) : Option R :=
 Option.bind (bif (decide (t3.2.2 < (List.length t3.1 : Int))) then some (decide (t3.2.2 < (4000 : Int))) else some false) fun u1 => bif u1 then if (0 : Int) ≤ t3.2.2 then if t3.2.2 < (List.length t3.1 : Int) then again (t3.1, (Go.bits .and .i64 (Go.IntKind.wrap .i64 ((Go.IntKind.wrap .i64 ((Go.IntKind.wrap .i64 (t3.2.1 * (137 : Int))) + (Go.IntKind.wrap .i64 (ynR t3.1 t3.2.2)))) + (11 : Int))) (1073741823 : Int)), (Go.IntKind.wrap .i64 (t3.2.2 + (1 : Int)))) else none else none else k0 (t3.1, t3.2.1)
def y5K k0 := zR (@Kf R k0) Yd
def Vv (x : List y5E) : Option Qz0 :=
 y5K (fun x2 => some (x2.1, (0 : Int), x2.2)) (x, (Go.IntKind.wrap .i64 ((941941 : Int) + (List.length x : Int))), (0 : Int))
def yvv : List QF := []
def yby (t : Qz0) : St := ⟨ynu t.1 :: dd 2 (vI t.2.1 :: vI t.2.2 :: dd 27 []), []⟩
def yro : Gk VI := fun κ => Kf (fun t => κ (some 0) ⟨ynu t.1 :: dd 2 (vI t.2 :: dd 28 []), []⟩)
def yvw : Lp := lpC 3 (unG qz0 yby) @yro lpN
theorem yvx : LF yvv yvw 32 3 Tryz.f32 0 yby @yro fun t => t := fun R κ again t => by kernel_rfl
theorem yvy : LK yvv yvw 32 Tryz.f32 0 := lkN (u := (unG qz0 yby)) (yq fun t => by kernel_rfl) yvx
theorem yCe : EV yvv yvw 32 Tryz.f32 yAg [(.sl 5 kK)] qz0 Vv := fun x => by kernel_rfl
def q32 : QF := ⟨32, Vv, okN (n := 1) Tryz.func32 ⟨yvy, trivial⟩ yCe⟩
def Zg (x : Qz0) : Option Qz2 :=
 bif (decide (x.2.1 < (List.length x.1 : Int))) then if (0 : Int) ≤ x.2.1 then if x.2.1 < (List.length x.1 : Int) then some ((Go.bits .and .i64 (Go.IntKind.wrap .i64 ((Go.bits .and .i64 (Go.bits .xor .i64 (Int.fdiv (Go.IntKind.wrap .i64 ((Go.IntKind.wrap .i64 (x.2.2 * (6364136223846793005 : Int))) + (1442695040888963407 : Int))) (2 ^ (min (Int.toNat (33 : Int)) (Go.IntKind.bits .i64)))) (Int.fdiv (Go.IntKind.wrap .i64 ((Go.IntKind.wrap .i64 (x.2.2 * (6364136223846793005 : Int))) + (1442695040888963407 : Int))) (2 ^ (min (Int.toNat (47 : Int)) (Go.IntKind.bits .i64))))) (255 : Int)) + (Go.IntKind.wrap .i64 (ynR x.1 x.2.1)))) (255 : Int)), x.1, (Go.IntKind.wrap .i64 (x.2.1 + (1 : Int))), (Go.IntKind.wrap .i64 ((Go.IntKind.wrap .i64 (x.2.2 * (6364136223846793005 : Int))) + (1442695040888963407 : Int)))) else none else none else some ((Go.bits .and .i64 (Go.bits .xor .i64 (Int.fdiv (Go.IntKind.wrap .i64 ((Go.IntKind.wrap .i64 (x.2.2 * (6364136223846793005 : Int))) + (1442695040888963407 : Int))) (2 ^ (min (Int.toNat (33 : Int)) (Go.IntKind.bits .i64)))) (Int.fdiv (Go.IntKind.wrap .i64 ((Go.IntKind.wrap .i64 (x.2.2 * (6364136223846793005 : Int))) + (1442695040888963407 : Int))) (2 ^ (min (Int.toNat (47 : Int)) (Go.IntKind.bits .i64))))) (255 : Int)), x.1, x.2.1, (Go.IntKind.wrap .i64 ((Go.IntKind.wrap .i64 (x.2.2 * (6364136223846793005 : Int))) + (1442695040888963407 : Int))))
theorem yvz : EV [] lpN 106 Tryz.f106 ypC qz0 qz2 Zg := fun x => by kernel_rfl
def yCf : QF := ⟨106, Zg, okN (n := 0) Tryz.func106 trivial yvz⟩
def yx (x : Qz3) : Option Qz2 :=
 bif (decide (x.2.2.2 ≤ (0 : Int))) then some ((0 : Int), x.1, x.2.1, x.2.2.1) else bif (decide (x.2.2.2 ≤ (256 : Int))) then Option.bind (Zg (x.1, x.2.1, x.2.2.1)) fun r1 => if x.2.2.2 = 0 then none else some ((Int.tmod r1.1 x.2.2.2), r1.2.1, r1.2.2.1, r1.2.2.2) else Option.bind (Zg (x.1, x.2.1, x.2.2.1)) fun r2 => Option.bind (Zg r2.2) fun r3 => Option.bind (Zg r3.2) fun r4 => if x.2.2.2 = 0 then none else some ((Int.tmod (Go.IntKind.wrap .i64 ((Go.IntKind.wrap .i64 ((Go.IntKind.wrap .i64 (r2.1 * (65536 : Int))) + (Go.IntKind.wrap .i64 (r3.1 * (256 : Int))))) + r4.1)) x.2.2.2), r4.2.1, r4.2.2.1, r4.2.2.2)
theorem yCg : EV [yCf] lpN 69 Tryz.f69 yAh qz3 qz2 yx := fun x => by kernel_rfl
def q69 : QF := ⟨69, yx, okN (n := 0) Tryz.func69 trivial yCg⟩
def zE (x : Qz4) : Option Qz2 :=
 Option.bind (yx (x.1, x.2.1, x.2.2.1, (List.length x.2.2.2 : Int))) fun r1 => if (0 : Int) ≤ r1.1 then if r1.1 < (List.length x.2.2.2 : Int) then some ((zu x.2.2.2 r1.1), r1.2.1, r1.2.2.1, r1.2.2.2) else none else none
theorem yCh : EV [q69] lpN 71 Tryz.f71 yAi qz4 qz2 zE := fun x => by kernel_rfl
def q71 : QF := ⟨71, zE, okN (n := 0) Tryz.func71 trivial yCh⟩
def Wd (x : Qz5) : Option Qz6 :=
 Option.bind (yx (x.1, x.2.1, x.2.2.1, (List.length x.2.2.2 : Int))) fun r1 => if (0 : Int) ≤ r1.1 then if r1.1 < (List.length x.2.2.2 : Int) then some ((yfC x.2.2.2 r1.1), r1.2.1, r1.2.2.1, r1.2.2.2) else none else none
theorem yCi : EV [q69] lpN 72 Tryz.f72 yAj qz5 qz6 Wd := fun x => by kernel_rfl
def q72 : QF := ⟨72, Wd, okN (n := 0) Tryz.func72 trivial yCi⟩
def YR (x : Qz0) : Option Qz6 :=
 Option.bind (Wd (x.1, x.2.1, x.2.2, ([{ data := #[97] }, { data := #[98] }, { data := #[99] }, { data := #[100] }, { data := #[101, 53] }] : List y0J))) fun r1 => some r1
theorem yCj : EV [q72] lpN 73 Tryz.f73 yAk qz0 qz6 YR := fun x => by kernel_rfl
def q73 : QF := ⟨73, YR, okN (n := 0) Tryz.func73 trivial yCj⟩
def YS (x : Qz0) : Option Qz2 :=
 Option.bind (yx (x.1, x.2.1, x.2.2, (200 : Int))) fun r1 => Option.bind (zE (r1.2.1, r1.2.2.1, r1.2.2.2, ([(0 : Int), (1 : Int), (2 : Int), (7 : Int), (65535 : Int), (Go.IntKind.wrap .i64 ((1 : Int) + r1.1))] : List yc))) fun r2 => some r2
theorem yCk : EV [q69, q71] lpN 74 Tryz.f74 yAl qz0 qz2 YS := fun x => by kernel_rfl
def q74 : QF := ⟨74, YS, okN (n := 0) Tryz.func74 trivial yCk⟩
def YW (x : Qz0) : Option Qz7 :=
 Option.bind (zE (x.1, x.2.1, x.2.2, ([(1 : Int), (1 : Int), (1 : Int), (2 : Int), (2 : Int), (3 : Int), (4 : Int), (4 : Int), (4 : Int), (4 : Int), (4 : Int), (4 : Int), (5 : Int), (6 : Int), (7 : Int), (7 : Int), (8 : Int), (9 : Int)] : List yc))) fun r1 => bif (decide (r1.1 < (7 : Int))) then Option.bind (Wd (r1.2.1, r1.2.2.1, r1.2.2.2, ([{ data := #[97] }, { data := #[97] }, { data := #[98] }, { data := #[99] }, { data := #[100] }] : List y0J))) fun r2 => bif (r1.1 == (1 : Int)) then bif (r1.1 == (1 : Int)) then Option.bind (zE (r2.2.1, r2.2.2.1, r2.2.2.2, ([(1 : Int), (3 : Int), (4 : Int), (12 : Int), (5 : Int)] : List yc))) fun r3 => some (r1.1, r2.1, (⟨#[]⟩ : ByteArray), r3.1, (0 : Int), r3.2.1, r3.2.2.1, r3.2.2.2) else bif (r1.1 == (2 : Int)) then Option.bind (YR r2.2) fun r4 => Option.bind (zE (r4.2.1, r4.2.2.1, r4.2.2.2, ([(0 : Int), (0 : Int), (0 : Int), (1 : Int)] : List yc))) fun r5 => some (r1.1, r2.1, r4.1, (0 : Int), r5.1, r5.2.1, r5.2.2.1, r5.2.2.2) else bif (r1.1 == (4 : Int)) then Option.bind (yx (r2.2.1, r2.2.2.1, r2.2.2.2, (5 : Int))) fun r6 => Option.bind (YS r6.2) fun r7 => some (r1.1, r2.1, (⟨#[]⟩ : ByteArray), r6.1, r7.1, r7.2.1, r7.2.2.1, r7.2.2.2) else bif (r1.1 == (5 : Int)) then Option.bind (yx (r2.2.1, r2.2.2.1, r2.2.2.2, (5 : Int))) fun r8 => some (r1.1, r2.1, (⟨#[]⟩ : ByteArray), r8.1, (0 : Int), r8.2.1, r8.2.2.1, r8.2.2.2) else bif (r1.1 == (8 : Int)) then bif (r1.1 == (8 : Int)) then Option.bind (yx (r2.2.1, r2.2.2.1, r2.2.2.2, (6 : Int))) fun r9 => some (r1.1, r2.1, (⟨#[]⟩ : ByteArray), r9.1, (0 : Int), r9.2.1, r9.2.2.1, r9.2.2.2) else some (r1.1, r2.1, (⟨#[]⟩ : ByteArray), (0 : Int), (0 : Int), r2.2.1, r2.2.2.1, r2.2.2.2) else bif (r1.1 == (9 : Int)) then Option.bind (yx (r2.2.1, r2.2.2.1, r2.2.2.2, (6 : Int))) fun r10 => some (r1.1, r2.1, (⟨#[]⟩ : ByteArray), r10.1, (0 : Int), r10.2.1, r10.2.2.1, r10.2.2.2) else some (r1.1, r2.1, (⟨#[]⟩ : ByteArray), (0 : Int), (0 : Int), r2.2.1, r2.2.2.1, r2.2.2.2) else bif (r1.1 == (6 : Int)) then Option.bind (zE (r2.2.1, r2.2.2.1, r2.2.2.2, ([(1 : Int), (3 : Int), (4 : Int), (12 : Int), (5 : Int)] : List yc))) fun r11 => some (r1.1, r2.1, (⟨#[]⟩ : ByteArray), r11.1, (0 : Int), r11.2.1, r11.2.2.1, r11.2.2.2) else bif (r1.1 == (2 : Int)) then Option.bind (YR r2.2) fun r12 => Option.bind (zE (r12.2.1, r12.2.2.1, r12.2.2.2, ([(0 : Int), (0 : Int), (0 : Int), (1 : Int)] : List yc))) fun r13 => some (r1.1, r2.1, r12.1, (0 : Int), r13.1, r13.2.1, r13.2.2.1, r13.2.2.2) else bif (r1.1 == (4 : Int)) then Option.bind (yx (r2.2.1, r2.2.2.1, r2.2.2.2, (5 : Int))) fun r14 => Option.bind (YS r14.2) fun r15 => some (r1.1, r2.1, (⟨#[]⟩ : ByteArray), r14.1, r15.1, r15.2.1, r15.2.2.1, r15.2.2.2) else bif (r1.1 == (5 : Int)) then Option.bind (yx (r2.2.1, r2.2.2.1, r2.2.2.2, (5 : Int))) fun r16 => some (r1.1, r2.1, (⟨#[]⟩ : ByteArray), r16.1, (0 : Int), r16.2.1, r16.2.2.1, r16.2.2.2) else bif (r1.1 == (8 : Int)) then bif (r1.1 == (8 : Int)) then Option.bind (yx (r2.2.1, r2.2.2.1, r2.2.2.2, (6 : Int))) fun r17 => some (r1.1, r2.1, (⟨#[]⟩ : ByteArray), r17.1, (0 : Int), r17.2.1, r17.2.2.1, r17.2.2.2) else some (r1.1, r2.1, (⟨#[]⟩ : ByteArray), (0 : Int), (0 : Int), r2.2.1, r2.2.2.1, r2.2.2.2) else bif (r1.1 == (9 : Int)) then Option.bind (yx (r2.2.1, r2.2.2.1, r2.2.2.2, (6 : Int))) fun r18 => some (r1.1, r2.1, (⟨#[]⟩ : ByteArray), r18.1, (0 : Int), r18.2.1, r18.2.2.1, r18.2.2.2) else some (r1.1, r2.1, (⟨#[]⟩ : ByteArray), (0 : Int), (0 : Int), r2.2.1, r2.2.2.1, r2.2.2.2) else bif (r1.1 == (1 : Int)) then bif (r1.1 == (1 : Int)) then Option.bind (zE (r1.2.1, r1.2.2.1, r1.2.2.2, ([(1 : Int), (3 : Int), (4 : Int), (12 : Int), (5 : Int)] : List yc))) fun r19 => some (r1.1, (⟨#[]⟩ : ByteArray), (⟨#[]⟩ : ByteArray), r19.1, (0 : Int), r19.2.1, r19.2.2.1, r19.2.2.2) else bif (r1.1 == (2 : Int)) then Option.bind (YR r1.2) fun r20 => Option.bind (zE (r20.2.1, r20.2.2.1, r20.2.2.2, ([(0 : Int), (0 : Int), (0 : Int), (1 : Int)] : List yc))) fun r21 => some (r1.1, (⟨#[]⟩ : ByteArray), r20.1, (0 : Int), r21.1, r21.2.1, r21.2.2.1, r21.2.2.2) else bif (r1.1 == (4 : Int)) then Option.bind (yx (r1.2.1, r1.2.2.1, r1.2.2.2, (5 : Int))) fun r22 => Option.bind (YS r22.2) fun r23 => some (r1.1, (⟨#[]⟩ : ByteArray), (⟨#[]⟩ : ByteArray), r22.1, r23.1, r23.2.1, r23.2.2.1, r23.2.2.2) else bif (r1.1 == (5 : Int)) then Option.bind (yx (r1.2.1, r1.2.2.1, r1.2.2.2, (5 : Int))) fun r24 => some (r1.1, (⟨#[]⟩ : ByteArray), (⟨#[]⟩ : ByteArray), r24.1, (0 : Int), r24.2.1, r24.2.2.1, r24.2.2.2) else bif (r1.1 == (8 : Int)) then bif (r1.1 == (8 : Int)) then Option.bind (yx (r1.2.1, r1.2.2.1, r1.2.2.2, (6 : Int))) fun r25 => some (r1.1, (⟨#[]⟩ : ByteArray), (⟨#[]⟩ : ByteArray), r25.1, (0 : Int), r25.2.1, r25.2.2.1, r25.2.2.2) else some (r1.1, (⟨#[]⟩ : ByteArray), (⟨#[]⟩ : ByteArray), (0 : Int), (0 : Int), r1.2.1, r1.2.2.1, r1.2.2.2) else bif (r1.1 == (9 : Int)) then Option.bind (yx (r1.2.1, r1.2.2.1, r1.2.2.2, (6 : Int))) fun r26 => some (r1.1, (⟨#[]⟩ : ByteArray), (⟨#[]⟩ : ByteArray), r26.1, (0 : Int), r26.2.1, r26.2.2.1, r26.2.2.2) else some (r1.1, (⟨#[]⟩ : ByteArray), (⟨#[]⟩ : ByteArray), (0 : Int), (0 : Int), r1.2.1, r1.2.2.1, r1.2.2.2) else bif (r1.1 == (6 : Int)) then Option.bind (zE (r1.2.1, r1.2.2.1, r1.2.2.2, ([(1 : Int), (3 : Int), (4 : Int), (12 : Int), (5 : Int)] : List yc))) fun r27 => some (r1.1, (⟨#[]⟩ : ByteArray), (⟨#[]⟩ : ByteArray), r27.1, (0 : Int), r27.2.1, r27.2.2.1, r27.2.2.2) else bif (r1.1 == (2 : Int)) then Option.bind (YR r1.2) fun r28 => Option.bind (zE (r28.2.1, r28.2.2.1, r28.2.2.2, ([(0 : Int), (0 : Int), (0 : Int), (1 : Int)] : List yc))) fun r29 => some (r1.1, (⟨#[]⟩ : ByteArray), r28.1, (0 : Int), r29.1, r29.2.1, r29.2.2.1, r29.2.2.2) else bif (r1.1 == (4 : Int)) then Option.bind (yx (r1.2.1, r1.2.2.1, r1.2.2.2, (5 : Int))) fun r30 => Option.bind (YS r30.2) fun r31 => some (r1.1, (⟨#[]⟩ : ByteArray), (⟨#[]⟩ : ByteArray), r30.1, r31.1, r31.2.1, r31.2.2.1, r31.2.2.2) else bif (r1.1 == (5 : Int)) then Option.bind (yx (r1.2.1, r1.2.2.1, r1.2.2.2, (5 : Int))) fun r32 => some (r1.1, (⟨#[]⟩ : ByteArray), (⟨#[]⟩ : ByteArray), r32.1, (0 : Int), r32.2.1, r32.2.2.1, r32.2.2.2) else bif (r1.1 == (8 : Int)) then bif (r1.1 == (8 : Int)) then Option.bind (yx (r1.2.1, r1.2.2.1, r1.2.2.2, (6 : Int))) fun r33 => some (r1.1, (⟨#[]⟩ : ByteArray), (⟨#[]⟩ : ByteArray), r33.1, (0 : Int), r33.2.1, r33.2.2.1, r33.2.2.2) else some (r1.1, (⟨#[]⟩ : ByteArray), (⟨#[]⟩ : ByteArray), (0 : Int), (0 : Int), r1.2.1, r1.2.2.1, r1.2.2.2) else bif (r1.1 == (9 : Int)) then Option.bind (yx (r1.2.1, r1.2.2.1, r1.2.2.2, (6 : Int))) fun r34 => some (r1.1, (⟨#[]⟩ : ByteArray), (⟨#[]⟩ : ByteArray), r34.1, (0 : Int), r34.2.1, r34.2.2.1, r34.2.2.2) else some (r1.1, (⟨#[]⟩ : ByteArray), (⟨#[]⟩ : ByteArray), (0 : Int), (0 : Int), r1.2.1, r1.2.2.1, r1.2.2.2)
theorem yCl : EV [q69, q71, q72, q73, q74] lpN 35 Tryz.f35 yAm qz0 qz7 YW := fun x => by kernel_rfl
def q35 : QF := ⟨35, YW, okN (n := 0) Tryz.func35 trivial yCl⟩
def Kg (x : Unit) : Option Qz8 :=
 some (([(0 : Int)] : List yc), ([([] : List ya)] : List y0))
theorem yvA : EV [] lpN 104 Tryz.f104 ypD [] qz8 Kg := fun x => by kernel_rfl
def yCm : QF := ⟨104, Kg, okN (n := 0) Tryz.func104 trivial yvA⟩
def Ww (x : Unit) : Option (List y8) :=
 if (0 : Int) ≤ (24 : Int) then if (24 : Int) ≤ (24 : Int) then if (24 : Int) * ((24 : Nat) : Int) ≤ 140737488351232 then some (List.replicate (Int.toNat (24 : Int)) z0) else none else none else none
theorem yvB : EV [] lpN 105 Tryz.f105 ypE [] [(.sl 53 yj)] Ww := fun x => by kernel_rfl
def yCn : QF := ⟨105, Ww, okN (n := 0) Tryz.func105 trivial yvB⟩
def Kh (x : Unit) : Option Qz9 :=
 Option.bind (Kg ()) fun r1 => Option.bind (Ww ()) fun r2 => some (r1.1, r1.2, ([] : List y9), r2, ([] : List ye), (1 : Int))
theorem yCo : EV [yCm, yCn] lpN 68 Tryz.f68 yAn [] qz9 Kh := fun x => by kernel_rfl
def q68 : QF := ⟨68, Kh, okN (n := 0) Tryz.func68 trivial yCo⟩
def yB (x : yuL) : Option Bool :=
 Option.bind (bif (decide (x.1 ≥ x.2.1)) then some (decide (x.1 ≤ x.2.2)) else some false) fun u1 => some u1
theorem yvC : EV [] lpN 132 Tryz.f132 ypF yuM [.bool] yB := fun x => by kernel_rfl
def y7f : QF := ⟨132, yB, okN (n := 0) Tryz.func132 trivial yvC⟩
abbrev vx : Type := yua
def vy (k0 : yza → Option R) (k1 : ByteArray → Option R) (again : vx → Option R) (t2 : vx) : Option R :=
 bif (decide (t2.2 < ((ByteArray.size t2.1 : Nat) : Int))) then if (0 : Int) ≤ t2.2 then if h1 : Int.toNat t2.2 < ByteArray.size t2.1 then Option.bind (yB ((Go.IntKind.wrap .i64 ((UInt8.toNat (ByteArray.get t2.1 (Int.toNat t2.2) h1) : Nat) : Int)), (97 : Int), (122 : Int))) fun r2 => Option.bind (bif (!r2) then if (0 : Int) ≤ t2.2 then if h4 : Int.toNat t2.2 < ByteArray.size t2.1 then Option.bind (yB ((Go.IntKind.wrap .i64 ((UInt8.toNat (ByteArray.get t2.1 (Int.toNat t2.2) h4) : Nat) : Int)), (48 : Int), (57 : Int))) fun r5 => some (!r5) else none else none else some false) fun u3 => bif u3 then k0 (t2.1, false) else again (t2.1, (Go.IntKind.wrap .i64 (t2.2 + (1 : Int)))) else none else none else k1 t2.1
def QJ k0 k1 := zR (@vy R k0 k1) Yd
def Ys (x : ByteArray) : Option Bool :=
 QJ (fun x6 => some x6.2) (fun x7 => Option.bind (yB (((ByteArray.size x7 : Nat) : Int), (1 : Int), (6 : Int))) fun r8 => some r8) (x, (0 : Int))
def ykT : List QF := [y7f]
def y7g (t : yua) : St := ⟨vS t.1 :: dd 2 (vI t.2 :: dd 23 []), []⟩
def yjk : Gk vx := fun κ => vy (fun t => κ none ⟨vS t.1 :: .dead :: vB t.2 :: dd 24 [], []⟩) (fun t => κ (some 0) ⟨vS t :: dd 26 [], []⟩)
def ykU : Lp := lpC 2 (unG yub y7g) @yjk lpN
theorem yrp : LF ykT ykU 131 2 Tryz.f131 0 y7g @yjk fun t => t := fun R κ again t => by kernel_rfl
theorem yrq : LK ykT ykU 131 Tryz.f131 0 := lkN (u := (unG yub y7g)) (yq fun t => by kernel_rfl) yrp
theorem yvD : EV ykT ykU 131 Tryz.f131 ypG [.str] [.bool] Ys := fun x => by kernel_rfl
def yuw : QF := ⟨131, Ys, okN (n := 1) Tryz.func131 ⟨yrq, trivial⟩ yvD⟩
def zy (x : Int) : Option Bool :=
 Option.bind (yB (x, (0 : Int), (65535 : Int))) fun r1 => some r1
theorem yvE : EV [y7f] lpN 133 Tryz.f133 ypH [(.int .i64)] [.bool] zy := fun x => by kernel_rfl
def yux : QF := ⟨133, zy, okN (n := 0) Tryz.func133 trivial yvE⟩
def YX (x : yzb) : Option Bool :=
 bif (x.1 == (2 : Int)) then Option.bind (bif (x.2.2.2.1 == (0 : Int)) then Option.bind (yB (x.2.2.2.2, (0 : Int), (1 : Int))) fun r2 => some r2 else some false) fun u1 => some u1 else bif (x.1 == (3 : Int)) then bif (x.1 == (3 : Int)) then Option.bind (bif (x.2.2.2.1 == (0 : Int)) then some (x.2.2.2.2 == (0 : Int)) else some false) fun u3 => some u3 else bif (x.1 == (4 : Int)) then some true else some (x.2.2.2.2 == (0 : Int)) else bif (x.1 == (7 : Int)) then Option.bind (bif (x.2.2.2.1 == (0 : Int)) then some (x.2.2.2.2 == (0 : Int)) else some false) fun u4 => some u4 else bif (x.1 == (4 : Int)) then some true else some (x.2.2.2.2 == (0 : Int))
theorem yvF : EV [y7f] lpN 134 Tryz.f134 ypI yjh [.bool] YX := fun x => by kernel_rfl
def yCp : QF := ⟨134, YX, okN (n := 0) Tryz.func134 trivial yvF⟩
def vz (x : yzb) : Option Bool :=
 Option.bind (Ys x.2.1) fun r1 => bif (decide (x.1 ≥ (7 : Int))) then bif (x.1 == (2 : Int)) then Option.bind (Ys x.2.2.1) fun r2 => Option.bind (yB (x.1, (1 : Int), (9 : Int))) fun r3 => Option.bind (bif r3 then some ((ByteArray.toList x.2.1) == (ByteArray.toList ({ data := #[] }))) else some false) fun u4 => Option.bind (bif u4 then some r2 else some false) fun u5 => Option.bind (bif u5 then Option.bind (zy x.2.2.2.1) fun r7 => some r7 else some false) fun u6 => Option.bind (bif u6 then Option.bind (zy x.2.2.2.2) fun r9 => some r9 else some false) fun u8 => Option.bind (bif u8 then Option.bind (YX x) fun r11 => some r11 else some false) fun u10 => some u10 else Option.bind (yB (x.1, (1 : Int), (9 : Int))) fun r12 => Option.bind (bif r12 then some ((ByteArray.toList x.2.1) == (ByteArray.toList ({ data := #[] }))) else some false) fun u13 => Option.bind (bif u13 then some ((ByteArray.toList x.2.2.1) == (ByteArray.toList ({ data := #[] }))) else some false) fun u14 => Option.bind (bif u14 then Option.bind (zy x.2.2.2.1) fun r16 => some r16 else some false) fun u15 => Option.bind (bif u15 then Option.bind (zy x.2.2.2.2) fun r18 => some r18 else some false) fun u17 => Option.bind (bif u17 then Option.bind (YX x) fun r20 => some r20 else some false) fun u19 => some u19 else bif (x.1 == (2 : Int)) then Option.bind (Ys x.2.2.1) fun r21 => Option.bind (yB (x.1, (1 : Int), (9 : Int))) fun r22 => Option.bind (bif r22 then some r1 else some false) fun u23 => Option.bind (bif u23 then some r21 else some false) fun u24 => Option.bind (bif u24 then Option.bind (zy x.2.2.2.1) fun r26 => some r26 else some false) fun u25 => Option.bind (bif u25 then Option.bind (zy x.2.2.2.2) fun r28 => some r28 else some false) fun u27 => Option.bind (bif u27 then Option.bind (YX x) fun r30 => some r30 else some false) fun u29 => some u29 else Option.bind (yB (x.1, (1 : Int), (9 : Int))) fun r31 => Option.bind (bif r31 then some r1 else some false) fun u32 => Option.bind (bif u32 then some ((ByteArray.toList x.2.2.1) == (ByteArray.toList ({ data := #[] }))) else some false) fun u33 => Option.bind (bif u33 then Option.bind (zy x.2.2.2.1) fun r35 => some r35 else some false) fun u34 => Option.bind (bif u34 then Option.bind (zy x.2.2.2.2) fun r37 => some r37 else some false) fun u36 => Option.bind (bif u36 then Option.bind (YX x) fun r39 => some r39 else some false) fun u38 => some u38
theorem yvG : EV [yuw, y7f, yux, yCp] lpN 107 Tryz.f107 ypJ yjh [.bool] vz := fun x => by kernel_rfl
def yCq : QF := ⟨107, vz, okN (n := 0) Tryz.func107 trivial yvG⟩
def We (x : yhi) : Option Bool :=
 Option.bind (yB (x.1, (0 : Int), (15 : Int))) fun r1 => Option.bind (bif (!r1) then some true else Option.bind (yB (x.2.1, (1 : Int), (60 : Int))) fun r3 => some (!r3)) fun u2 => Option.bind (bif u2 then some true else Option.bind (yB (x.2.2.1, (0 : Int), (2 : Int))) fun r5 => some (!r5)) fun u4 => bif u4 then some false else bif (x.2.2.1 == (1 : Int)) then Option.bind (yB (x.2.2.2.1, (0 : Int), (23 : Int))) fun r6 => Option.bind (bif r6 then Option.bind (yB (x.2.2.2.2, (0 : Int), (999 : Int))) fun r8 => some r8 else some false) fun u7 => some u7 else Option.bind (bif (x.2.2.2.1 == (0 : Int)) then some (x.2.2.2.2 == (0 : Int)) else some false) fun u9 => some u9
theorem yvH : EV [y7f] lpN 183 Tryz.f183 ypK Vo [.bool] We := fun x => by kernel_rfl
def yBm : QF := ⟨183, We, okN (n := 0) Tryz.func183 trivial yvH⟩
def jU (x : yuc) : Option Bool :=
 bif (x.1 != x.2.2.2.2.2.1) then some (decide (x.1 < x.2.2.2.2.2.1)) else some (decide (x.2.1 < x.2.2.2.2.2.2.1))
theorem yvI : EV [] lpN 201 Tryz.f201 ypL yud [.bool] jU := fun x => by kernel_rfl
def yBn : QF := ⟨201, jU, okN (n := 0) Tryz.func201 trivial yvI⟩
abbrev KM : Type := ynT
def jB (k0 : Bool → Option R) (k1 : Unit → Option R) (again : KM → Option R) (t2 : KM) : Option R :=
 bif (decide (t2.2 < (List.length t2.1 : Int))) then if (0 : Int) ≤ (Go.IntKind.wrap .i64 (t2.2 - (1 : Int))) then if (Go.IntKind.wrap .i64 (t2.2 - (1 : Int))) < (List.length t2.1 : Int) then if (0 : Int) ≤ t2.2 then if t2.2 < (List.length t2.1 : Int) then Option.bind (jU ((y6 t2.1 (Go.IntKind.wrap .i64 (t2.2 - (1 : Int)))).1, (y6 t2.1 (Go.IntKind.wrap .i64 (t2.2 - (1 : Int)))).2.1, (y6 t2.1 (Go.IntKind.wrap .i64 (t2.2 - (1 : Int)))).2.2.1, (y6 t2.1 (Go.IntKind.wrap .i64 (t2.2 - (1 : Int)))).2.2.2.1, (y6 t2.1 (Go.IntKind.wrap .i64 (t2.2 - (1 : Int)))).2.2.2.2, (y6 t2.1 t2.2).1, (y6 t2.1 t2.2).2.1, (y6 t2.1 t2.2).2.2.1, (y6 t2.1 t2.2).2.2.2.1, (y6 t2.1 t2.2).2.2.2.2)) fun r1 => bif (!r1) then k0 false else again (t2.1, (Go.IntKind.wrap .i64 (t2.2 + (1 : Int)))) else none else none else none else none else k1 ()
def Qa k0 k1 := zR (@jB R k0 k1) Yd
def wo (x : List y7) : Option Bool :=
 Qa (fun x2 => some x2) (fun x3 => some true) (x, (1 : Int))
def ykV : List QF := [yBn]
def y7h (t : ynT) : St := ⟨Qt t.1 :: dd 2 (vI t.2 :: dd 17 []), []⟩
def yjl : Gk KM := fun κ => jB (fun t => κ none ⟨dd 2 (vB t :: dd 18 []), []⟩) (fun t => κ (some 0) ⟨dd 21 [], []⟩)
def ykW : Lp := lpC 2 (unG ynU y7h) @yjl lpN
theorem yrr : LF ykV ykW 208 2 Tryz.f208 0 y7h @yjl fun t => t := fun R κ again t => by kernel_rfl
theorem yrs : LK ykV ykW 208 Tryz.f208 0 := lkN (u := (unG ynU y7h)) (yq fun t => by kernel_rfl) yrr
theorem yvJ : EV ykV ykW 208 Tryz.f208 ypM [(.sl 63 yh)] [.bool] wo := fun x => by kernel_rfl
def yCr : QF := ⟨208, wo, okN (n := 1) Tryz.func208 ⟨yrs, trivial⟩ yvJ⟩
abbrev VJ : Type := ynT
def wq (k0 : yzc → Option R) (k1 : List y7 → Option R) (again : VJ → Option R) (t2 : VJ) : Option R :=
 bif (decide (t2.2 < (List.length t2.1 : Int))) then if (0 : Int) ≤ t2.2 then if t2.2 < (List.length t2.1 : Int) then Option.bind (We ((y6 t2.1 t2.2).1, (y6 t2.1 t2.2).2.1, (y6 t2.1 t2.2).2.2.1, (y6 t2.1 t2.2).2.2.2.1, (y6 t2.1 t2.2).2.2.2.2)) fun r1 => bif (!r1) then k0 (t2.1, false) else again (t2.1, (Go.IntKind.wrap .i64 (t2.2 + (1 : Int)))) else none else none else k1 t2.1
def y18 k0 k1 := zR (@wq R k0 k1) Yd
def Ky (x : List y7) : Option Bool :=
 y18 (fun x2 => some x2.2) (fun x3 => Option.bind (wo x3) fun r4 => Option.bind (bif r4 then some (decide ((List.length x3 : Int) ≤ (60 : Int))) else some false) fun u5 => some u5) (x, (0 : Int))
def ykX : List QF := [yBm, yCr]
def y7i (t : ynT) : St := ⟨Qt t.1 :: dd 2 (vI t.2 :: dd 19 []), []⟩
def yjm : Gk VJ := fun κ => wq (fun t => κ none ⟨Qt t.1 :: .dead :: vB t.2 :: dd 20 [], []⟩) (fun t => κ (some 0) ⟨Qt t :: dd 22 [], []⟩)
def ykY : Lp := lpC 2 (unG ynU y7i) @yjm lpN
theorem yrt : LF ykX ykY 196 2 Tryz.f196 0 y7i @yjm fun t => t := fun R κ again t => by kernel_rfl
theorem yru : LK ykX ykY 196 Tryz.f196 0 := lkN (u := (unG ynU y7i)) (yq fun t => by kernel_rfl) yrt
theorem yvK : EV ykX ykY 196 Tryz.f196 ypN [(.sl 63 yh)] [.bool] Ky := fun x => by kernel_rfl
def yCs : QF := ⟨196, Ky, okN (n := 1) Tryz.func196 ⟨yru, trivial⟩ yvK⟩
abbrev KN : Type := yzd
def jC (k0 : Int → Option R) (again : KN → Option R) (t3 : KN) : Option R :=
 bif (decide (t3.2.1 < (List.length t3.2.2 : Int))) then if (0 : Int) ≤ t3.2.1 then if t3.2.1 < (List.length t3.2.2 : Int) then again ((Go.IntKind.wrap .i64 (t3.1 + (List.length (yp t3.2.2 t3.2.1) : Int))), (Go.IntKind.wrap .i64 (t3.2.1 + (1 : Int))), t3.2.2) else none else none else k0 t3.1
def Qb k0 := zR (@jC R k0) Yd
def ws (x : List ya) : Option Int :=
 Qb (fun x1 => some x1) ((0 : Int), (0 : Int), x)
def ykZ : List QF := []
def y7j (t : yzd) : St := ⟨.dead :: .box 1 0 :: .dead :: vI t.1 :: vI t.2.1 :: dd 16 [], [(1, .box [YQ t.2.2])]⟩
def yjn : Gk KN := fun κ => jC (fun t => κ (some 0) ⟨dd 3 (vI t :: dd 17 []), []⟩)
def yl0 : Lp := lpC 3 (unG yze y7j) @yjn lpN
theorem yrv : LF ykZ yl0 197 3 Tryz.f197 0 y7j @yjn fun t => t := fun R κ again t => by kernel_rfl
theorem yrw : LK ykZ yl0 197 Tryz.f197 0 := lkN (u := (unG yze y7j)) (yq fun t => by kernel_rfl) yrv
theorem yvL : EV ykZ yl0 197 Tryz.f197 ypO [(.sl 58 yt)] [(.int .i64)] ws := fun x => by kernel_rfl
def yCt : QF := ⟨197, ws, okN (n := 1) Tryz.func197 ⟨yrw, trivial⟩ yvL⟩
abbrev vA : Type := yji
def Jc (k0 : yBR → Option R) (k1 : List ya → Option R) (again : vA → Option R) (t2 : vA) : Option R :=
 bif (decide (t2.1 < (List.length t2.2 : Int))) then if (0 : Int) ≤ t2.1 then if t2.1 < (List.length t2.2 : Int) then Option.bind (Ky (yp t2.2 t2.1)) fun r1 => Option.bind (bif (!r1) then some true else if (0 : Int) ≤ t2.1 then if t2.1 < (List.length t2.2 : Int) then some ((List.length (yp t2.2 t2.1) : Int) == (0 : Int)) else none else none) fun u2 => bif u2 then k0 (false, t2.2) else again ((Go.IntKind.wrap .i64 (t2.1 + (1 : Int))), t2.2) else none else none else k1 t2.2
def QK k0 k1 := zR (@Jc R k0 k1) Yd
def zz (x : List ya) : Option Bool :=
 QK (fun x3 => some x3.1) (fun x4 => Option.bind (bif (decide ((List.length x4 : Int) ≤ (3 : Int))) then Option.bind (ws x4) fun r6 => some (decide (r6 ≤ (8 : Int))) else some false) fun u5 => some u5) ((0 : Int), x)
def yl1 : List QF := [yCs, yCt]
def y7k (t : yji) : St := ⟨.dead :: .box 1 0 :: .dead :: vI t.1 :: dd 32 [], [(1, .box [YQ t.2])]⟩
def yjo : Gk vA := fun κ => Jc (fun t => κ none ⟨.dead :: .box 1 0 :: vB t.1 :: dd 33 [], [(1, .box [YQ t.2])]⟩) (fun t => κ (some 0) ⟨.dead :: .box 1 0 :: dd 34 [], [(1, .box [YQ t])]⟩)
def yl2 : Lp := lpC 2 (unG yue y7k) @yjo lpN
theorem yrx : LF yl1 yl2 178 2 Tryz.f178 0 y7k @yjo fun t => t := fun R κ again t => by kernel_rfl
theorem yry : LK yl1 yl2 178 Tryz.f178 0 := lkN (u := (unG yue y7k)) (yq fun t => by kernel_rfl) yrx
theorem yvM : EV yl1 yl2 178 Tryz.f178 ypP [(.sl 58 yt)] [.bool] zz := fun x => by kernel_rfl
def yBo : QF := ⟨178, zz, okN (n := 1) Tryz.func178 ⟨yry, trivial⟩ yvM⟩
abbrev qO : Type := yuf
def Wx (k0 : List y7 → Option R) (again : qO → Option R) (t3 : qO) : Option R :=
 bif (decide (t3.2.1 < (List.length t3.1 : Int))) then if (0 : Int) ≤ t3.2.1 then if t3.2.1 < (List.length t3.1 : Int) then bif ((y6 t3.1 t3.2.1).2.2.1 != (0 : Int)) then if (0 : Int) ≤ t3.2.1 then if t3.2.1 < (List.length t3.1 : Int) then if (List.length t3.2.2 + List.length ([((y6 t3.1 t3.2.1).1, (y6 t3.1 t3.2.1).2.1, (y6 t3.1 t3.2.1).2.2.1, (y6 t3.1 t3.2.1).2.2.2.1, (y6 t3.1 t3.2.1).2.2.2.2)] : List y7)) * 40 < 140737488355328 then again (t3.1, (Go.IntKind.wrap .i64 (t3.2.1 + (1 : Int))), (t3.2.2 ++ ([((y6 t3.1 t3.2.1).1, (y6 t3.1 t3.2.1).2.1, (y6 t3.1 t3.2.1).2.2.1, (y6 t3.1 t3.2.1).2.2.2.1, (y6 t3.1 t3.2.1).2.2.2.2)] : List y7))) else none else none else none else again (t3.1, (Go.IntKind.wrap .i64 (t3.2.1 + (1 : Int))), t3.2.2) else none else none else k0 t3.2.2
def y27 k0 := zR (@Wx R k0) Yd
def Y4 (x : List y7) : Option (List y7) :=
 y27 (fun x1 => some x1) (x, (0 : Int), ([] : List y7))
def yl3 : List QF := []
def y7l (t : yuf) : St := ⟨Qt t.1 :: dd 2 (.own 10000000 :: vI t.2.1 :: dd 21 []), [(10000000, .root true 63 yh t.2.2)]⟩
def yjp : Gk qO := fun κ => Wx (fun t => κ (some 0) ⟨dd 3 (.own 10000000 :: dd 22 []), [(10000000, .root true 63 yh t)]⟩)
def yl4 : Lp := lpC 3 (unG yug y7l) @yjp lpN
theorem yrz : LF yl3 yl4 186 3 Tryz.f186 0 y7l @yjp fun t => t := fun R κ again t => by kernel_rfl
theorem yrA : LK yl3 yl4 186 Tryz.f186 0 := lkN (u := (unG yug y7l)) (yq fun t => by kernel_rfl) yrz
theorem yvN : EV yl3 yl4 186 Tryz.f186 ypQ [(.sl 63 yh)] [(.sl 63 yh)] Y4 := fun x => by kernel_rfl
def yvO : QF := ⟨186, Y4, okN (n := 1) Tryz.func186 ⟨yrA, trivial⟩ yvN⟩
def ZP (x : yuc) : Option Bool :=
 Option.bind (bif (x.1 == x.2.2.2.2.2.1) then some (x.2.1 == x.2.2.2.2.2.2.1) else some false) fun u1 => some u1
theorem yvP : EV [] lpN 202 Tryz.f202 ypR yud [.bool] ZP := fun x => by kernel_rfl
def yCu : QF := ⟨202, ZP, okN (n := 0) Tryz.func202 trivial yvP⟩
abbrev Wy : Type := yzf
def Z0 (k0 : yzh → Option R) (again : Wy → Option R) (t4 : Wy) : Option R :=
 bif (decide (t4.2.2.1 < (List.length t4.1 : Int))) then Option.bind (bif (!t4.2.1) then if (0 : Int) ≤ t4.2.2.1 then if t4.2.2.1 < (List.length t4.1 : Int) then Option.bind (jU ((y6 t4.1 t4.2.2.1).1, (y6 t4.1 t4.2.2.1).2.1, (y6 t4.1 t4.2.2.1).2.2.1, (y6 t4.1 t4.2.2.1).2.2.2.1, (y6 t4.1 t4.2.2.1).2.2.2.2, t4.2.2.2.1, t4.2.2.2.2.1, t4.2.2.2.2.2.1, t4.2.2.2.2.2.2.1, t4.2.2.2.2.2.2.2.1)) fun r2 => some (!r2) else none else none else some false) fun u1 => bif u1 then if (List.length t4.2.2.2.2.2.2.2.2 + List.length ([(t4.2.2.2.1, t4.2.2.2.2.1, t4.2.2.2.2.2.1, t4.2.2.2.2.2.2.1, t4.2.2.2.2.2.2.2.1)] : List y7)) * 40 < 140737488355328 then if (0 : Int) ≤ t4.2.2.1 then if t4.2.2.1 < (List.length t4.1 : Int) then Option.bind (ZP ((y6 t4.1 t4.2.2.1).1, (y6 t4.1 t4.2.2.1).2.1, (y6 t4.1 t4.2.2.1).2.2.1, (y6 t4.1 t4.2.2.1).2.2.2.1, (y6 t4.1 t4.2.2.1).2.2.2.2, t4.2.2.2.1, t4.2.2.2.2.1, t4.2.2.2.2.2.1, t4.2.2.2.2.2.2.1, t4.2.2.2.2.2.2.2.1)) fun r3 => bif (!r3) then if (0 : Int) ≤ t4.2.2.1 then if t4.2.2.1 < (List.length t4.1 : Int) then if (List.length (t4.2.2.2.2.2.2.2.2 ++ ([(t4.2.2.2.1, t4.2.2.2.2.1, t4.2.2.2.2.2.1, t4.2.2.2.2.2.2.1, t4.2.2.2.2.2.2.2.1)] : List y7)) + List.length ([((y6 t4.1 t4.2.2.1).1, (y6 t4.1 t4.2.2.1).2.1, (y6 t4.1 t4.2.2.1).2.2.1, (y6 t4.1 t4.2.2.1).2.2.2.1, (y6 t4.1 t4.2.2.1).2.2.2.2)] : List y7)) * 40 < 140737488355328 then again (t4.1, true, (Go.IntKind.wrap .i64 (t4.2.2.1 + (1 : Int))), t4.2.2.2.1, t4.2.2.2.2.1, t4.2.2.2.2.2.1, t4.2.2.2.2.2.2.1, t4.2.2.2.2.2.2.2.1, ((t4.2.2.2.2.2.2.2.2 ++ ([(t4.2.2.2.1, t4.2.2.2.2.1, t4.2.2.2.2.2.1, t4.2.2.2.2.2.2.1, t4.2.2.2.2.2.2.2.1)] : List y7)) ++ ([((y6 t4.1 t4.2.2.1).1, (y6 t4.1 t4.2.2.1).2.1, (y6 t4.1 t4.2.2.1).2.2.1, (y6 t4.1 t4.2.2.1).2.2.2.1, (y6 t4.1 t4.2.2.1).2.2.2.2)] : List y7))) else none else none else none else again (t4.1, true, (Go.IntKind.wrap .i64 (t4.2.2.1 + (1 : Int))), t4.2.2.2.1, t4.2.2.2.2.1, t4.2.2.2.2.2.1, t4.2.2.2.2.2.2.1, t4.2.2.2.2.2.2.2.1, (t4.2.2.2.2.2.2.2.2 ++ ([(t4.2.2.2.1, t4.2.2.2.2.1, t4.2.2.2.2.2.1, t4.2.2.2.2.2.2.1, t4.2.2.2.2.2.2.2.1)] : List y7))) else none else none else none else if (0 : Int) ≤ t4.2.2.1 then if t4.2.2.1 < (List.length t4.1 : Int) then Option.bind (ZP ((y6 t4.1 t4.2.2.1).1, (y6 t4.1 t4.2.2.1).2.1, (y6 t4.1 t4.2.2.1).2.2.1, (y6 t4.1 t4.2.2.1).2.2.2.1, (y6 t4.1 t4.2.2.1).2.2.2.2, t4.2.2.2.1, t4.2.2.2.2.1, t4.2.2.2.2.2.1, t4.2.2.2.2.2.2.1, t4.2.2.2.2.2.2.2.1)) fun r4 => bif (!r4) then if (0 : Int) ≤ t4.2.2.1 then if t4.2.2.1 < (List.length t4.1 : Int) then if (List.length t4.2.2.2.2.2.2.2.2 + List.length ([((y6 t4.1 t4.2.2.1).1, (y6 t4.1 t4.2.2.1).2.1, (y6 t4.1 t4.2.2.1).2.2.1, (y6 t4.1 t4.2.2.1).2.2.2.1, (y6 t4.1 t4.2.2.1).2.2.2.2)] : List y7)) * 40 < 140737488355328 then again (t4.1, t4.2.1, (Go.IntKind.wrap .i64 (t4.2.2.1 + (1 : Int))), t4.2.2.2.1, t4.2.2.2.2.1, t4.2.2.2.2.2.1, t4.2.2.2.2.2.2.1, t4.2.2.2.2.2.2.2.1, (t4.2.2.2.2.2.2.2.2 ++ ([((y6 t4.1 t4.2.2.1).1, (y6 t4.1 t4.2.2.1).2.1, (y6 t4.1 t4.2.2.1).2.2.1, (y6 t4.1 t4.2.2.1).2.2.2.1, (y6 t4.1 t4.2.2.1).2.2.2.2)] : List y7))) else none else none else none else again (t4.1, t4.2.1, (Go.IntKind.wrap .i64 (t4.2.2.1 + (1 : Int))), t4.2.2.2.1, t4.2.2.2.2.1, t4.2.2.2.2.2.1, t4.2.2.2.2.2.2.1, t4.2.2.2.2.2.2.2.1, t4.2.2.2.2.2.2.2.2) else none else none else k0 (t4.2.1, t4.2.2.2)
def vC k0 := zR (@Z0 R k0) Yd
def zJ (x : yzi) : Option (List y7) :=
 vC (fun x5 => bif (!x5.1) then if (List.length x5.2.2.2.2.2.2 + List.length ([(x5.2.1, x5.2.2.1, x5.2.2.2.1, x5.2.2.2.2.1, x5.2.2.2.2.2.1)] : List y7)) * 40 < 140737488355328 then some (x5.2.2.2.2.2.2 ++ ([(x5.2.1, x5.2.2.1, x5.2.2.2.1, x5.2.2.2.2.1, x5.2.2.2.2.2.1)] : List y7)) else none else some x5.2.2.2.2.2.2) (x.1, false, (0 : Int), x.2.1, x.2.2.1, x.2.2.2.1, x.2.2.2.2.1, x.2.2.2.2.2, ([] : List y7))
def yl5 : List QF := [yBn, yCu]
def y7m (t : yzf) : St := ⟨Qt t.1 :: dd 2 (.box 3 0 :: .dead :: .own 10000000 :: vB t.2.1 :: vI t.2.2.1 :: dd 43 []), [(3, .box [vI t.2.2.2.1, vI t.2.2.2.2.1, vI t.2.2.2.2.2.1, vI t.2.2.2.2.2.2.1, vI t.2.2.2.2.2.2.2.1]), (10000000, .root true 63 yh t.2.2.2.2.2.2.2.2)]⟩
def yjq : Gk Wy := fun κ => Z0 (fun t => κ (some 0) ⟨dd 3 (.box 3 0 :: .dead :: .own 10000000 :: vB t.1 :: dd 44 []), [(3, .box [vI t.2.1, vI t.2.2.1, vI t.2.2.2.1, vI t.2.2.2.2.1, vI t.2.2.2.2.2.1]), (10000000, .root true 63 yh t.2.2.2.2.2.2)]⟩)
def yl6 : Lp := lpC 4 (unG yzg y7m) @yjq lpN
theorem yrB : LF yl5 yl6 187 4 Tryz.f187 0 y7m @yjq fun t => t := fun R κ again t => by kernel_rfl
theorem yrC : LK yl5 yl6 187 Tryz.f187 0 := lkN (u := (unG yzg y7m)) (yq fun t => by kernel_rfl) yrB
theorem yvQ : EV yl5 yl6 187 Tryz.f187 ypS yzj [(.sl 63 yh)] zJ := fun x => by kernel_rfl
def yvR : QF := ⟨187, zJ, okN (n := 1) Tryz.func187 ⟨yrC, trivial⟩ yvQ⟩
abbrev Wz : Type := yuf
def Zh (k0 : List y7 → Option R) (again : Wz → Option R) (t3 : Wz) : Option R :=
 bif (decide (t3.2.1 < (List.length t3.1 : Int))) then if (0 : Int) ≤ t3.2.1 then if t3.2.1 < (List.length t3.1 : Int) then Option.bind (zJ (t3.2.2, (y6 t3.1 t3.2.1).1, (y6 t3.1 t3.2.1).2.1, (y6 t3.1 t3.2.1).2.2.1, (y6 t3.1 t3.2.1).2.2.2.1, (y6 t3.1 t3.2.1).2.2.2.2)) fun r1 => again (t3.1, (Go.IntKind.wrap .i64 (t3.2.1 + (1 : Int))), r1) else none else none else k0 t3.2.2
def Vw k0 := zR (@Zh R k0) Yd
def Za (x : yzk) : Option (List y7) :=
 if (List.length ([] : List y7) + List.length x.1) * 40 < 140737488355328 then Vw (fun x2 => some x2) (x.2, (0 : Int), (([] : List y7) ++ x.1)) else none
def yl7 : List QF := [yvR]
def y7n (t : yuf) : St := ⟨.dead :: Qt t.1 :: dd 3 (.own 10000000 :: vI t.2.1 :: dd 16 []), [(10000000, .root true 63 yh t.2.2)]⟩
def yjr : Gk Wz := fun κ => Zh (fun t => κ (some 0) ⟨dd 5 (.own 10000000 :: dd 17 []), [(10000000, .root true 63 yh t)]⟩)
def yl8 : Lp := lpC 3 (unG yug y7n) @yjr lpN
theorem yrD : LF yl7 yl8 198 3 Tryz.f198 0 y7n @yjr fun t => t := fun R κ again t => by kernel_rfl
theorem yrE : LK yl7 yl8 198 Tryz.f198 0 := lkN (u := (unG yug y7n)) (yq fun t => by kernel_rfl) yrD
theorem yvS : EV yl7 yl8 198 Tryz.f198 ypT yzl [(.sl 63 yh)] Za := fun x => by kernel_rfl
def yCv : QF := ⟨198, Za, okN (n := 1) Tryz.func198 ⟨yrE, trivial⟩ yvS⟩
abbrev kL : Type := yzm
def ZQ (k0 : List y7 → Option R) (again : kL → Option R) (t3 : kL) : Option R :=
 bif (decide (t3.1 < (List.length t3.2.1 : Int))) then if (0 : Int) ≤ t3.1 then if t3.1 < (List.length t3.2.1 : Int) then Option.bind (Za (t3.2.2, (yp t3.2.1 t3.1))) fun r1 => again ((Go.IntKind.wrap .i64 (t3.1 + (1 : Int))), t3.2.1, r1) else none else none else k0 t3.2.2
def qk k0 := zR (@ZQ R k0) Yd
def yC (x : List ya) : Option (List y7) :=
 qk (fun x2 => Option.bind (Y4 x2) fun r3 => some r3) ((0 : Int), x, ([] : List y7))
def yl9 : List QF := [yvO, yCv]
def y7o (t : yzm) : St := ⟨.dead :: .box 1 0 :: .dead :: .own 10000000 :: vI t.1 :: dd 17 [], [(1, .box [YQ t.2.1]), (10000000, .root true 63 yh t.2.2)]⟩
def yjs : Gk kL := fun κ => ZQ (fun t => κ (some 0) ⟨dd 3 (.own 10000000 :: dd 18 []), [(10000000, .root true 63 yh t)]⟩)
def yla : Lp := lpC 3 (unG yzn y7o) @yjs lpN
theorem yrF : LF yl9 yla 179 3 Tryz.f179 0 y7o @yjs fun t => t := fun R κ again t => by kernel_rfl
theorem yrG : LK yl9 yla 179 Tryz.f179 0 := lkN (u := (unG yzn y7o)) (yq fun t => by kernel_rfl) yrF
theorem yvT : EV yl9 yla 179 Tryz.f179 ypU [(.sl 58 yt)] [(.sl 63 yh)] yC := fun x => by kernel_rfl
def ylb : QF := ⟨179, yC, okN (n := 1) Tryz.func179 ⟨yrG, trivial⟩ yvT⟩
def JP (x : yhj) : Option Int :=
 some (Go.IntKind.wrap .i64 ((Go.IntKind.wrap .i64 ((64 : Int) * x.1)) + x.2))
theorem yvU : EV [] lpN 199 Tryz.f199 ypV ykJ [(.int .i64)] JP := fun x => by kernel_rfl
def yBp : QF := ⟨199, JP, okN (n := 0) Tryz.func199 trivial yvU⟩
def JQ (x : yhi) : Option Int :=
 Option.bind (JP (x.1, x.2.1)) fun r1 => some r1
theorem yvV : EV [yBp] lpN 180 Tryz.f180 ypW Vo [(.int .i64)] JQ := fun x => by kernel_rfl
def yBq : QF := ⟨180, JQ, okN (n := 0) Tryz.func180 trivial yvV⟩
abbrev vD : Type := yzo
def Jd (k0 : yBS → Option R) (k1 : yuN → Option R) (again : vD → Option R) (t8 : vD) : Option R :=
 if (0 : Int) ≤ t8.2.1 then if t8.2.1 < (List.length t8.2.2.2.2.2 : Int) then bif (decide (t8.2.2.1 < (List.length (yp t8.2.2.2.2.2 t8.2.1) : Int))) then if (0 : Int) ≤ t8.2.1 then if t8.2.1 < (List.length t8.2.2.2.2.2 : Int) then if (0 : Int) ≤ t8.2.2.1 then if t8.2.2.1 < (List.length (yp t8.2.2.2.2.2 t8.2.1) : Int) then Option.bind (JQ ((y6 (yp t8.2.2.2.2.2 t8.2.1) t8.2.2.1).1, (y6 (yp t8.2.2.2.2.2 t8.2.1) t8.2.2.1).2.1, (y6 (yp t8.2.2.2.2.2 t8.2.1) t8.2.2.1).2.2.1, (y6 (yp t8.2.2.2.2.2 t8.2.1) t8.2.2.1).2.2.2.1, (y6 (yp t8.2.2.2.2.2 t8.2.1) t8.2.2.1).2.2.2.2)) fun r5 => if (0 : Int) ≤ t8.1 then if t8.1 < (List.length t8.2.2.2.1 : Int) then Option.bind (bif (decide (r5 < (zu t8.2.2.2.1 t8.1))) then some true else Option.bind (bif (decide ((Go.IntKind.wrap .i64 (t8.1 + (1 : Int))) < (List.length t8.2.2.2.1 : Int))) then if (0 : Int) ≤ (Go.IntKind.wrap .i64 (t8.1 + (1 : Int))) then if (Go.IntKind.wrap .i64 (t8.1 + (1 : Int))) < (List.length t8.2.2.2.1 : Int) then some (decide (r5 ≥ (zu t8.2.2.2.1 (Go.IntKind.wrap .i64 (t8.1 + (1 : Int)))))) else none else none else some false) fun u7 => some u7) fun u6 => bif u6 then k0 (t8.1, false, t8.2.1, t8.2.2.2) else again (t8.1, t8.2.1, (Go.IntKind.wrap .i64 (t8.2.2.1 + (1 : Int))), t8.2.2.2.1, t8.2.2.2.2.1, t8.2.2.2.2.2) else none else none else none else none else none else none else k1 (t8.1, t8.2.1, t8.2.2.2) else none else none
def vE k0 k1 := zR (@Jd R k0 k1) Yd
abbrev vF : Type := yuN
def Je (k0 : Bool → Option R) (k1 : Unit → Option R) (again : vF → Option R) (t5 : vF) : Option R :=
 bif (decide (t5.2.1 < (List.length t5.2.2.2.2 : Int))) then vE (fun x8 => k0 x8.2.1) (fun x9 => again (x9.1, (Go.IntKind.wrap .i64 (x9.2.1 + (1 : Int))), x9.2.2.1, x9.2.2.2.1, x9.2.2.2.2)) (t5.1, t5.2.1, (0 : Int), t5.2.2.1, t5.2.2.2.1, t5.2.2.2.2) else k1 ()
def vG k0 k1 := zR (@Je R k0 k1) Yd
def WA (x : ynV) : Option Bool :=
 if (0 : Int) ≤ x.2.2 then if x.2.2 < (List.length x.2.1 : Int) then Option.bind (zz (yf x.2.1 x.2.2)) fun r1 => Option.bind (bif (!r1) then some true else Option.bind (bif (decide (x.2.2 > (0 : Int))) then Option.bind (yC (yf x.2.1 x.2.2)) fun r4 => some ((List.length r4 : Int) == (0 : Int)) else some false) fun u3 => some u3) fun u2 => bif u2 then some false else vG (fun x10 => some x10) (fun x11 => some true) (x.2.2, (0 : Int), x.1, x.2.1, (yf x.2.1 x.2.2)) else none else none
def yfV : List QF := [yBo, ylb, yBq]
def y7p (t : yzo) : St := ⟨.dead :: vI t.1 :: .box 2 0 :: dd 2 (.box 5 0 :: vI t.2.1 :: vI t.2.2.1 :: dd 70 []), [(2, .box [z3 t.2.2.2.1, yw t.2.2.2.2.1]), (5, .box [YQ t.2.2.2.2.2])]⟩
def yjt : Gk vD := fun κ => Jd (fun t => κ none ⟨.dead :: vI t.1 :: .box 2 0 :: .dead :: vB t.2.1 :: .box 5 0 :: vI t.2.2.1 :: dd 71 [], [(2, .box [z3 t.2.2.2.1, yw t.2.2.2.2.1]), (5, .box [YQ t.2.2.2.2.2])]⟩) (fun t => κ (some 2) ⟨.dead :: vI t.1 :: .box 2 0 :: dd 2 (.box 5 0 :: vI t.2.1 :: dd 71 []), [(2, .box [z3 t.2.2.1, yw t.2.2.2.1]), (5, .box [YQ t.2.2.2.2])]⟩)
def y7q (t : yuN) : St := ⟨.dead :: vI t.1 :: .box 2 0 :: dd 2 (.box 5 0 :: vI t.2.1 :: dd 71 []), [(2, .box [z3 t.2.2.1, yw t.2.2.2.1]), (5, .box [YQ t.2.2.2.2])]⟩
def yju : Gk vF := fun κ => Je (fun t => κ none ⟨dd 4 (vB t :: dd 73 []), []⟩) (fun t => κ (some 0) ⟨dd 78 [], []⟩)
def yfW : Lp := lpC 5 (unG yzq y7q) @yju (lpC 8 (unG yzp y7p) @yjt lpN)
theorem yrH : LF yfV yfW 159 8 Tryz.f159 1 y7p @yjt fun t => t := fun R κ again t => by kernel_rfl
theorem yrI : LK yfV yfW 159 Tryz.f159 1 := lkN (u := (unG yzp y7p)) (yq fun t => by kernel_rfl) yrH
theorem yrJ : LF yfV yfW 159 5 Tryz.f159 0 y7q @yju fun t => t := fun R κ again t => by kernel_rfl
theorem yrK : LK yfV yfW 159 Tryz.f159 0 := lkN (u := (unG yzq y7q)) (yq fun t => by kernel_rfl) yrJ
theorem yvW : EV yfV yfW 159 Tryz.f159 ypX ynW [.bool] WA := fun x => by kernel_rfl
def yCw : QF := ⟨159, WA, okN (n := 2) Tryz.func159 ⟨yrK, yrI, trivial⟩ yvW⟩
abbrev kM : Type := yzr
def ZR (k0 : List y7 → Option R) (again : kM → Option R) (t3 : kM) : Option R :=
 bif (decide (t3.1 < (List.length t3.2.2.1 : Int))) then if (0 : Int) ≤ t3.1 then if t3.1 < (List.length t3.2.2.1 : Int) then Option.bind (yC (yf t3.2.2.1 t3.1)) fun r1 => if (List.length t3.2.2.2 + List.length r1) * 40 < 140737488355328 then again ((Go.IntKind.wrap .i64 (t3.1 + (1 : Int))), t3.2.1, t3.2.2.1, (t3.2.2.2 ++ r1)) else none else none else none else k0 t3.2.2.2
def qm k0 := zR (@ZR R k0) Yd
def yP (x : Qz8) : Option (List y7) :=
 qm (fun x2 => some x2) ((0 : Int), x.1, x.2, ([] : List y7))
def ylc : List QF := [ylb]
def y7r (t : yzr) : St := ⟨.dead :: .box 1 0 :: .dead :: .own 10000000 :: vI t.1 :: dd 17 [], [(1, .box [z3 t.2.1, yw t.2.2.1]), (10000000, .root true 63 yh t.2.2.2)]⟩
def yjv : Gk kM := fun κ => ZR (fun t => κ (some 0) ⟨dd 3 (.own 10000000 :: dd 18 []), [(10000000, .root true 63 yh t)]⟩)
def yld : Lp := lpC 3 (unG yzs y7r) @yjv lpN
theorem yrL : LF ylc yld 160 3 Tryz.f160 0 y7r @yjv fun t => t := fun R κ again t => by kernel_rfl
theorem yrM : LK ylc yld 160 Tryz.f160 0 := lkN (u := (unG yzs y7r)) (yq fun t => by kernel_rfl) yrL
theorem yvX : EV ylc yld 160 Tryz.f160 ypY qz8 [(.sl 63 yh)] yP := fun x => by kernel_rfl
def yle : QF := ⟨160, yP, okN (n := 1) Tryz.func160 ⟨yrM, trivial⟩ yvX⟩
abbrev vH : Type := yaU
def Jf (k0 : yBT → Option R) (k1 : Qz8 → Option R) (again : vH → Option R) (t4 : vH) : Option R :=
 bif (decide (t4.1 < (List.length t4.2.2 : Int))) then Option.bind (bif (decide (t4.1 > (0 : Int))) then if (0 : Int) ≤ (Go.IntKind.wrap .i64 (t4.1 - (1 : Int))) then if (Go.IntKind.wrap .i64 (t4.1 - (1 : Int))) < (List.length t4.2.1 : Int) then if (0 : Int) ≤ t4.1 then if t4.1 < (List.length t4.2.1 : Int) then some (decide ((zu t4.2.1 (Go.IntKind.wrap .i64 (t4.1 - (1 : Int)))) ≥ (zu t4.2.1 t4.1))) else none else none else none else none else some false) fun u4 => Option.bind (bif u4 then some true else Option.bind (WA (t4.2.1, t4.2.2, t4.1)) fun r6 => some (!r6)) fun u5 => bif u5 then k0 (false, t4.2) else again ((Go.IntKind.wrap .i64 (t4.1 + (1 : Int))), t4.2.1, t4.2.2) else k1 t4.2
def QL k0 k1 := zR (@Jf R k0 k1) Yd
def Yt (x : Qz8) : Option Bool :=
 Option.bind (yB ((List.length x.2 : Int), (1 : Int), (20 : Int))) fun r1 => Option.bind (bif (!r1) then some true else some ((List.length x.1 : Int) != (List.length x.2 : Int))) fun u2 => Option.bind (bif u2 then some true else if (0 : Int) ≤ (0 : Int) then if (0 : Int) < (List.length x.1 : Int) then some ((zu x.1 (0 : Int)) != (0 : Int)) else none else none) fun u3 => bif u3 then some false else QL (fun x7 => some x7.1) (fun x8 => Option.bind (yP x8) fun r9 => some (decide ((List.length r9 : Int) ≤ (60 : Int)))) ((0 : Int), x.1, x.2)
def ylf : List QF := [y7f, yCw, yle]
def y7s (t : yaU) : St := ⟨.dead :: .box 1 0 :: .dead :: vI t.1 :: dd 54 [], [(1, .box [z3 t.2.1, yw t.2.2])]⟩
def yjw : Gk vH := fun κ => Jf (fun t => κ none ⟨.dead :: .box 1 0 :: vB t.1 :: dd 55 [], [(1, .box [z3 t.2.1, yw t.2.2])]⟩) (fun t => κ (some 0) ⟨.dead :: .box 1 0 :: dd 56 [], [(1, .box [z3 t.1, yw t.2])]⟩)
def ylg : Lp := lpC 4 (unG yhk y7s) @yjw lpN
theorem yrN : LF ylf ylg 135 4 Tryz.f135 0 y7s @yjw fun t => t := fun R κ again t => by kernel_rfl
theorem yrO : LK ylf ylg 135 Tryz.f135 0 := lkN (u := (unG yhk y7s)) (yq fun t => by kernel_rfl) yrN
theorem yvY : EV ylf ylg 135 Tryz.f135 ypZ qz8 [.bool] Yt := fun x => by kernel_rfl
def yBr : QF := ⟨135, Yt, okN (n := 1) Tryz.func135 ⟨yrO, trivial⟩ yvY⟩
abbrev VK : Type := yuO
def wu (k0 : Int → Option R) (k1 : Unit → Option R) (again : VK → Option R) (t2 : VK) : Option R :=
 bif (decide (t2.2.2 < (List.length t2.1 : Int))) then if (0 : Int) ≤ t2.2.2 then if t2.2.2 < (List.length t2.1 : Int) then bif ((yA t2.1 t2.2.2).1 == t2.2.1) then k0 t2.2.2 else again (t2.1, t2.2.1, (Go.IntKind.wrap .i64 (t2.2.2 + (1 : Int)))) else none else none else k1 ()
def y19 k0 k1 := zR (@wu R k0 k1) Yd
def zQ (x : yfF) : Option Int :=
 y19 (fun x1 => some x1) (fun x2 => some (-1 : Int)) (x.1, x.2, (0 : Int))
def ylh : List QF := []
def y7t (t : yuO) : St := ⟨zd t.1 :: vI t.2.1 :: dd 3 (vI t.2.2 :: dd 14 []), []⟩
def yjx : Gk VK := fun κ => wu (fun t => κ none ⟨dd 4 (vI t :: dd 15 []), []⟩) (fun t => κ (some 0) ⟨dd 20 [], []⟩)
def yli : Lp := lpC 2 (unG yuP y7t) @yjx lpN
theorem yrP : LF ylh yli 161 2 Tryz.f161 0 y7t @yjx fun t => t := fun R κ again t => by kernel_rfl
theorem yrQ : LK ylh yli 161 Tryz.f161 0 := lkN (u := (unG yuP y7t)) (yq fun t => by kernel_rfl) yrP
theorem yvZ : EV ylh yli 161 Tryz.f161 yq0 yfG [(.int .i64)] zQ := fun x => by kernel_rfl
def ynz : QF := ⟨161, zQ, okN (n := 1) Tryz.func161 ⟨yrQ, trivial⟩ yvZ⟩
abbrev vJ : Type := yfF
def Jg (k0 : ynX → Option R) (k1 : List y9 → Option R) (again : vJ → Option R) (t2 : vJ) : Option R :=
 bif (decide (t2.2 < (List.length t2.1 : Int))) then if (0 : Int) ≤ t2.2 then if t2.2 < (List.length t2.1 : Int) then Option.bind (yB ((yA t2.1 t2.2).1, (1 : Int), (60 : Int))) fun r1 => Option.bind (bif (!r1) then some true else Option.bind (bif (decide (t2.2 > (0 : Int))) then if (0 : Int) ≤ (Go.IntKind.wrap .i64 (t2.2 - (1 : Int))) then if (Go.IntKind.wrap .i64 (t2.2 - (1 : Int))) < (List.length t2.1 : Int) then if (0 : Int) ≤ t2.2 then if t2.2 < (List.length t2.1 : Int) then some (decide ((yA t2.1 (Go.IntKind.wrap .i64 (t2.2 - (1 : Int)))).1 ≥ (yA t2.1 t2.2).1)) else none else none else none else none else some false) fun u3 => some u3) fun u2 => bif u2 then k0 (t2.1, false) else if (0 : Int) ≤ t2.2 then if t2.2 < (List.length t2.1 : Int) then Option.bind (bif ((yA t2.1 t2.2).2 != (0 : Int)) then if (0 : Int) ≤ (0 : Int) then if (0 : Int) ≤ t2.2 then if t2.2 ≤ (List.length t2.1 : Int) then if (0 : Int) ≤ t2.2 then if t2.2 < (List.length t2.1 : Int) then Option.bind (zQ ((List.drop (Int.toNat (0 : Int)) (List.take (Int.toNat t2.2) t2.1)), (yA t2.1 t2.2).2)) fun r5 => some (decide (r5 < (0 : Int))) else none else none else none else none else none else some false) fun u4 => bif u4 then k0 (t2.1, false) else again (t2.1, (Go.IntKind.wrap .i64 (t2.2 + (1 : Int)))) else none else none else none else none else k1 t2.1
def QM k0 k1 := zR (@Jg R k0 k1) Yd
def Zi (x : List y9) : Option Bool :=
 QM (fun x6 => some x6.2) (fun x7 => some (decide ((List.length x7 : Int) ≤ (16 : Int)))) (x, (0 : Int))
def ylj : List QF := [y7f, ynz]
def y7u (t : yfF) : St := ⟨zd t.1 :: dd 2 (vI t.2 :: dd 52 []), []⟩
def yjy : Gk vJ := fun κ => Jg (fun t => κ none ⟨zd t.1 :: .dead :: vB t.2 :: dd 53 [], []⟩) (fun t => κ (some 0) ⟨zd t :: dd 55 [], []⟩)
def ylk : Lp := lpC 2 (unG yfG y7u) @yjy lpN
theorem yrR : LF ylj ylk 136 2 Tryz.f136 0 y7u @yjy fun t => t := fun R κ again t => by kernel_rfl
theorem yrS : LK ylj ylk 136 Tryz.f136 0 := lkN (u := (unG yfG y7u)) (yq fun t => by kernel_rfl) yrR
theorem yw0 : EV ylj ylk 136 Tryz.f136 yq1 [(.sl 67 yn)] [.bool] Zi := fun x => by kernel_rfl
def yw1 : QF := ⟨136, Zi, okN (n := 1) Tryz.func136 ⟨yrS, trivial⟩ yw0⟩
abbrev KO : Type := ynY
def jD (k0 : yzt → Option R) (k1 : List y8 → Option R) (again : KO → Option R) (t2 : KO) : Option R :=
 bif (decide (t2.2 < (List.length t2.1 : Int))) then if (0 : Int) ≤ t2.2 then if t2.2 < (List.length t2.1 : Int) then Option.bind (yB ((yG t2.1 t2.2).1, (0 : Int), (999 : Int))) fun r1 => Option.bind (bif (!r1) then some true else if (0 : Int) ≤ t2.2 then if t2.2 < (List.length t2.1 : Int) then Option.bind (zy ((yG t2.1 t2.2).2.2)) fun r3 => some (!r3) else none else none) fun u2 => Option.bind (bif u2 then some true else if (0 : Int) ≤ t2.2 then if t2.2 < (List.length t2.1 : Int) then Option.bind (bif (!((yG t2.1 t2.2).2.1)) then if (0 : Int) ≤ t2.2 then if t2.2 < (List.length t2.1 : Int) then some ((yG t2.1 t2.2).2.2 != (0 : Int)) else none else none else some false) fun u5 => some u5 else none else none) fun u4 => bif u4 then k0 (t2.1, false) else again (t2.1, (Go.IntKind.wrap .i64 (t2.2 + (1 : Int)))) else none else none else k1 t2.1
def Qc k0 k1 := zR (@jD R k0 k1) Yd
def ZF (x : List y8) : Option Bool :=
 Qc (fun x6 => some x6.2) (fun x7 => some ((List.length x7 : Int) == (24 : Int))) (x, (0 : Int))
def yll : List QF := [y7f, yux]
def y7v (t : ynY) : St := ⟨yK t.1 :: dd 2 (vI t.2 :: dd 41 []), []⟩
def yjz : Gk KO := fun κ => jD (fun t => κ none ⟨yK t.1 :: .dead :: vB t.2 :: dd 42 [], []⟩) (fun t => κ (some 0) ⟨yK t :: dd 44 [], []⟩)
def ylm : Lp := lpC 2 (unG ynZ y7v) @yjz lpN
theorem yrT : LF yll ylm 137 2 Tryz.f137 0 y7v @yjz fun t => t := fun R κ again t => by kernel_rfl
theorem yrU : LK yll ylm 137 Tryz.f137 0 := lkN (u := (unG ynZ y7v)) (yq fun t => by kernel_rfl) yrT
theorem yw2 : EV yll ylm 137 Tryz.f137 yq2 [(.sl 53 yj)] [.bool] ZF := fun x => by kernel_rfl
def yw3 : QF := ⟨137, ZF, okN (n := 1) Tryz.func137 ⟨yrU, trivial⟩ yw2⟩
abbrev vK : Type := yzu
def Jh (k0 : List yc → Option R) (again : vK → Option R) (t3 : vK) : Option R :=
 bif (decide (t3.2.2.1 < (List.length t3.1 : Int))) then if (0 : Int) ≤ t3.2.2.1 then if t3.2.2.1 < (List.length t3.1 : Int) then Option.bind (bif ((yA t3.1 t3.2.2.1).2 == t3.2.1) then some (t3.2.1 != (0 : Int)) else some false) fun u1 => bif u1 then if (0 : Int) ≤ t3.2.2.1 then if t3.2.2.1 < (List.length t3.1 : Int) then if (List.length t3.2.2.2 + List.length ([(yA t3.1 t3.2.2.1).1] : List yc)) * 8 < 140737488355328 then again (t3.1, t3.2.1, (Go.IntKind.wrap .i64 (t3.2.2.1 + (1 : Int))), (t3.2.2.2 ++ ([(yA t3.1 t3.2.2.1).1] : List yc))) else none else none else none else again (t3.1, t3.2.1, (Go.IntKind.wrap .i64 (t3.2.2.1 + (1 : Int))), t3.2.2.2) else none else none else k0 t3.2.2.2
def QN k0 := zR (@Jh R k0) Yd
def jo (x : yfF) : Option (List yc) :=
 QN (fun x2 => some x2) (x.1, x.2, (0 : Int), ([] : List yc))
def yln : List QF := []
def y7w (t : yzu) : St := ⟨zd t.1 :: vI t.2.1 :: dd 3 (.own 10000000 :: vI t.2.2.1 :: dd 27 []), [(10000000, .root true 3 yd t.2.2.2)]⟩
def yjA : Gk vK := fun κ => Jh (fun t => κ (some 0) ⟨dd 5 (.own 10000000 :: dd 28 []), [(10000000, .root true 3 yd t)]⟩)
def ylo : Lp := lpC 3 (unG yzv y7w) @yjA lpN
theorem yrV : LF yln ylo 162 3 Tryz.f162 0 y7w @yjA fun t => t := fun R κ again t => by kernel_rfl
theorem yrW : LK yln ylo 162 Tryz.f162 0 := lkN (u := (unG yzv y7w)) (yq fun t => by kernel_rfl) yrV
theorem yw4 : EV yln ylo 162 Tryz.f162 yq3 yfG [(.sl 3 yd)] jo := fun x => by kernel_rfl
def yw5 : QF := ⟨162, jo, okN (n := 1) Tryz.func162 ⟨yrW, trivial⟩ yw4⟩
abbrev KP : Type := yzw
def jE (k0 : yuR → Option R) (k1 : yhl → Option R) (again : KP → Option R) (t8 : KP) : Option R :=
 bif (decide (t8.2.1 < t8.1)) then if (0 : Int) ≤ t8.2.1 then if t8.2.1 < (List.length t8.2.2.2.2.2.2.1 : Int) then bif ((yi t8.2.2.2.2.2.2.1 t8.2.1).2.1 == t8.2.2.2.2.2.2.2.2.2.1) then k0 (false, t8.1, t8.2.2.1, t8.2.2.2.1, t8.2.2.2.2.1, t8.2.2.2.2.2.1, t8.2.2.2.2.2.2.1, t8.2.2.2.2.2.2.2.1) else again (t8.1, (Go.IntKind.wrap .i64 (t8.2.1 + (1 : Int))), t8.2.2.1, t8.2.2.2.1, t8.2.2.2.2.1, t8.2.2.2.2.2.1, t8.2.2.2.2.2.2.1, t8.2.2.2.2.2.2.2.1, t8.2.2.2.2.2.2.2.2.1, t8.2.2.2.2.2.2.2.2.2.1, t8.2.2.2.2.2.2.2.2.2.2.1, t8.2.2.2.2.2.2.2.2.2.2.2) else none else none else k1 (t8.1, t8.2.2.1, t8.2.2.2.1, t8.2.2.2.2.1, t8.2.2.2.2.2.1, t8.2.2.2.2.2.2.1, t8.2.2.2.2.2.2.2.1)
def KQ k0 k1 := zR (@jE R k0 k1) Yd
abbrev KR : Type := yhl
def jF (k0 : yi4 → Option R) (k1 : Qz9 → Option R) (again : KR → Option R) (t2 : KR) : Option R :=
 bif (decide (t2.1 < (List.length t2.2.2.2.2.2.1 : Int))) then if (0 : Int) ≤ t2.1 then if t2.1 < (List.length t2.2.2.2.2.2.1 : Int) then Option.bind (Ys ((yi t2.2.2.2.2.2.1 t2.1).1)) fun r1 => Option.bind (bif (!r1) then some true else Option.bind (yB ((yi t2.2.2.2.2.2.1 t2.1).2.2.1, (1 : Int), (12 : Int))) fun r3 => some (!r3)) fun u2 => Option.bind (bif u2 then some true else Option.bind (zQ (t2.2.2.2.1, (yi t2.2.2.2.2.2.1 t2.1).2.1)) fun r5 => some (decide (r5 < (0 : Int)))) fun u4 => Option.bind (bif u4 then some true else Option.bind (jo (t2.2.2.2.1, (yi t2.2.2.2.2.2.1 t2.1).2.1)) fun r7 => some (decide ((List.length r7 : Int) > (0 : Int)))) fun u6 => Option.bind (bif u6 then some true else Option.bind (bif (decide (t2.1 > (0 : Int))) then if (0 : Int) ≤ (Go.IntKind.wrap .i64 (t2.1 - (1 : Int))) then if (Go.IntKind.wrap .i64 (t2.1 - (1 : Int))) < (List.length t2.2.2.2.2.2.1 : Int) then some (!Go.Op.bytesLess (ByteArray.toList ((yi t2.2.2.2.2.2.1 (Go.IntKind.wrap .i64 (t2.1 - (1 : Int)))).1)) (ByteArray.toList ((yi t2.2.2.2.2.2.1 t2.1).1))) else none else none else some false) fun u9 => some u9) fun u8 => bif u8 then k0 (false, t2.2) else KQ (fun x10 => k0 (x10.1, x10.2.2)) (fun x11 => again ((Go.IntKind.wrap .i64 (x11.1 + (1 : Int))), x11.2.1, x11.2.2.1, x11.2.2.2.1, x11.2.2.2.2.1, x11.2.2.2.2.2.1, x11.2.2.2.2.2.2)) (t2.1, (0 : Int), t2.2.1, t2.2.2.1, t2.2.2.2.1, t2.2.2.2.2.1, t2.2.2.2.2.2.1, t2.2.2.2.2.2.2, (yi t2.2.2.2.2.2.1 t2.1).1, (yi t2.2.2.2.2.2.1 t2.1).2.1, (yi t2.2.2.2.2.2.1 t2.1).2.2.1, (yi t2.2.2.2.2.2.1 t2.1).2.2.2) else none else none else k1 t2.2
def Qd k0 k1 := zR (@jF R k0 k1) Yd
def wv (x : Qz9) : Option Bool :=
 Qd (fun x12 => some x12.1) (fun x13 => some (decide ((List.length x13.2.2.2.2.1 : Int) ≤ (6 : Int)))) ((0 : Int), x.1, x.2.1, x.2.2.1, x.2.2.2.1, x.2.2.2.2.1, x.2.2.2.2.2)
def yfX : List QF := [yuw, y7f, ynz, yw5]
def y7x (t : yzw) : St := ⟨.dead :: .box 1 0 :: .dead :: vI t.1 :: .box 4 0 :: vI t.2.1 :: dd 73 [], [(1, .box [z3 t.2.2.1, yw t.2.2.2.1, zd t.2.2.2.2.1, yK t.2.2.2.2.2.1, zC t.2.2.2.2.2.2.1, vI t.2.2.2.2.2.2.2.1]), (4, .box [vS t.2.2.2.2.2.2.2.2.1, vI t.2.2.2.2.2.2.2.2.2.1, vI t.2.2.2.2.2.2.2.2.2.2.1, vB t.2.2.2.2.2.2.2.2.2.2.2])]⟩
def yjB : Gk KP := fun κ => jE (fun t => κ none ⟨.dead :: .box 1 0 :: vB t.1 :: vI t.2.1 :: dd 75 [], [(1, .box [z3 t.2.2.1, yw t.2.2.2.1, zd t.2.2.2.2.1, yK t.2.2.2.2.2.1, zC t.2.2.2.2.2.2.1, vI t.2.2.2.2.2.2.2])]⟩) (fun t => κ (some 2) ⟨.dead :: .box 1 0 :: .dead :: vI t.1 :: dd 75 [], [(1, .box [z3 t.2.1, yw t.2.2.1, zd t.2.2.2.1, yK t.2.2.2.2.1, zC t.2.2.2.2.2.1, vI t.2.2.2.2.2.2])]⟩)
def y7y (t : yhl) : St := ⟨.dead :: .box 1 0 :: .dead :: vI t.1 :: dd 75 [], [(1, .box [z3 t.2.1, yw t.2.2.1, zd t.2.2.2.1, yK t.2.2.2.2.1, zC t.2.2.2.2.2.1, vI t.2.2.2.2.2.2])]⟩
def yjC : Gk KR := fun κ => jF (fun t => κ none ⟨.dead :: .box 1 0 :: vB t.1 :: dd 76 [], [(1, .box [z3 t.2.1, yw t.2.2.1, zd t.2.2.2.1, yK t.2.2.2.2.1, zC t.2.2.2.2.2.1, vI t.2.2.2.2.2.2])]⟩) (fun t => κ (some 0) ⟨.dead :: .box 1 0 :: dd 77 [], [(1, .box [z3 t.1, yw t.2.1, zd t.2.2.1, yK t.2.2.2.1, zC t.2.2.2.2.1, vI t.2.2.2.2.2])]⟩)
def yfY : Lp := lpC 2 (unG ynv y7y) @yjC (lpC 8 (unG yzx y7x) @yjB lpN)
theorem yrX : LF yfX yfY 138 8 Tryz.f138 1 y7x @yjB fun t => t := fun R κ again t => by kernel_rfl
theorem yrY : LK yfX yfY 138 Tryz.f138 1 := lkN (u := (unG yzx y7x)) (yq fun t => by kernel_rfl) yrX
theorem yrZ : LF yfX yfY 138 2 Tryz.f138 0 y7y @yjC fun t => t := fun R κ again t => by kernel_rfl
theorem ys0 : LK yfX yfY 138 Tryz.f138 0 := lkN (u := (unG ynv y7y)) (yq fun t => by kernel_rfl) yrZ
theorem yw6 : EV yfX yfY 138 Tryz.f138 yq4 qz9 [.bool] wv := fun x => by kernel_rfl
def yCx : QF := ⟨138, wv, okN (n := 2) Tryz.func138 ⟨ys0, yrY, trivial⟩ yw6⟩
def JR (x : yuh) : Option yzy :=
 Option.bind (yB (x.2.1, (0 : Int), (Go.IntKind.wrap .i64 ((List.length x.1 : Int) - (1 : Int))))) fun r1 => Option.bind (bif (!r1) then some true else if (0 : Int) ≤ x.2.1 then if x.2.1 < (List.length x.1 : Int) then some (!((yG x.1 x.2.1).2.1)) else none else none) fun u2 => Option.bind (bif u2 then some true else if (0 : Int) ≤ x.2.1 then if x.2.1 < (List.length x.1 : Int) then some ((yG x.1 x.2.1).1 != x.2.2) else none else none) fun u3 => bif u3 then some ((0 : Int), false) else if (0 : Int) ≤ x.2.1 then if x.2.1 < (List.length x.1 : Int) then some ((yG x.1 x.2.1).2.2, true) else none else none
theorem yw7 : EV [y7f] lpN 163 Tryz.f163 yq5 yui yzz JR := fun x => by kernel_rfl
def yCy : QF := ⟨163, JR, okN (n := 0) Tryz.func163 trivial yw7⟩
abbrev WB : Type := yuh
def Zj (k0 : Int → Option R) (again : WB → Option R) (t3 : WB) : Option R :=
 bif (decide (t3.2.2 < (List.length t3.1 : Int))) then if (0 : Int) ≤ t3.2.2 then if t3.2.2 < (List.length t3.1 : Int) then bif (yG t3.1 t3.2.2).2.1 then again (t3.1, (Go.IntKind.wrap .i64 (t3.2.1 + (1 : Int))), (Go.IntKind.wrap .i64 (t3.2.2 + (1 : Int)))) else again (t3.1, t3.2.1, (Go.IntKind.wrap .i64 (t3.2.2 + (1 : Int)))) else none else none else k0 t3.2.1
def Vx k0 := zR (@Zj R k0) Yd
def jG (x : List y8) : Option Int :=
 Vx (fun x1 => some x1) (x, (0 : Int), (0 : Int))
def ylp : List QF := []
def y7z (t : yuh) : St := ⟨yK t.1 :: dd 2 (vI t.2.1 :: vI t.2.2 :: dd 14 []), []⟩
def yjD : Gk WB := fun κ => Zj (fun t => κ (some 0) ⟨dd 3 (vI t :: dd 15 []), []⟩)
def ylq : Lp := lpC 3 (unG yui y7z) @yjD lpN
theorem ys1 : LF ylp ylq 164 3 Tryz.f164 0 y7z @yjD fun t => t := fun R κ again t => by kernel_rfl
theorem ys2 : LK ylp ylq 164 Tryz.f164 0 := lkN (u := (unG yui y7z)) (yq fun t => by kernel_rfl) ys1
theorem yw8 : EV ylp ylq 164 Tryz.f164 yq6 [(.sl 53 yj)] [(.int .i64)] jG := fun x => by kernel_rfl
def yCz : QF := ⟨164, jG, okN (n := 1) Tryz.func164 ⟨ys2, trivial⟩ yw8⟩
abbrev kN : Type := yo1
def ZS (k0 : yBU → Option R) (k1 : yjj → Option R) (again : kN → Option R) (t14 : kN) : Option R :=
 bif (decide (t14.2.2.1 < t14.2.1)) then if (0 : Int) ≤ t14.2.2.1 then if t14.2.2.1 < (List.length t14.2.2.2.2.2.2.2.2.2 : Int) then Option.bind (bif ((y6 t14.2.2.2.2.2.2.2.2.2 t14.2.2.1).2.2.1 == (1 : Int)) then if (0 : Int) ≤ t14.2.2.1 then if t14.2.2.1 < (List.length t14.2.2.2.2.2.2.2.2.2 : Int) then if (0 : Int) ≤ t14.2.1 then if t14.2.1 < (List.length t14.2.2.2.2.2.2.2.2.2 : Int) then some ((y6 t14.2.2.2.2.2.2.2.2.2 t14.2.2.1).2.2.2.1 == (y6 t14.2.2.2.2.2.2.2.2.2 t14.2.1).2.2.2.1) else none else none else none else none else some false) fun u4 => bif u4 then k0 (false, t14.1, t14.2.1, t14.2.2.2) else again (t14.1, t14.2.1, (Go.IntKind.wrap .i64 (t14.2.2.1 + (1 : Int))), t14.2.2.2.1, t14.2.2.2.2.1, t14.2.2.2.2.2.1, t14.2.2.2.2.2.2.1, t14.2.2.2.2.2.2.2.1, t14.2.2.2.2.2.2.2.2.1, t14.2.2.2.2.2.2.2.2.2) else none else none else k1 (t14.1, t14.2.1, t14.2.2.2)
def kO k0 k1 := zR (@ZS R k0 k1) Yd
abbrev KS : Type := yjj
def jH (k0 : yuR → Option R) (k1 : yhl → Option R) (again : KS → Option R) (t4 : KS) : Option R :=
 bif (decide (t4.2.1 < (List.length t4.2.2.2.2.2.2.2.2 : Int))) then if (0 : Int) ≤ t4.2.1 then if t4.2.1 < (List.length t4.2.2.2.2.2.2.2.2 : Int) then Option.bind (zQ (t4.2.2.2.2.1, (y6 t4.2.2.2.2.2.2.2.2 t4.2.1).2.1)) fun r2 => bif (decide (r2 < (0 : Int))) then k0 (false, t4.1, t4.2.2.1, t4.2.2.2.1, t4.2.2.2.2.1, t4.2.2.2.2.2.1, t4.2.2.2.2.2.2.1, t4.2.2.2.2.2.2.2.1) else if (0 : Int) ≤ t4.2.1 then if t4.2.1 < (List.length t4.2.2.2.2.2.2.2.2 : Int) then bif ((y6 t4.2.2.2.2.2.2.2.2 t4.2.1).2.2.1 != (1 : Int)) then again (t4.1, (Go.IntKind.wrap .i64 (t4.2.1 + (1 : Int))), t4.2.2.1, t4.2.2.2.1, t4.2.2.2.2.1, t4.2.2.2.2.2.1, t4.2.2.2.2.2.2.1, t4.2.2.2.2.2.2.2.1, t4.2.2.2.2.2.2.2.2) else if (0 : Int) ≤ t4.2.1 then if t4.2.1 < (List.length t4.2.2.2.2.2.2.2.2 : Int) then if (0 : Int) ≤ t4.2.1 then if t4.2.1 < (List.length t4.2.2.2.2.2.2.2.2 : Int) then Option.bind (JR (t4.2.2.2.2.2.1, (y6 t4.2.2.2.2.2.2.2.2 t4.2.1).2.2.2.1, (y6 t4.2.2.2.2.2.2.2.2 t4.2.1).2.2.2.2)) fun r3 => bif (!r3.2) then k0 (false, (Go.IntKind.wrap .i64 (t4.1 + (1 : Int))), t4.2.2.1, t4.2.2.2.1, t4.2.2.2.2.1, t4.2.2.2.2.2.1, t4.2.2.2.2.2.2.1, t4.2.2.2.2.2.2.2.1) else kO (fun x5 => k0 (x5.1, x5.2.1, x5.2.2.2.1, x5.2.2.2.2.1, x5.2.2.2.2.2.1, x5.2.2.2.2.2.2.1, x5.2.2.2.2.2.2.2.1, x5.2.2.2.2.2.2.2.2.1)) (fun x6 => again (x6.1, (Go.IntKind.wrap .i64 (x6.2.1 + (1 : Int))), x6.2.2.1, x6.2.2.2.1, x6.2.2.2.2.1, x6.2.2.2.2.2.1, x6.2.2.2.2.2.2.1, x6.2.2.2.2.2.2.2.1, x6.2.2.2.2.2.2.2.2)) ((Go.IntKind.wrap .i64 (t4.1 + (1 : Int))), t4.2.1, (0 : Int), t4.2.2.1, t4.2.2.2.1, t4.2.2.2.2.1, t4.2.2.2.2.2.1, t4.2.2.2.2.2.2.1, t4.2.2.2.2.2.2.2.1, t4.2.2.2.2.2.2.2.2) else none else none else none else none else none else none else none else none else k1 (t4.1, t4.2.2.1, t4.2.2.2.1, t4.2.2.2.2.1, t4.2.2.2.2.2.1, t4.2.2.2.2.2.2.1, t4.2.2.2.2.2.2.2.1)
def Qe k0 k1 := zR (@jH R k0 k1) Yd
def ww (x : Qz9) : Option Bool :=
 Option.bind (yP (x.1, x.2.1)) fun r1 => Qe (fun x7 => some x7.1) (fun x8 => Option.bind (jG x8.2.2.2.2.1) fun r9 => some (x8.1 == r9)) ((0 : Int), (0 : Int), x.1, x.2.1, x.2.2.1, x.2.2.2.1, x.2.2.2.2.1, x.2.2.2.2.2, r1)
def yfZ : List QF := [yle, ynz, yCy, yCz]
def y4O (t : yo1) : St := ⟨.dead :: .box 1 0 :: .dead :: .own 10000000 :: vI t.1 :: vI t.2.1 :: dd 2 (vI t.2.2.1 :: dd 73 []), [(1, .box [z3 t.2.2.2.1, yw t.2.2.2.2.1, zd t.2.2.2.2.2.1, yK t.2.2.2.2.2.2.1, zC t.2.2.2.2.2.2.2.1, vI t.2.2.2.2.2.2.2.2.1]), (10000000, .root true 63 yh t.2.2.2.2.2.2.2.2.2)]⟩
def yg0 : Gk kN := fun κ => ZS (fun t => κ none ⟨.dead :: .box 1 0 :: vB t.1 :: .own 10000000 :: vI t.2.1 :: vI t.2.2.1 :: dd 76 [], [(1, .box [z3 t.2.2.2.1, yw t.2.2.2.2.1, zd t.2.2.2.2.2.1, yK t.2.2.2.2.2.2.1, zC t.2.2.2.2.2.2.2.1, vI t.2.2.2.2.2.2.2.2.1]), (10000000, .root true 63 yh t.2.2.2.2.2.2.2.2.2)]⟩) (fun t => κ (some 2) ⟨.dead :: .box 1 0 :: .dead :: .own 10000000 :: vI t.1 :: vI t.2.1 :: dd 76 [], [(1, .box [z3 t.2.2.1, yw t.2.2.2.1, zd t.2.2.2.2.1, yK t.2.2.2.2.2.1, zC t.2.2.2.2.2.2.1, vI t.2.2.2.2.2.2.2.1]), (10000000, .root true 63 yh t.2.2.2.2.2.2.2.2)]⟩)
def y7A (t : yjj) : St := ⟨.dead :: .box 1 0 :: .dead :: .own 10000000 :: vI t.1 :: vI t.2.1 :: dd 76 [], [(1, .box [z3 t.2.2.1, yw t.2.2.2.1, zd t.2.2.2.2.1, yK t.2.2.2.2.2.1, zC t.2.2.2.2.2.2.1, vI t.2.2.2.2.2.2.2.1]), (10000000, .root true 63 yh t.2.2.2.2.2.2.2.2)]⟩
def yjE : Gk KS := fun κ => jH (fun t => κ none ⟨.dead :: .box 1 0 :: vB t.1 :: .dead :: vI t.2.1 :: dd 77 [], [(1, .box [z3 t.2.2.1, yw t.2.2.2.1, zd t.2.2.2.2.1, yK t.2.2.2.2.2.1, zC t.2.2.2.2.2.2.1, vI t.2.2.2.2.2.2.2])]⟩) (fun t => κ (some 0) ⟨.dead :: .box 1 0 :: dd 2 (vI t.1 :: dd 77 []), [(1, .box [z3 t.2.1, yw t.2.2.1, zd t.2.2.2.1, yK t.2.2.2.2.1, zC t.2.2.2.2.2.1, vI t.2.2.2.2.2.2])]⟩)
def yg1 : Lp := lpC 4 (unG ynw y7A) @yjE (lpC 14 (unG yuj y4O) @yg0 lpN)
theorem ylr : LF yfZ yg1 139 14 Tryz.f139 1 y4O @yg0 fun t => t := fun R κ again t => by kernel_rfl
theorem yls : LK yfZ yg1 139 Tryz.f139 1 := lkN (u := (unG yuj y4O)) (yq fun t => by kernel_rfl) ylr
theorem ys3 : LF yfZ yg1 139 4 Tryz.f139 0 y7A @yjE fun t => t := fun R κ again t => by kernel_rfl
theorem ys4 : LK yfZ yg1 139 Tryz.f139 0 := lkN (u := (unG ynw y7A)) (yq fun t => by kernel_rfl) ys3
theorem yw9 : EV yfZ yg1 139 Tryz.f139 yq7 qz9 [.bool] ww := fun x => by kernel_rfl
def yCA : QF := ⟨139, ww, okN (n := 2) Tryz.func139 ⟨ys4, yls, trivial⟩ yw9⟩
abbrev vL : Type := yhl
def Ji (k0 : yi4 → Option R) (k1 : Qz9 → Option R) (again : vL → Option R) (t2 : vL) : Option R :=
 bif (decide (t2.1 < (List.length t2.2.2.2.1 : Int))) then if (0 : Int) ≤ t2.1 then if t2.1 < (List.length t2.2.2.2.1 : Int) then bif (decide ((yA t2.2.2.2.1 t2.1).1 ≥ t2.2.2.2.2.2.2)) then k0 (false, t2.2) else again ((Go.IntKind.wrap .i64 (t2.1 + (1 : Int))), t2.2.1, t2.2.2.1, t2.2.2.2.1, t2.2.2.2.2.1, t2.2.2.2.2.2.1, t2.2.2.2.2.2.2) else none else none else k1 t2.2
def QO k0 k1 := zR (@Ji R k0 k1) Yd
def yL (x : Qz9) : Option Bool :=
 QO (fun x1 => some x1.1) (fun x2 => Option.bind (Yt (x2.1, x2.2.1)) fun r3 => Option.bind (bif r3 then Option.bind (Zi x2.2.2.1) fun r5 => some r5 else some false) fun u4 => Option.bind (bif u4 then Option.bind (ZF x2.2.2.2.1) fun r7 => some r7 else some false) fun u6 => Option.bind (bif u6 then Option.bind (yB (x2.2.2.2.2.2, (1 : Int), (61 : Int))) fun r9 => some r9 else some false) fun u8 => Option.bind (bif u8 then Option.bind (wv x2) fun r11 => some r11 else some false) fun u10 => Option.bind (bif u10 then Option.bind (ww x2) fun r13 => some r13 else some false) fun u12 => some u12) ((0 : Int), x.1, x.2.1, x.2.2.1, x.2.2.2.1, x.2.2.2.2.1, x.2.2.2.2.2)
def ylt : List QF := [y7f, yBr, yw1, yw3, yCx, yCA]
def y7B (t : yhl) : St := ⟨.dead :: .box 1 0 :: .dead :: vI t.1 :: dd 42 [], [(1, .box [z3 t.2.1, yw t.2.2.1, zd t.2.2.2.1, yK t.2.2.2.2.1, zC t.2.2.2.2.2.1, vI t.2.2.2.2.2.2])]⟩
def yjF : Gk vL := fun κ => Ji (fun t => κ none ⟨.dead :: .box 1 0 :: vB t.1 :: dd 43 [], [(1, .box [z3 t.2.1, yw t.2.2.1, zd t.2.2.2.1, yK t.2.2.2.2.1, zC t.2.2.2.2.2.1, vI t.2.2.2.2.2.2])]⟩) (fun t => κ (some 0) ⟨.dead :: .box 1 0 :: dd 44 [], [(1, .box [z3 t.1, yw t.2.1, zd t.2.2.1, yK t.2.2.2.1, zC t.2.2.2.2.1, vI t.2.2.2.2.2])]⟩)
def ylu : Lp := lpC 2 (unG ynv y7B) @yjF lpN
theorem ys5 : LF ylt ylu 108 2 Tryz.f108 0 y7B @yjF fun t => t := fun R κ again t => by kernel_rfl
theorem ys6 : LK ylt ylu 108 Tryz.f108 0 := lkN (u := (unG ynv y7B)) (yq fun t => by kernel_rfl) ys5
theorem ywa : EV ylt ylu 108 Tryz.f108 yq8 qz9 [.bool] yL := fun x => by kernel_rfl
def ylv : QF := ⟨108, yL, okN (n := 1) Tryz.func108 ⟨ys6, trivial⟩ ywa⟩
abbrev vM : Type := yji ⊕ yo2
def Z1 (k0 : Unit → Option R) (k1 : List ya → Option R) (again : vM → Option R) : vM → Option R
 | .inl t3 => bif (decide (t3.1 < (List.length t3.2 : Int))) then if (0 : Int) ≤ t3.1 then if t3.1 < (List.length t3.2 : Int) then if (List.length ([] : List y7) + List.length (yp t3.2 t3.1)) * 40 < 140737488355328 then if List.length ([(([] : List y7) ++ (yp t3.2 t3.1))] : List ya) * 24 < 140737488355328 then again (Sum.inr ((Go.IntKind.wrap .i64 (t3.1 + (1 : Int))), t3.2, ([(([] : List y7) ++ (yp t3.2 t3.1))] : List ya))) else none else none else none else none else k0 ()
 | .inr t3 => bif (decide (t3.1 < (List.length t3.2.1 : Int))) then if (0 : Int) ≤ t3.1 then if t3.1 < (List.length t3.2.1 : Int) then if (List.length ([] : List y7) + List.length (yp t3.2.1 t3.1)) * 40 < 140737488355328 then if (List.length t3.2.2 + List.length ([(([] : List y7) ++ (yp t3.2.1 t3.1))] : List ya)) * 24 < 140737488355328 then again (Sum.inr ((Go.IntKind.wrap .i64 (t3.1 + (1 : Int))), t3.2.1, (t3.2.2 ++ ([(([] : List y7) ++ (yp t3.2.1 t3.1))] : List ya)))) else none else none else none else none else k1 t3.2.2
def QP k0 k1 := zR (@Z1 R k0 k1) Yd
def zo (x : List ya) : Option (List ya) :=
 QP (fun x1 => some ([] : List ya)) (fun x2 => some x2) (Sum.inl ((0 : Int), x))
def yg2 : List QF := []
def y3Y (t : yji) : St := ⟨.dead :: .box 1 0 :: .box 2 0 :: .box 3 0 :: vI t.1 :: dd 21 [], [(1, .box [YQ t.2]), (2, .box [.nils]), (3, .box [.nils])]⟩
theorem yia : ∀ s t, unG yue y3Y s = some t → y3Y t = s := yq fun t => by kernel_rfl
def y3Z (t : yo2) : St := ⟨.dead :: .box 1 0 :: .box 2 0 :: .box 3 0 :: vI t.1 :: dd 21 [], [(1, .box [YQ t.2.1]), (2, .box [.nils]), (3, .box [.own 10000000]), (10000000, .root true 58 yt t.2.2)]⟩
theorem yib : ∀ s t, unG yzA y3Z s = some t → y3Z t = s := yq fun t => by kernel_rfl
def y40 : (yji ⊕ yo2) → St := Sum.elim y3Y y3Z
def y7C (s : St) : Option (yji ⊕ yo2) := ((unG yue y3Y s).map Sum.inl).or (((unG yzA y3Z) s).map Sum.inr)
theorem yic : ∀ s t, y7C s = some t → y40 t = s := y7d yia yib
def yd7 : Gk vM := fun κ => Z1 (fun t => κ (some 0) ⟨dd 2 (.box 2 0 :: .box 3 0 :: dd 22 []), [(2, .box [.nils]), (3, .box [.nils])]⟩) (fun t => κ (some 0) ⟨dd 2 (.box 2 0 :: .box 3 0 :: dd 22 []), [(2, .box [.nils]), (3, .box [.own 10000000]), (10000000, .root true 58 yt t)]⟩)
def yg3 : Lp := lpC 3 y7C @yd7 lpN
theorem yid : LF yg2 yg3 165 3 Tryz.f165 0 y40 @yd7 fun v : yji => .inl v := fun R κ again v => by kernel_rfl
theorem yie : LF yg2 yg3 165 3 Tryz.f165 0 y40 @yd7 fun v : yo2 => .inr v := fun R κ again v => by kernel_rfl
theorem ys7 : LF yg2 yg3 165 3 Tryz.f165 0 y40 @yd7 fun t => t := (LC.sum yid yie)
theorem ys8 : LK yg2 yg3 165 Tryz.f165 0 := lkN (u := y7C) yic ys7
theorem ywb : EV yg2 yg3 165 Tryz.f165 yq9 [(.sl 58 yt)] [(.sl 58 yt)] zo := fun x => by kernel_rfl
def yBs : QF := ⟨165, zo, okN (n := 1) Tryz.func165 ⟨ys8, trivial⟩ ywb⟩
abbrev vN : Type := yo3 ⊕ yo4
def Z2 (k0 : List yc → Option R) (k1 : Qz8 → Option R) (again : vN → Option R) : vN → Option R
 | .inl t3 => bif (decide (t3.1 < (List.length t3.2.2.1 : Int))) then if (0 : Int) ≤ t3.1 then if t3.1 < (List.length t3.2.2.1 : Int) then Option.bind (zo (yf t3.2.2.1 t3.1)) fun r1 => if List.length ([r1] : List y0) * 24 < 140737488355328 then again (Sum.inr ((Go.IntKind.wrap .i64 (t3.1 + (1 : Int))), t3.2.1, t3.2.2.1, t3.2.2.2, ([r1] : List y0))) else none else none else none else k0 t3.2.2.2
 | .inr t3 => bif (decide (t3.1 < (List.length t3.2.2.1 : Int))) then if (0 : Int) ≤ t3.1 then if t3.1 < (List.length t3.2.2.1 : Int) then Option.bind (zo (yf t3.2.2.1 t3.1)) fun r2 => if (List.length t3.2.2.2.2 + List.length ([r2] : List y0)) * 24 < 140737488355328 then again (Sum.inr ((Go.IntKind.wrap .i64 (t3.1 + (1 : Int))), t3.2.1, t3.2.2.1, t3.2.2.2.1, (t3.2.2.2.2 ++ ([r2] : List y0)))) else none else none else none else k1 t3.2.2.2
def QQ k0 k1 := zR (@Z2 R k0 k1) Yd
def Zk (x : Qz8) : Option Qz8 :=
 if (List.length ([] : List yc) + List.length x.1) * 8 < 140737488355328 then QQ (fun x3 => some (x3, ([] : List y0))) (fun x4 => some x4) (Sum.inl ((0 : Int), x.1, x.2, (([] : List yc) ++ x.1))) else none
def yg4 : List QF := [yBs]
def y41 (t : yo3) : St := ⟨.dead :: .box 1 0 :: .box 2 0 :: .box 3 0 :: vI t.1 :: dd 24 [], [(1, .box [z3 t.2.1, yw t.2.2.1]), (2, .box [.nils, .nils]), (3, .box [.own 10000000, .nils]), (10000000, .root true 3 yd t.2.2.2)]⟩
theorem yif : ∀ s t, unG yzB y41 s = some t → y41 t = s := yq fun t => by kernel_rfl
def y42 (t : yo4) : St := ⟨.dead :: .box 1 0 :: .box 2 0 :: .box 3 0 :: vI t.1 :: dd 24 [], [(1, .box [z3 t.2.1, yw t.2.2.1]), (2, .box [.nils, .nils]), (3, .box [.own 10000000, .own 10000001]), (10000000, .root true 3 yd t.2.2.2.1), (10000001, .root true 99 yk t.2.2.2.2)]⟩
theorem yig : ∀ s t, unG yzC y42 s = some t → y42 t = s := yq fun t => by kernel_rfl
def y43 : (yo3 ⊕ yo4) → St := Sum.elim y41 y42
def y7D (s : St) : Option (yo3 ⊕ yo4) := ((unG yzB y41 s).map Sum.inl).or (((unG yzC y42) s).map Sum.inr)
theorem yih : ∀ s t, y7D s = some t → y43 t = s := y7d yif yig
def yd8 : Gk vN := fun κ => Z2 (fun t => κ (some 0) ⟨dd 2 (.box 2 0 :: .box 3 0 :: dd 25 []), [(2, .box [.nils, .nils]), (3, .box [.own 10000000, .nils]), (10000000, .root true 3 yd t)]⟩) (fun t => κ (some 0) ⟨dd 2 (.box 2 0 :: .box 3 0 :: dd 25 []), [(2, .box [.nils, .nils]), (3, .box [.own 10000000, .own 10000001]), (10000000, .root true 3 yd t.1), (10000001, .root true 99 yk t.2)]⟩)
def yg5 : Lp := lpC 3 y7D @yd8 lpN
theorem yii : LF yg4 yg5 140 3 Tryz.f140 0 y43 @yd8 fun v : yo3 => .inl v := fun R κ again v => by kernel_rfl
theorem yij : LF yg4 yg5 140 3 Tryz.f140 0 y43 @yd8 fun v : yo4 => .inr v := fun R κ again v => by kernel_rfl
theorem ys9 : LF yg4 yg5 140 3 Tryz.f140 0 y43 @yd8 fun t => t := (LC.sum yii yij)
theorem ysa : LK yg4 yg5 140 Tryz.f140 0 := lkN (u := y7D) yih ys9
theorem ywc : EV yg4 yg5 140 Tryz.f140 yqa qz8 qz8 Zk := fun x => by kernel_rfl
def ywd : QF := ⟨140, Zk, okN (n := 1) Tryz.func140 ⟨ysa, trivial⟩ ywc⟩
def Y5 (x : List y8) : Option (List y8) :=
 if (List.length ([] : List y8) + List.length x) * 24 < 140737488355328 then some (([] : List y8) ++ x) else none
theorem ywe : EV [] lpN 141 Tryz.f141 yqb [(.sl 53 yj)] [(.sl 53 yj)] Y5 := fun x => by kernel_rfl
def ywf : QF := ⟨141, Y5, okN (n := 0) Tryz.func141 trivial ywe⟩
def ym (x : Qz9) : Option Qz9 :=
 Option.bind (Zk (x.1, x.2.1)) fun r1 => if (List.length ([] : List y9) + List.length x.2.2.1) * 16 < 140737488355328 then Option.bind (Y5 x.2.2.2.1) fun r2 => if (List.length ([] : List ye) + List.length x.2.2.2.2.1) * 40 < 140737488355328 then some (r1.1, r1.2, (([] : List y9) ++ x.2.2.1), r2, (([] : List ye) ++ x.2.2.2.2.1), x.2.2.2.2.2) else none else none
theorem ywg : EV [ywd, ywf] lpN 109 Tryz.f109 yqc qz9 qz9 ym := fun x => by kernel_rfl
def yg6 : QF := ⟨109, ym, okN (n := 0) Tryz.func109 trivial ywg⟩
def ZG (x : yuk) : Option Int :=
 Option.bind (yL (x.1, x.2.1, x.2.2.1, x.2.2.2.1, x.2.2.2.2.1, x.2.2.2.2.2.1)) fun r1 => Option.bind (bif (!r1) then some true else Option.bind (Ys x.2.2.2.2.2.2) fun r3 => some (!r3)) fun u2 => bif u2 then some (1 : Int) else some (0 : Int)
theorem ywh : EV [ylv, yuw] lpN 142 Tryz.f142 yqd yul [(.int .i64)] ZG := fun x => by kernel_rfl
def ywi : QF := ⟨142, ZG, okN (n := 0) Tryz.func142 trivial ywh⟩
abbrev VL : Type := yzD
def wx (k0 : Int → Option R) (k1 : Unit → Option R) (again : VL → Option R) (t2 : VL) : Option R :=
 bif (decide (t2.2.1 < (List.length t2.2.2.2.2.2.2.1 : Int))) then if (0 : Int) ≤ t2.2.1 then if t2.2.1 < (List.length t2.2.2.2.2.2.2.1 : Int) then bif ((ByteArray.toList ((yi t2.2.2.2.2.2.2.1 t2.2.1).1)) == (ByteArray.toList t2.1)) then k0 t2.2.1 else again (t2.1, (Go.IntKind.wrap .i64 (t2.2.1 + (1 : Int))), t2.2.2.1, t2.2.2.2.1, t2.2.2.2.2.1, t2.2.2.2.2.2.1, t2.2.2.2.2.2.2.1, t2.2.2.2.2.2.2.2) else none else none else k1 ()
def y1a k0 k1 := zR (@wx R k0 k1) Yd
def zv (x : yuk) : Option Int :=
 y1a (fun x1 => some x1) (fun x2 => some (-1 : Int)) (x.2.2.2.2.2.2, (0 : Int), x.1, x.2.1, x.2.2.1, x.2.2.2.1, x.2.2.2.2.1, x.2.2.2.2.2.1)
def ylw : List QF := []
def y7E (t : yzD) : St := ⟨.dead :: vS t.1 :: .box 2 0 :: dd 2 (vI t.2.1 :: dd 16 []), [(2, .box [z3 t.2.2.1, yw t.2.2.2.1, zd t.2.2.2.2.1, yK t.2.2.2.2.2.1, zC t.2.2.2.2.2.2.1, vI t.2.2.2.2.2.2.2])]⟩
def yjG : Gk VL := fun κ => wx (fun t => κ none ⟨dd 4 (vI t :: dd 17 []), []⟩) (fun t => κ (some 0) ⟨dd 22 [], []⟩)
def ylx : Lp := lpC 2 (unG yzE y7E) @yjG lpN
theorem ysb : LF ylw ylx 143 2 Tryz.f143 0 y7E @yjG fun t => t := fun R κ again t => by kernel_rfl
theorem ysc : LK ylw ylx 143 Tryz.f143 0 := lkN (u := (unG yzE y7E)) (yq fun t => by kernel_rfl) ysb
theorem ywj : EV ylw ylx 143 Tryz.f143 yqe yul [(.int .i64)] zv := fun x => by kernel_rfl
def yjH : QF := ⟨143, zv, okN (n := 1) Tryz.func143 ⟨ysc, trivial⟩ ywj⟩
abbrev WC : Type := yzF
def WD (k0 : yBV → Option R) (again : WC → Option R) (t4 : WC) : Option R :=
 bif (decide (t4.2.2.2.2.1 < (List.length t4.1 : Int))) then Option.bind (bif (!t4.2.2.2.1) then if (0 : Int) ≤ t4.2.2.2.2.1 then if t4.2.2.2.2.1 < (List.length t4.1 : Int) then some (decide ((yA t4.1 t4.2.2.2.2.1).1 > t4.2.1)) else none else none else some false) fun u2 => bif u2 then if (List.length t4.2.2.2.2.2 + List.length ([(t4.2.1, t4.2.2.1)] : List y9)) * 16 < 140737488355328 then if (0 : Int) ≤ t4.2.2.2.2.1 then if t4.2.2.2.2.1 < (List.length t4.1 : Int) then if (List.length (t4.2.2.2.2.2 ++ ([(t4.2.1, t4.2.2.1)] : List y9)) + List.length ([((yA t4.1 t4.2.2.2.2.1).1, (yA t4.1 t4.2.2.2.2.1).2)] : List y9)) * 16 < 140737488355328 then again (t4.1, t4.2.1, t4.2.2.1, true, (Go.IntKind.wrap .i64 (t4.2.2.2.2.1 + (1 : Int))), ((t4.2.2.2.2.2 ++ ([(t4.2.1, t4.2.2.1)] : List y9)) ++ ([((yA t4.1 t4.2.2.2.2.1).1, (yA t4.1 t4.2.2.2.2.1).2)] : List y9))) else none else none else none else none else if (0 : Int) ≤ t4.2.2.2.2.1 then if t4.2.2.2.2.1 < (List.length t4.1 : Int) then if (List.length t4.2.2.2.2.2 + List.length ([((yA t4.1 t4.2.2.2.2.1).1, (yA t4.1 t4.2.2.2.2.1).2)] : List y9)) * 16 < 140737488355328 then again (t4.1, t4.2.1, t4.2.2.1, t4.2.2.2.1, (Go.IntKind.wrap .i64 (t4.2.2.2.2.1 + (1 : Int))), (t4.2.2.2.2.2 ++ ([((yA t4.1 t4.2.2.2.2.1).1, (yA t4.1 t4.2.2.2.2.1).2)] : List y9))) else none else none else none else k0 (t4.1, t4.2.1, t4.2.2.1, t4.2.2.2.1, t4.2.2.2.2.2)
def QR k0 := zR (@WD R k0) Yd
def jp (x : yuO) : Option ynX :=
 Option.bind (zQ (x.1, x.2.1)) fun r1 => QR (fun x3 => bif (!x3.2.2.2.1) then if (List.length x3.2.2.2.2 + List.length ([(x3.2.1, x3.2.2.1)] : List y9)) * 16 < 140737488355328 then Option.bind (zQ (x3.1, x3.2.1)) fun r4 => Option.bind (bif (decide (r4 ≥ (0 : Int))) then some true else Option.bind (Zi (x3.2.2.2.2 ++ ([(x3.2.1, x3.2.2.1)] : List y9))) fun r6 => some (!r6)) fun u5 => bif u5 then if (List.length ([] : List y9) + List.length x3.1) * 16 < 140737488355328 then some ((([] : List y9) ++ x3.1), false) else none else some ((x3.2.2.2.2 ++ ([(x3.2.1, x3.2.2.1)] : List y9)), true) else none else Option.bind (zQ (x3.1, x3.2.1)) fun r7 => Option.bind (bif (decide (r7 ≥ (0 : Int))) then some true else Option.bind (Zi x3.2.2.2.2) fun r9 => some (!r9)) fun u8 => bif u8 then if (List.length ([] : List y9) + List.length x3.1) * 16 < 140737488355328 then some ((([] : List y9) ++ x3.1), false) else none else some (x3.2.2.2.2, true)) (x.1, x.2.1, x.2.2, (decide (r1 ≥ (0 : Int))), (0 : Int), ([] : List y9))
def yly : List QF := [yw1, ynz]
def y7F (t : yzF) : St := ⟨zd t.1 :: vI t.2.1 :: vI t.2.2.1 :: dd 5 (.own 10000000 :: vB t.2.2.2.1 :: vI t.2.2.2.2.1 :: dd 56 []), [(10000000, .root true 67 yn t.2.2.2.2.2)]⟩
def yjI : Gk WC := fun κ => WD (fun t => κ (some 0) ⟨zd t.1 :: vI t.2.1 :: vI t.2.2.1 :: dd 5 (.own 10000000 :: vB t.2.2.2.1 :: dd 57 []), [(10000000, .root true 67 yn t.2.2.2.2)]⟩)
def ylz : Lp := lpC 4 (unG yzG y7F) @yjI lpN
theorem ysd : LF yly ylz 144 4 Tryz.f144 0 y7F @yjI fun t => t := fun R κ again t => by kernel_rfl
theorem yse : LK yly ylz 144 Tryz.f144 0 := lkN (u := (unG yzG y7F)) (yq fun t => by kernel_rfl) ysd
theorem ywk : EV yly ylz 144 Tryz.f144 yqf yuP yuQ jp := fun x => by kernel_rfl
def yBt : QF := ⟨144, jp, okN (n := 1) Tryz.func144 ⟨yse, trivial⟩ ywk⟩
abbrev J4 : Type := yuS
def J5 (k0 : yuS → Option R) (again : J4 → Option R) (t3 : J4) : Option R :=
 Option.bind (bif (decide (t3.1 > (0 : Int))) then if (0 : Int) ≤ (Go.IntKind.wrap .i64 (t3.1 - (1 : Int))) then if (Go.IntKind.wrap .i64 (t3.1 - (1 : Int))) < (List.length t3.2.2.2.2.2 : Int) then some (!(Go.Op.bytesLess (ByteArray.toList ((yi t3.2.2.2.2.2 (Go.IntKind.wrap .i64 (t3.1 - (1 : Int)))).1)) (ByteArray.toList t3.2.1) || (ByteArray.toList ((yi t3.2.2.2.2.2 (Go.IntKind.wrap .i64 (t3.1 - (1 : Int)))).1)) == (ByteArray.toList t3.2.1))) else none else none else some false) fun u1 => bif u1 then if (0 : Int) ≤ (Go.IntKind.wrap .i64 (t3.1 - (1 : Int))) then if (Go.IntKind.wrap .i64 (t3.1 - (1 : Int))) < (List.length t3.2.2.2.2.2 : Int) then if (0 : Int) ≤ t3.1 then if t3.1 < (List.length t3.2.2.2.2.2 : Int) then again ((Go.IntKind.wrap .i64 (t3.1 - (1 : Int))), t3.2.1, t3.2.2.1, t3.2.2.2.1, t3.2.2.2.2.1, (List.set t3.2.2.2.2.2 (Int.toNat t3.1) ((yi t3.2.2.2.2.2 (Go.IntKind.wrap .i64 (t3.1 - (1 : Int)))).1, (yi t3.2.2.2.2.2 (Go.IntKind.wrap .i64 (t3.1 - (1 : Int)))).2.1, (yi t3.2.2.2.2.2 (Go.IntKind.wrap .i64 (t3.1 - (1 : Int)))).2.2.1, (yi t3.2.2.2.2.2 (Go.IntKind.wrap .i64 (t3.1 - (1 : Int)))).2.2.2))) else none else none else none else none else k0 t3
def Vy k0 := zR (@J5 R k0) Yd
def Zb (x : yuT) : Option (List ye) :=
 if (List.length ([] : List ye) + List.length x.1) * 40 < 140737488355328 then if (List.length (([] : List ye) ++ x.1) + List.length ([x.2] : List ye)) * 40 < 140737488355328 then Vy (fun x2 => if (0 : Int) ≤ x2.1 then if x2.1 < (List.length x2.2.2.2.2.2 : Int) then some (List.set x2.2.2.2.2.2 (Int.toNat x2.1) (x2.2.1, x2.2.2.1, x2.2.2.2.1, x2.2.2.2.2.1)) else none else none) ((Go.IntKind.wrap .i64 (((List.length ((([] : List ye) ++ x.1) ++ ([x.2] : List ye)) : Nat) : Int) - (1 : Int))), x.2.1, x.2.2.1, x.2.2.2.1, x.2.2.2.2, ((([] : List ye) ++ x.1) ++ ([x.2] : List ye))) else none else none
def ylA : List QF := []
def y7G (t : yuS) : St := ⟨dd 3 (.box 3 0 :: .dead :: .own 10000000 :: vI t.1 :: dd 37 []), [(3, .box [vS t.2.1, vI t.2.2.1, vI t.2.2.2.1, vB t.2.2.2.2.1]), (10000000, .root true 41 yI t.2.2.2.2.2)]⟩
def yjJ : Gk J4 := fun κ => J5 (fun t => κ (some 0) ⟨dd 3 (.box 3 0 :: .dead :: .own 10000000 :: vI t.1 :: dd 37 []), [(3, .box [vS t.2.1, vI t.2.2.1, vI t.2.2.2.1, vB t.2.2.2.2.1]), (10000000, .root true 41 yI t.2.2.2.2.2)]⟩)
def ylB : Lp := lpC 3 (unG yzH y7G) @yjJ lpN
theorem ysf : LF ylA ylB 145 3 Tryz.f145 0 y7G @yjJ fun t => t := fun R κ again t => by kernel_rfl
theorem ysg : LK ylA ylB 145 Tryz.f145 0 := lkN (u := (unG yzH y7G)) (yq fun t => by kernel_rfl) ysf
theorem ywl : EV ylA ylB 145 Tryz.f145 yqg yuU [(.sl 41 yI)] Zb := fun x => by kernel_rfl
def yBu : QF := ⟨145, Zb, okN (n := 1) Tryz.func145 ⟨ysg, trivial⟩ ywl⟩
def yV (x : yBW) : Option yaV :=
 Option.bind (bif (!x.2.2.2.2.2.2.2.2.2.2.2.2) then some true else Option.bind (yL (x.2.2.2.2.2.2.1, x.2.2.2.2.2.2.2.1, x.2.2.2.2.2.2.2.2.1, x.2.2.2.2.2.2.2.2.2.1, x.2.2.2.2.2.2.2.2.2.2.1, x.2.2.2.2.2.2.2.2.2.2.2.1)) fun r2 => some (!r2)) fun u1 => bif u1 then Option.bind (ym (x.1, x.2.1, x.2.2.1, x.2.2.2.1, x.2.2.2.2.1, x.2.2.2.2.2.1)) fun r3 => some (r3.1, r3.2.1, r3.2.2.1, r3.2.2.2.1, r3.2.2.2.2.1, r3.2.2.2.2.2, (6 : Int)) else some (x.2.2.2.2.2.2.1, x.2.2.2.2.2.2.2.1, x.2.2.2.2.2.2.2.2.1, x.2.2.2.2.2.2.2.2.2.1, x.2.2.2.2.2.2.2.2.2.2.1, x.2.2.2.2.2.2.2.2.2.2.2.1, (0 : Int))
theorem ywm : EV [ylv, yg6] lpN 146 Tryz.f146 yqh yBX yaW yV := fun x => by kernel_rfl
def ynA : QF := ⟨146, yV, okN (n := 0) Tryz.func146 trivial ywm⟩
def JS (x : yum) : Option yaV :=
 Option.bind (ZG (x.1, x.2.1, x.2.2.1, x.2.2.2.1, x.2.2.2.2.1, x.2.2.2.2.2.1, x.2.2.2.2.2.2.1)) fun r1 => bif (r1 != (0 : Int)) then Option.bind (ym (x.1, x.2.1, x.2.2.1, x.2.2.2.1, x.2.2.2.2.1, x.2.2.2.2.2.1)) fun r2 => some (r2.1, r2.2.1, r2.2.2.1, r2.2.2.2.1, r2.2.2.2.2.1, r2.2.2.2.2.2, r1) else Option.bind (zv (x.1, x.2.1, x.2.2.1, x.2.2.2.1, x.2.2.2.2.1, x.2.2.2.2.2.1, x.2.2.2.2.2.2.1)) fun r3 => bif (decide (r3 ≥ (0 : Int))) then Option.bind (ym (x.1, x.2.1, x.2.2.1, x.2.2.2.1, x.2.2.2.2.1, x.2.2.2.2.2.1)) fun r4 => some (r4.1, r4.2.1, r4.2.2.1, r4.2.2.2.1, r4.2.2.2.2.1, r4.2.2.2.2.2, (3 : Int)) else Option.bind (yB (x.2.2.2.2.2.2.2, (1 : Int), (12 : Int))) fun r5 => bif (!r5) then Option.bind (ym (x.1, x.2.1, x.2.2.1, x.2.2.2.1, x.2.2.2.2.1, x.2.2.2.2.2.1)) fun r6 => some (r6.1, r6.2.1, r6.2.2.1, r6.2.2.2.1, r6.2.2.2.2.1, r6.2.2.2.2.2, (4 : Int)) else Option.bind (ym (x.1, x.2.1, x.2.2.1, x.2.2.2.1, x.2.2.2.2.1, x.2.2.2.2.2.1)) fun r7 => Option.bind (jp (x.2.2.1, x.2.2.2.2.2.1, (0 : Int))) fun r8 => Option.bind (Zb (x.2.2.2.2.1, x.2.2.2.2.2.2.1, x.2.2.2.2.2.1, x.2.2.2.2.2.2.2, false)) fun r9 => Option.bind (yV (x.1, x.2.1, x.2.2.1, x.2.2.2.1, x.2.2.2.2.1, x.2.2.2.2.2.1, r7.1, r7.2.1, r8.1, r7.2.2.2.1, r9, (Go.IntKind.wrap .i64 (x.2.2.2.2.2.1 + (1 : Int))), r8.2)) fun r10 => some r10
theorem ywn : EV [yg6, y7f, ywi, yjH, yBt, yBu, ynA] lpN 110 Tryz.f110 yqi yun yaW JS := fun x => by kernel_rfl
def yCB : QF := ⟨110, JS, okN (n := 0) Tryz.func110 trivial ywn⟩
def kP (x : yBY) : Option yaV :=
 Option.bind (ZG (x.1, x.2.1, x.2.2.1, x.2.2.2.1, x.2.2.2.2.1, x.2.2.2.2.2.1, x.2.2.2.2.2.2.1)) fun r1 => Option.bind (bif (r1 != (0 : Int)) then some true else Option.bind (Ys x.2.2.2.2.2.2.2.1) fun r3 => some (!r3)) fun u2 => bif u2 then Option.bind (ym (x.1, x.2.1, x.2.2.1, x.2.2.2.1, x.2.2.2.2.1, x.2.2.2.2.2.1)) fun r4 => some (r4.1, r4.2.1, r4.2.2.1, r4.2.2.2.1, r4.2.2.2.2.1, r4.2.2.2.2.2, (1 : Int)) else Option.bind (zv (x.1, x.2.1, x.2.2.1, x.2.2.2.1, x.2.2.2.2.1, x.2.2.2.2.2.1, x.2.2.2.2.2.2.1)) fun r5 => bif (decide (r5 < (0 : Int))) then Option.bind (ym (x.1, x.2.1, x.2.2.1, x.2.2.2.1, x.2.2.2.2.1, x.2.2.2.2.2.1)) fun r6 => some (r6.1, r6.2.1, r6.2.2.1, r6.2.2.2.1, r6.2.2.2.2.1, r6.2.2.2.2.2, (2 : Int)) else Option.bind (zv (x.1, x.2.1, x.2.2.1, x.2.2.2.1, x.2.2.2.2.1, x.2.2.2.2.2.1, x.2.2.2.2.2.2.2.1)) fun r7 => bif (decide (r7 ≥ (0 : Int))) then Option.bind (ym (x.1, x.2.1, x.2.2.1, x.2.2.2.1, x.2.2.2.2.1, x.2.2.2.2.2.1)) fun r8 => some (r8.1, r8.2.1, r8.2.2.1, r8.2.2.2.1, r8.2.2.2.2.1, r8.2.2.2.2.2, (3 : Int)) else Option.bind (ym (x.1, x.2.1, x.2.2.1, x.2.2.2.1, x.2.2.2.2.1, x.2.2.2.2.2.1)) fun r9 => Option.bind (zv (x.1, x.2.1, x.2.2.1, x.2.2.2.1, x.2.2.2.2.1, x.2.2.2.2.2.1, x.2.2.2.2.2.2.1)) fun r10 => if (0 : Int) ≤ r10 then if r10 < (List.length x.2.2.2.2.1 : Int) then Option.bind (jp (x.2.2.1, x.2.2.2.2.2.1, (yi x.2.2.2.2.1 r10).2.1)) fun r11 => if (0 : Int) ≤ r10 then if r10 < (List.length x.2.2.2.2.1 : Int) then Option.bind (jp (r11.1, (Go.IntKind.wrap .i64 (x.2.2.2.2.2.1 + (1 : Int))), (yi x.2.2.2.2.1 r10).2.1)) fun r12 => if (0 : Int) ≤ r10 then if r10 < (List.length r9.2.2.2.2.1 : Int) then if (0 : Int) ≤ r10 then if r10 < (List.length x.2.2.2.2.1 : Int) then Option.bind (Zb ((List.set r9.2.2.2.2.1 (Int.toNat r10) ((yi r9.2.2.2.2.1 r10).1, x.2.2.2.2.2.1, (yi r9.2.2.2.2.1 r10).2.2)), x.2.2.2.2.2.2.2.1, (Go.IntKind.wrap .i64 (x.2.2.2.2.2.1 + (1 : Int))), (yi x.2.2.2.2.1 r10).2.2.1, x.2.2.2.2.2.2.2.2)) fun r13 => Option.bind (bif r11.2 then some r12.2 else some false) fun u14 => Option.bind (yV (x.1, x.2.1, x.2.2.1, x.2.2.2.1, x.2.2.2.2.1, x.2.2.2.2.2.1, r9.1, r9.2.1, r12.1, r9.2.2.2.1, r13, (Go.IntKind.wrap .i64 (x.2.2.2.2.2.1 + (2 : Int))), u14)) fun r15 => some r15 else none else none else none else none else none else none else none else none
theorem ywo : EV [yg6, yuw, ywi, yjH, yBt, yBu, ynA] lpN 111 Tryz.f111 yqj yBZ yaW kP := fun x => by kernel_rfl
def yCC : QF := ⟨111, kP, okN (n := 0) Tryz.func111 trivial ywo⟩
def JT (x : yuk) : Option Int :=
 Option.bind (ZG x) fun r1 => Option.bind (bif (r1 == (0 : Int)) then Option.bind (zv x) fun r3 => some (decide (r3 < (0 : Int))) else some false) fun u2 => bif u2 then some (2 : Int) else some r1
theorem ywp : EV [ywi, yjH] lpN 147 Tryz.f147 yqk yul [(.int .i64)] JT := fun x => by kernel_rfl
def yBv : QF := ⟨147, JT, okN (n := 0) Tryz.func147 trivial ywp⟩
def kQ (x : yuk) : Option yaV :=
 Option.bind (ym (x.1, x.2.1, x.2.2.1, x.2.2.2.1, x.2.2.2.2.1, x.2.2.2.2.2.1)) fun r1 => Option.bind (JT x) fun r2 => bif (r2 != (0 : Int)) then some (r1.1, r1.2.1, r1.2.2.1, r1.2.2.2.1, r1.2.2.2.2.1, r1.2.2.2.2.2, r2) else Option.bind (zv x) fun r3 => if (0 : Int) ≤ (0 : Int) then if (0 : Int) ≤ r3 then if r3 ≤ (List.length x.2.2.2.2.1 : Int) then if (List.length ([] : List ye) + List.length (List.drop (Int.toNat (0 : Int)) (List.take (Int.toNat r3) x.2.2.2.2.1))) * 40 < 140737488355328 then if (0 : Int) ≤ (Go.IntKind.wrap .i64 (r3 + (1 : Int))) then if (Go.IntKind.wrap .i64 (r3 + (1 : Int))) ≤ (List.length x.2.2.2.2.1 : Int) then if (List.length x.2.2.2.2.1 : Int) ≤ (List.length x.2.2.2.2.1 : Int) then if (List.length (([] : List ye) ++ (List.drop (Int.toNat (0 : Int)) (List.take (Int.toNat r3) x.2.2.2.2.1))) + List.length (List.drop (Int.toNat (Go.IntKind.wrap .i64 (r3 + (1 : Int)))) (List.take (Int.toNat (List.length x.2.2.2.2.1 : Int)) x.2.2.2.2.1))) * 40 < 140737488355328 then Option.bind (yV (x.1, x.2.1, x.2.2.1, x.2.2.2.1, x.2.2.2.2.1, x.2.2.2.2.2.1, r1.1, r1.2.1, r1.2.2.1, r1.2.2.2.1, ((([] : List ye) ++ (List.drop (Int.toNat (0 : Int)) (List.take (Int.toNat r3) x.2.2.2.2.1))) ++ (List.drop (Int.toNat (Go.IntKind.wrap .i64 (r3 + (1 : Int)))) (List.take (Int.toNat (List.length x.2.2.2.2.1 : Int)) x.2.2.2.2.1))), r1.2.2.2.2.2, true)) fun r4 => some r4 else none else none else none else none else none else none else none else none
theorem ywq : EV [yg6, yjH, ynA, yBv] lpN 112 Tryz.f112 yql yul yaW kQ := fun x => by kernel_rfl
def yCD : QF := ⟨112, kQ, okN (n := 0) Tryz.func112 trivial ywq⟩
def Z3 (x : yum) : Option Int :=
 Option.bind (JT (x.1, x.2.1, x.2.2.1, x.2.2.2.1, x.2.2.2.2.1, x.2.2.2.2.2.1, x.2.2.2.2.2.2.1)) fun r1 => bif (r1 != (0 : Int)) then some r1 else Option.bind (zv (x.1, x.2.1, x.2.2.1, x.2.2.2.1, x.2.2.2.2.1, x.2.2.2.2.2.1, x.2.2.2.2.2.2.1)) fun r2 => if (0 : Int) ≤ r2 then if r2 < (List.length x.2.2.2.2.1 : Int) then bif (yi x.2.2.2.2.1 r2).2.2.2 then some (5 : Int) else Option.bind (zv (x.1, x.2.1, x.2.2.1, x.2.2.2.1, x.2.2.2.2.1, x.2.2.2.2.2.1, x.2.2.2.2.2.2.1)) fun r3 => if (0 : Int) ≤ r3 then if r3 < (List.length x.2.2.2.2.1 : Int) then Option.bind (yB (x.2.2.2.2.2.2.2, (0 : Int), (Go.IntKind.wrap .i64 ((yi x.2.2.2.2.1 r3).2.2.1 - (1 : Int))))) fun r4 => bif (!r4) then some (4 : Int) else some (0 : Int) else none else none else none else none
theorem ywr : EV [y7f, yjH, yBv] lpN 148 Tryz.f148 yqm yun [(.int .i64)] Z3 := fun x => by kernel_rfl
def yws : QF := ⟨148, Z3, okN (n := 0) Tryz.func148 trivial ywr⟩
abbrev JU : Type := yzI
def zK (k0 : yC0 → Option R) (k1 : List y8 → Option R) (again : JU → Option R) (t3 : JU) : Option R :=
 Option.bind (bif (decide (t3.2.2.1 < (List.length t3.1 : Int))) then Option.bind (ZF t3.1) fun r3 => some r3 else some false) fun u2 => Option.bind (bif u2 then Option.bind (zy t3.2.1) fun r5 => some r5 else some false) fun u4 => bif u4 then if (0 : Int) ≤ t3.2.2.1 then if t3.2.2.1 < (List.length t3.1 : Int) then bif (!((yG t3.1 t3.2.2.1).2.1)) then if (0 : Int) ≤ t3.2.2.1 then if t3.2.2.1 < (List.length t3.2.2.2 : Int) then if (0 : Int) ≤ t3.2.2.1 then if t3.2.2.1 < ((List.length (List.set t3.2.2.2 (Int.toNat t3.2.2.1) ((yG t3.2.2.2 t3.2.2.1).1, true, (yG t3.2.2.2 t3.2.2.1).2.2)) : Nat) : Int) then k0 (t3.2.2.1, true, (List.set (List.set t3.2.2.2 (Int.toNat t3.2.2.1) ((yG t3.2.2.2 t3.2.2.1).1, true, (yG t3.2.2.2 t3.2.2.1).2.2)) (Int.toNat t3.2.2.1) ((yG (List.set t3.2.2.2 (Int.toNat t3.2.2.1) ((yG t3.2.2.2 t3.2.2.1).1, true, (yG t3.2.2.2 t3.2.2.1).2.2)) t3.2.2.1).1, (yG (List.set t3.2.2.2 (Int.toNat t3.2.2.1) ((yG t3.2.2.2 t3.2.2.1).1, true, (yG t3.2.2.2 t3.2.2.1).2.2)) t3.2.2.1).2.1, t3.2.1))) else none else none else none else none else again (t3.1, t3.2.1, (Go.IntKind.wrap .i64 (t3.2.2.1 + (1 : Int))), t3.2.2.2) else none else none else k1 t3.2.2.2
def kR k0 k1 := zR (@zK R k0 k1) Yd
def Y6 (x : ynY) : Option yC1 :=
 Option.bind (Y5 x.1) fun r1 => kR (fun x6 => some (x6.2.2, x6.1, x6.2.1)) (fun x7 => some (x7, (0 : Int), false)) (x.1, x.2, (0 : Int), r1)
def ylC : List QF := [yux, yw3, ywf]
def y7H (t : yzI) : St := ⟨yK t.1 :: vI t.2.1 :: dd 5 (.own 10000000 :: vI t.2.2.1 :: dd 34 []), [(10000000, .root true 53 yj t.2.2.2)]⟩
def yjK : Gk JU := fun κ => zK (fun t => κ none ⟨dd 4 (.own 10000000 :: vI t.1 :: vB t.2.1 :: .own 10000000 :: dd 35 []), [(10000000, .root true 53 yj t.2.2)]⟩) (fun t => κ (some 0) ⟨dd 7 (.own 10000000 :: dd 35 []), [(10000000, .root true 53 yj t)]⟩)
def ylD : Lp := lpC 3 (unG yzJ y7H) @yjK lpN
theorem ysh : LF ylC ylD 149 3 Tryz.f149 0 y7H @yjK fun t => t := fun R κ again t => by kernel_rfl
theorem ysi : LK ylC ylD 149 Tryz.f149 0 := lkN (u := (unG yzJ y7H)) (yq fun t => by kernel_rfl) ysh
theorem ywt : EV ylC ylD 149 Tryz.f149 yqn ynZ yC2 Y6 := fun x => by kernel_rfl
def yBw : QF := ⟨149, Y6, okN (n := 1) Tryz.func149 ⟨ysi, trivial⟩ ywt⟩
abbrev wQ : Type := yzK
def wR (k0 : Int → Option R) (again : wQ → Option R) (t3 : wQ) : Option R :=
 bif (decide (t3.2.2.2.1 < (List.length t3.2.2.2.2.1 : Int))) then if (0 : Int) ≤ t3.2.2.2.1 then if t3.2.2.2.1 < (List.length t3.2.2.2.2.1 : Int) then Option.bind (JP (t3.1, t3.2.1)) fun r1 => bif (decide ((zu t3.2.2.2.2.1 t3.2.2.2.1) ≤ r1)) then again (t3.1, t3.2.1, t3.2.2.2.1, (Go.IntKind.wrap .i64 (t3.2.2.2.1 + (1 : Int))), t3.2.2.2.2.1, t3.2.2.2.2.2) else again (t3.1, t3.2.1, t3.2.2.1, (Go.IntKind.wrap .i64 (t3.2.2.2.1 + (1 : Int))), t3.2.2.2.2.1, t3.2.2.2.2.2) else none else none else k0 t3.2.2.1
def Qg k0 := zR (@wR R k0) Yd
def jV (x : yuo) : Option Int :=
 Qg (fun x2 => some x2) (x.2.2.1, x.2.2.2, (-1 : Int), (0 : Int), x.1, x.2.1)
def ylE : List QF := [yBp]
def y7I (t : yzK) : St := ⟨.dead :: vI t.1 :: vI t.2.1 :: .box 3 0 :: dd 3 (vI t.2.2.1 :: vI t.2.2.2.1 :: dd 18 []), [(3, .box [z3 t.2.2.2.2.1, yw t.2.2.2.2.2])]⟩
def yjL : Gk wQ := fun κ => wR (fun t => κ (some 0) ⟨dd 7 (vI t :: dd 19 []), []⟩)
def ylF : Lp := lpC 3 (unG yzL y7I) @yjL lpN
theorem ysj : LF ylE ylF 181 3 Tryz.f181 0 y7I @yjL fun t => t := fun R κ again t => by kernel_rfl
theorem ysk : LK ylE ylF 181 Tryz.f181 0 := lkN (u := (unG yzL y7I)) (yq fun t => by kernel_rfl) ysj
theorem ywu : EV ylE ylF 181 Tryz.f181 yqo yup [(.int .i64)] jV := fun x => by kernel_rfl
def yBx : QF := ⟨181, jV, okN (n := 1) Tryz.func181 ⟨ysk, trivial⟩ ywu⟩
abbrev VM : Type := yzM
def wy (k0 : yuq → Option R) (k1 : yhi → Option R) (again : VM → Option R) (t2 : VM) : Option R :=
 bif (decide (t2.2.2.2.1 < (List.length t2.1 : Int))) then if (0 : Int) ≤ t2.2.2.2.1 then if t2.2.2.2.1 < (List.length t2.1 : Int) then Option.bind (bif ((y6 t2.1 t2.2.2.2.1).1 == t2.2.1) then if (0 : Int) ≤ t2.2.2.2.1 then if t2.2.2.2.1 < (List.length t2.1 : Int) then some ((y6 t2.1 t2.2.2.2.1).2.1 == t2.2.2.1) else none else none else some false) fun u1 => bif u1 then if (0 : Int) ≤ t2.2.2.2.1 then if t2.2.2.2.1 < (List.length t2.1 : Int) then k0 (true, (y6 t2.1 t2.2.2.2.1).1, (y6 t2.1 t2.2.2.2.1).2.1, (y6 t2.1 t2.2.2.2.1).2.2.1, (y6 t2.1 t2.2.2.2.1).2.2.2.1, (y6 t2.1 t2.2.2.2.1).2.2.2.2) else none else none else again (t2.1, t2.2.1, t2.2.2.1, (Go.IntKind.wrap .i64 (t2.2.2.2.1 + (1 : Int))), t2.2.2.2.2.1, t2.2.2.2.2.2.1, t2.2.2.2.2.2.2.1, t2.2.2.2.2.2.2.2.1, t2.2.2.2.2.2.2.2.2) else none else none else k1 t2.2.2.2.2
def y1b k0 k1 := zR (@wy R k0 k1) Yd
def Wf (x : yzO) : Option yeQ :=
 y1b (fun x2 => some (x2.2.1, x2.2.2.1, x2.2.2.2.1, x2.2.2.2.2.1, x2.2.2.2.2.2, x2.1)) (fun x3 => some ((0 : Int), (0 : Int), (0 : Int), (0 : Int), (0 : Int), false)) (x.1, x.2.1, x.2.2, (0 : Int), (0 : Int), (0 : Int), (0 : Int), (0 : Int), (0 : Int))
def ylG : List QF := []
def y7J (t : yzM) : St := ⟨Qt t.1 :: vI t.2.1 :: vI t.2.2.1 :: dd 3 (.box 6 0 :: .dead :: vI t.2.2.2.1 :: dd 27 []), [(6, .box [vI t.2.2.2.2.1, vI t.2.2.2.2.2.1, vI t.2.2.2.2.2.2.1, vI t.2.2.2.2.2.2.2.1, vI t.2.2.2.2.2.2.2.2])]⟩
def yjM : Gk VM := fun κ => wy (fun t => κ none ⟨dd 6 (.box 6 0 :: vB t.1 :: dd 28 []), [(6, .box [vI t.2.1, vI t.2.2.1, vI t.2.2.2.1, vI t.2.2.2.2.1, vI t.2.2.2.2.2])]⟩) (fun t => κ (some 0) ⟨dd 6 (.box 6 0 :: dd 29 []), [(6, .box [vI t.1, vI t.2.1, vI t.2.2.1, vI t.2.2.2.1, vI t.2.2.2.2])]⟩)
def ylH : Lp := lpC 2 (unG yzN y7J) @yjM lpN
theorem ysl : LF ylG ylH 200 2 Tryz.f200 0 y7J @yjM fun t => t := fun R κ again t => by kernel_rfl
theorem ysm : LK ylG ylH 200 Tryz.f200 0 := lkN (u := (unG yzN y7J)) (yq fun t => by kernel_rfl) ysl
theorem ywv : EV ylG ylH 200 Tryz.f200 yqp yzP yeR Wf := fun x => by kernel_rfl
def yBy : QF := ⟨200, Wf, okN (n := 1) Tryz.func200 ⟨ysm, trivial⟩ ywv⟩
abbrev WE : Type := yur
def WF (k0 : yuq → Option R) (k1 : yhi → Option R) (again : WE → Option R) (t2 : WE) : Option R :=
 bif (decide (t2.2.2.1 ≥ (0 : Int))) then if (0 : Int) ≤ t2.2.2.1 then if t2.2.2.1 < (List.length t2.2.2.2.1 : Int) then Option.bind (Wf ((yp t2.2.2.2.1 t2.2.2.1), t2.1, t2.2.1)) fun r1 => Option.bind (bif r1.2.2.2.2.2 then some (r1.2.2.1 == (0 : Int)) else some false) fun u2 => bif u2 then k0 (false, (0 : Int), (0 : Int), (0 : Int), (0 : Int), (0 : Int)) else bif r1.2.2.2.2.2 then k0 (true, r1.1, r1.2.1, r1.2.2.1, r1.2.2.2.1, r1.2.2.2.2.1) else again (t2.1, t2.2.1, (Go.IntKind.wrap .i64 (t2.2.2.1 - (1 : Int))), t2.2.2.2.1, t2.2.2.2.2.1, t2.2.2.2.2.2.1, t2.2.2.2.2.2.2.1, t2.2.2.2.2.2.2.2.1, t2.2.2.2.2.2.2.2.2) else none else none else k1 t2.2.2.2.2
def QS k0 k1 := zR (@WF R k0 k1) Yd
def WG (x : ykK) : Option yeQ :=
 QS (fun x3 => some (x3.2.1, x3.2.2.1, x3.2.2.2.1, x3.2.2.2.2.1, x3.2.2.2.2.2, x3.1)) (fun x4 => some ((0 : Int), (0 : Int), (0 : Int), (0 : Int), (0 : Int), false)) (x.2.1, x.2.2, (Go.IntKind.wrap .i64 ((List.length x.1 : Int) - (1 : Int))), x.1, (0 : Int), (0 : Int), (0 : Int), (0 : Int), (0 : Int))
def ylI : List QF := [yBy]
def y7K (t : yur) : St := ⟨.dead :: vI t.1 :: vI t.2.1 :: .box 3 0 :: dd 2 (.box 6 0 :: .dead :: vI t.2.2.1 :: dd 31 []), [(3, .box [YQ t.2.2.2.1]), (6, .box [vI t.2.2.2.2.1, vI t.2.2.2.2.2.1, vI t.2.2.2.2.2.2.1, vI t.2.2.2.2.2.2.2.1, vI t.2.2.2.2.2.2.2.2])]⟩
def yjN : Gk WE := fun κ => WF (fun t => κ none ⟨dd 6 (.box 6 0 :: vB t.1 :: dd 32 []), [(6, .box [vI t.2.1, vI t.2.2.1, vI t.2.2.2.1, vI t.2.2.2.2.1, vI t.2.2.2.2.2])]⟩) (fun t => κ (some 0) ⟨dd 6 (.box 6 0 :: dd 33 []), [(6, .box [vI t.1, vI t.2.1, vI t.2.2.1, vI t.2.2.2.1, vI t.2.2.2.2])]⟩)
def ylJ : Lp := lpC 2 (unG yus y7K) @yjN lpN
theorem ysn : LF ylI ylJ 182 2 Tryz.f182 0 y7K @yjN fun t => t := fun R κ again t => by kernel_rfl
theorem yso : LK ylI ylJ 182 Tryz.f182 0 := lkN (u := (unG yus y7K)) (yq fun t => by kernel_rfl) ysn
theorem yww : EV ylI ylJ 182 Tryz.f182 yqq yut yeR WG := fun x => by kernel_rfl
def yCE : QF := ⟨182, WG, okN (n := 1) Tryz.func182 ⟨yso, trivial⟩ yww⟩
def jq (x : yuo) : Option yeQ :=
 Option.bind (jV x) fun r1 => Option.bind (yB (r1, (0 : Int), (Go.IntKind.wrap .i64 ((List.length x.2.1 : Int) - (1 : Int))))) fun r2 => bif (!r2) then some ((0 : Int), (0 : Int), (0 : Int), (0 : Int), (0 : Int), false) else if (0 : Int) ≤ r1 then if r1 < (List.length x.2.1 : Int) then Option.bind (WG ((yf x.2.1 r1), x.2.2.1, x.2.2.2)) fun r3 => some r3 else none else none
theorem ywx : EV [y7f, yBx, yCE] lpN 166 Tryz.f166 yqr yup yeR jq := fun x => by kernel_rfl
def ywy : QF := ⟨166, jq, okN (n := 0) Tryz.func166 trivial ywx⟩
def yY (x : List y7) : Option (List ya) :=
 bif ((List.length x : Int) == (0 : Int)) then some ([] : List ya) else if (List.length ([] : List y7) + List.length x) * 40 < 140737488355328 then some ([(([] : List y7) ++ x)] : List ya) else none
theorem ywz : EV [] lpN 188 Tryz.f188 yqs [(.sl 63 yh)] [(.sl 58 yt)] yY := fun x => by kernel_rfl
def yuy : QF := ⟨188, yY, okN (n := 0) Tryz.func188 trivial ywz⟩
def wz (x : yuV) : Option yzQ :=
 Option.bind (zo x.1) fun r1 => bif (decide ((Go.IntKind.wrap .i64 ((List.length r1 : Int) - (1 : Int))) ≥ (0 : Int))) then if (0 : Int) ≤ (Go.IntKind.wrap .i64 ((List.length r1 : Int) - (1 : Int))) then if (Go.IntKind.wrap .i64 ((List.length r1 : Int) - (1 : Int))) < (List.length r1 : Int) then Option.bind (Wf ((yp r1 (Go.IntKind.wrap .i64 ((List.length r1 : Int) - (1 : Int)))), x.2.1, x.2.2.1)) fun r2 => Option.bind (bif (decide ((Go.IntKind.wrap .i64 ((List.length r1 : Int) - (1 : Int))) ≥ (0 : Int))) then if (0 : Int) ≤ (Go.IntKind.wrap .i64 ((List.length r1 : Int) - (1 : Int))) then if (Go.IntKind.wrap .i64 ((List.length r1 : Int) - (1 : Int))) < (List.length r1 : Int) then Option.bind (bif (decide (((List.length (yp r1 (Go.IntKind.wrap .i64 ((List.length r1 : Int) - (1 : Int)))) : Nat) : Int) < (4 : Int))) then some true else some r2.2.2.2.2.2) fun u4 => some u4 else none else none else some false) fun u3 => bif u3 then if (0 : Int) ≤ (Go.IntKind.wrap .i64 ((List.length r1 : Int) - (1 : Int))) then if (Go.IntKind.wrap .i64 ((List.length r1 : Int) - (1 : Int))) < (List.length r1 : Int) then Option.bind (zJ ((yp r1 (Go.IntKind.wrap .i64 ((List.length r1 : Int) - (1 : Int)))), x.2.1, x.2.2.1, x.2.2.2.1, x.2.2.2.2.1, x.2.2.2.2.2)) fun r5 => if (0 : Int) ≤ (Go.IntKind.wrap .i64 ((List.length r1 : Int) - (1 : Int))) then if (Go.IntKind.wrap .i64 ((List.length r1 : Int) - (1 : Int))) < (List.length r1 : Int) then Option.bind (zz (List.set r1 (Int.toNat (Go.IntKind.wrap .i64 ((List.length r1 : Int) - (1 : Int)))) r5)) fun r6 => bif r6 then some ((List.set r1 (Int.toNat (Go.IntKind.wrap .i64 ((List.length r1 : Int) - (1 : Int)))) r5), true) else Option.bind (yC x.1) fun r7 => Option.bind (zJ (r7, x.2)) fun r8 => Option.bind (Y4 r8) fun r9 => bif (decide ((List.length r9 : Int) > (8 : Int))) then Option.bind (zo x.1) fun r10 => some (r10, false) else Option.bind (yY r9) fun r11 => Option.bind (zz r11) fun r12 => bif (!r12) then Option.bind (zo x.1) fun r13 => some (r13, false) else Option.bind (yY r9) fun r14 => some (r14, true) else none else none else none else none else if (List.length r1 + List.length ([([x.2] : List y7)] : List ya)) * 24 < 140737488355328 then Option.bind (zz (r1 ++ ([([x.2] : List y7)] : List ya))) fun r15 => bif r15 then some ((r1 ++ ([([x.2] : List y7)] : List ya)), true) else Option.bind (yC x.1) fun r16 => Option.bind (zJ (r16, x.2)) fun r17 => Option.bind (Y4 r17) fun r18 => bif (decide ((List.length r18 : Int) > (8 : Int))) then Option.bind (zo x.1) fun r19 => some (r19, false) else Option.bind (yY r18) fun r20 => Option.bind (zz r20) fun r21 => bif (!r21) then Option.bind (zo x.1) fun r22 => some (r22, false) else Option.bind (yY r18) fun r23 => some (r23, true) else none else none else none else Option.bind (bif (decide ((Go.IntKind.wrap .i64 ((List.length r1 : Int) - (1 : Int))) ≥ (0 : Int))) then if (0 : Int) ≤ (Go.IntKind.wrap .i64 ((List.length r1 : Int) - (1 : Int))) then if (Go.IntKind.wrap .i64 ((List.length r1 : Int) - (1 : Int))) < (List.length r1 : Int) then Option.bind (bif (decide (((List.length (yp r1 (Go.IntKind.wrap .i64 ((List.length r1 : Int) - (1 : Int)))) : Nat) : Int) < (4 : Int))) then some true else some false) fun u25 => some u25 else none else none else some false) fun u24 => bif u24 then if (0 : Int) ≤ (Go.IntKind.wrap .i64 ((List.length r1 : Int) - (1 : Int))) then if (Go.IntKind.wrap .i64 ((List.length r1 : Int) - (1 : Int))) < (List.length r1 : Int) then Option.bind (zJ ((yp r1 (Go.IntKind.wrap .i64 ((List.length r1 : Int) - (1 : Int)))), x.2.1, x.2.2.1, x.2.2.2.1, x.2.2.2.2.1, x.2.2.2.2.2)) fun r26 => if (0 : Int) ≤ (Go.IntKind.wrap .i64 ((List.length r1 : Int) - (1 : Int))) then if (Go.IntKind.wrap .i64 ((List.length r1 : Int) - (1 : Int))) < (List.length r1 : Int) then Option.bind (zz (List.set r1 (Int.toNat (Go.IntKind.wrap .i64 ((List.length r1 : Int) - (1 : Int)))) r26)) fun r27 => bif r27 then some ((List.set r1 (Int.toNat (Go.IntKind.wrap .i64 ((List.length r1 : Int) - (1 : Int)))) r26), true) else Option.bind (yC x.1) fun r28 => Option.bind (zJ (r28, x.2)) fun r29 => Option.bind (Y4 r29) fun r30 => bif (decide ((List.length r30 : Int) > (8 : Int))) then Option.bind (zo x.1) fun r31 => some (r31, false) else Option.bind (yY r30) fun r32 => Option.bind (zz r32) fun r33 => bif (!r33) then Option.bind (zo x.1) fun r34 => some (r34, false) else Option.bind (yY r30) fun r35 => some (r35, true) else none else none else none else none else if (List.length r1 + List.length ([([x.2] : List y7)] : List ya)) * 24 < 140737488355328 then Option.bind (zz (r1 ++ ([([x.2] : List y7)] : List ya))) fun r36 => bif r36 then some ((r1 ++ ([([x.2] : List y7)] : List ya)), true) else Option.bind (yC x.1) fun r37 => Option.bind (zJ (r37, x.2)) fun r38 => Option.bind (Y4 r38) fun r39 => bif (decide ((List.length r39 : Int) > (8 : Int))) then Option.bind (zo x.1) fun r40 => some (r40, false) else Option.bind (yY r39) fun r41 => Option.bind (zz r41) fun r42 => bif (!r42) then Option.bind (zo x.1) fun r43 => some (r43, false) else Option.bind (yY r39) fun r44 => some (r44, true) else none
theorem ywA : EV [yBs, yBo, ylb, yvO, yvR, yuy, yBy] lpN 184 Tryz.f184 yqt yuW yzR wz := fun x => by kernel_rfl
def yCF : QF := ⟨184, wz, okN (n := 0) Tryz.func184 trivial ywA⟩
def Jj (x : yC3) : Option Qz8 :=
 if (0 : Int) ≤ (0 : Int) then if (0 : Int) ≤ x.2.2.1 then if x.2.2.1 ≤ (List.length x.1 : Int) then if (List.length ([] : List yc) + List.length (List.drop (Int.toNat (0 : Int)) (List.take (Int.toNat x.2.2.1) x.1))) * 8 < 140737488355328 then if (List.length (([] : List yc) ++ (List.drop (Int.toNat (0 : Int)) (List.take (Int.toNat x.2.2.1) x.1))) + List.length x.2.2.2.1) * 8 < 140737488355328 then if (0 : Int) ≤ (Go.IntKind.wrap .i64 (x.2.2.1 + (1 : Int))) then if (Go.IntKind.wrap .i64 (x.2.2.1 + (1 : Int))) ≤ (List.length x.1 : Int) then if (List.length x.1 : Int) ≤ (List.length x.1 : Int) then if (List.length ((([] : List yc) ++ (List.drop (Int.toNat (0 : Int)) (List.take (Int.toNat x.2.2.1) x.1))) ++ x.2.2.2.1) + List.length (List.drop (Int.toNat (Go.IntKind.wrap .i64 (x.2.2.1 + (1 : Int)))) (List.take (Int.toNat (List.length x.1 : Int)) x.1))) * 8 < 140737488355328 then if (0 : Int) ≤ (0 : Int) then if (0 : Int) ≤ x.2.2.1 then if x.2.2.1 ≤ (List.length x.2.1 : Int) then if (List.length ([] : List y0) + List.length (List.drop (Int.toNat (0 : Int)) (List.take (Int.toNat x.2.2.1) x.2.1))) * 24 < 140737488355328 then if (List.length (([] : List y0) ++ (List.drop (Int.toNat (0 : Int)) (List.take (Int.toNat x.2.2.1) x.2.1))) + List.length x.2.2.2.2) * 24 < 140737488355328 then if (0 : Int) ≤ (Go.IntKind.wrap .i64 (x.2.2.1 + (1 : Int))) then if (Go.IntKind.wrap .i64 (x.2.2.1 + (1 : Int))) ≤ (List.length x.2.1 : Int) then if (List.length x.2.1 : Int) ≤ (List.length x.2.1 : Int) then if (List.length ((([] : List y0) ++ (List.drop (Int.toNat (0 : Int)) (List.take (Int.toNat x.2.2.1) x.2.1))) ++ x.2.2.2.2) + List.length (List.drop (Int.toNat (Go.IntKind.wrap .i64 (x.2.2.1 + (1 : Int)))) (List.take (Int.toNat (List.length x.2.1 : Int)) x.2.1))) * 24 < 140737488355328 then some ((((([] : List yc) ++ (List.drop (Int.toNat (0 : Int)) (List.take (Int.toNat x.2.2.1) x.1))) ++ x.2.2.2.1) ++ (List.drop (Int.toNat (Go.IntKind.wrap .i64 (x.2.2.1 + (1 : Int)))) (List.take (Int.toNat (List.length x.1 : Int)) x.1))), (((([] : List y0) ++ (List.drop (Int.toNat (0 : Int)) (List.take (Int.toNat x.2.2.1) x.2.1))) ++ x.2.2.2.2) ++ (List.drop (Int.toNat (Go.IntKind.wrap .i64 (x.2.2.1 + (1 : Int)))) (List.take (Int.toNat (List.length x.2.1 : Int)) x.2.1)))) else none else none else none else none else none else none else none else none else none else none else none else none else none else none else none else none else none else none
theorem ywB : EV [] lpN 185 Tryz.f185 yqu yC4 qz8 Jj := fun x => by kernel_rfl
def yCG : QF := ⟨185, Jj, okN (n := 0) Tryz.func185 trivial ywB⟩
abbrev vO : Type := yaU
def WH (k0 : Int → Option R) (k1 : Unit → Option R) (again : vO → Option R) (t2 : vO) : Option R :=
 bif (decide ((Go.IntKind.wrap .i64 (t2.1 + (1 : Int))) < (List.length t2.2.2 : Int))) then if (0 : Int) ≤ t2.1 then if t2.1 < (List.length t2.2.2 : Int) then Option.bind (yC (yf t2.2.2 t2.1)) fun r1 => if (0 : Int) ≤ (Go.IntKind.wrap .i64 (t2.1 + (1 : Int))) then if (Go.IntKind.wrap .i64 (t2.1 + (1 : Int))) < (List.length t2.2.2 : Int) then Option.bind (yC (yf t2.2.2 (Go.IntKind.wrap .i64 (t2.1 + (1 : Int))))) fun r2 => bif (decide ((Go.IntKind.wrap .i64 ((List.length r1 : Int) + (List.length r2 : Int))) ≤ (6 : Int))) then k0 t2.1 else again ((Go.IntKind.wrap .i64 (t2.1 + (1 : Int))), t2.2.1, t2.2.2) else none else none else none else none else k1 ()
def QT k0 k1 := zR (@WH R k0 k1) Yd
def JV (x : Qz8) : Option Int :=
 QT (fun x3 => some x3) (fun x4 => some (-1 : Int)) ((0 : Int), x.1, x.2)
def ylK : List QF := [ylb]
def y7L (t : yaU) : St := ⟨.dead :: .box 1 0 :: .dead :: vI t.1 :: dd 26 [], [(1, .box [z3 t.2.1, yw t.2.2])]⟩
def yjO : Gk vO := fun κ => WH (fun t => κ none ⟨dd 2 (vI t :: dd 27 []), []⟩) (fun t => κ (some 0) ⟨dd 30 [], []⟩)
def ylL : Lp := lpC 2 (unG yhk y7L) @yjO lpN
theorem ysp : LF ylK ylL 203 2 Tryz.f203 0 y7L @yjO fun t => t := fun R κ again t => by kernel_rfl
theorem ysq : LK ylK ylL 203 Tryz.f203 0 := lkN (u := (unG yhk y7L)) (yq fun t => by kernel_rfl) ysp
theorem ywC : EV ylK ylL 203 Tryz.f203 yqv qz8 [(.int .i64)] JV := fun x => by kernel_rfl
def yCH : QF := ⟨203, JV, okN (n := 1) Tryz.func203 ⟨ysq, trivial⟩ ywC⟩
abbrev vP : Type := yaU
def WI (k0 : Qz8 → Option R) (again : vP → Option R) (t2 : vP) : Option R :=
 bif (decide (t2.1 ≥ (0 : Int))) then if (0 : Int) ≤ t2.1 then if t2.1 < (List.length t2.2.2 : Int) then Option.bind (yC (yf t2.2.2 t2.1)) fun r2 => if (0 : Int) ≤ (Go.IntKind.wrap .i64 (t2.1 + (1 : Int))) then if (Go.IntKind.wrap .i64 (t2.1 + (1 : Int))) < (List.length t2.2.2 : Int) then Option.bind (yC (yf t2.2.2 (Go.IntKind.wrap .i64 (t2.1 + (1 : Int))))) fun r3 => if (List.length r2 + List.length r3) * 40 < 140737488355328 then if (0 : Int) ≤ (0 : Int) then if (0 : Int) ≤ (Go.IntKind.wrap .i64 (t2.1 + (1 : Int))) then if (Go.IntKind.wrap .i64 (t2.1 + (1 : Int))) ≤ (List.length t2.2.1 : Int) then if (List.length ([] : List yc) + List.length (List.drop (Int.toNat (0 : Int)) (List.take (Int.toNat (Go.IntKind.wrap .i64 (t2.1 + (1 : Int)))) t2.2.1))) * 8 < 140737488355328 then if (0 : Int) ≤ (Go.IntKind.wrap .i64 (t2.1 + (2 : Int))) then if (Go.IntKind.wrap .i64 (t2.1 + (2 : Int))) ≤ (List.length t2.2.1 : Int) then if (List.length t2.2.1 : Int) ≤ (List.length t2.2.1 : Int) then if (List.length (([] : List yc) ++ (List.drop (Int.toNat (0 : Int)) (List.take (Int.toNat (Go.IntKind.wrap .i64 (t2.1 + (1 : Int)))) t2.2.1))) + List.length (List.drop (Int.toNat (Go.IntKind.wrap .i64 (t2.1 + (2 : Int)))) (List.take (Int.toNat (List.length t2.2.1 : Int)) t2.2.1))) * 8 < 140737488355328 then if (0 : Int) ≤ (0 : Int) then if (0 : Int) ≤ t2.1 then if t2.1 ≤ (List.length t2.2.2 : Int) then if (List.length ([] : List y0) + List.length (List.drop (Int.toNat (0 : Int)) (List.take (Int.toNat t2.1) t2.2.2))) * 24 < 140737488355328 then Option.bind (yY (r2 ++ r3)) fun r4 => if (List.length (([] : List y0) ++ (List.drop (Int.toNat (0 : Int)) (List.take (Int.toNat t2.1) t2.2.2))) + List.length ([r4] : List y0)) * 24 < 140737488355328 then if (0 : Int) ≤ (Go.IntKind.wrap .i64 (t2.1 + (2 : Int))) then if (Go.IntKind.wrap .i64 (t2.1 + (2 : Int))) ≤ (List.length t2.2.2 : Int) then if (List.length t2.2.2 : Int) ≤ (List.length t2.2.2 : Int) then if (List.length ((([] : List y0) ++ (List.drop (Int.toNat (0 : Int)) (List.take (Int.toNat t2.1) t2.2.2))) ++ ([r4] : List y0)) + List.length (List.drop (Int.toNat (Go.IntKind.wrap .i64 (t2.1 + (2 : Int)))) (List.take (Int.toNat (List.length t2.2.2 : Int)) t2.2.2))) * 24 < 140737488355328 then Option.bind (JV (((([] : List yc) ++ (List.drop (Int.toNat (0 : Int)) (List.take (Int.toNat (Go.IntKind.wrap .i64 (t2.1 + (1 : Int)))) t2.2.1))) ++ (List.drop (Int.toNat (Go.IntKind.wrap .i64 (t2.1 + (2 : Int)))) (List.take (Int.toNat (List.length t2.2.1 : Int)) t2.2.1))), (((([] : List y0) ++ (List.drop (Int.toNat (0 : Int)) (List.take (Int.toNat t2.1) t2.2.2))) ++ ([r4] : List y0)) ++ (List.drop (Int.toNat (Go.IntKind.wrap .i64 (t2.1 + (2 : Int)))) (List.take (Int.toNat (List.length t2.2.2 : Int)) t2.2.2))))) fun r5 => again (r5, ((([] : List yc) ++ (List.drop (Int.toNat (0 : Int)) (List.take (Int.toNat (Go.IntKind.wrap .i64 (t2.1 + (1 : Int)))) t2.2.1))) ++ (List.drop (Int.toNat (Go.IntKind.wrap .i64 (t2.1 + (2 : Int)))) (List.take (Int.toNat (List.length t2.2.1 : Int)) t2.2.1))), (((([] : List y0) ++ (List.drop (Int.toNat (0 : Int)) (List.take (Int.toNat t2.1) t2.2.2))) ++ ([r4] : List y0)) ++ (List.drop (Int.toNat (Go.IntKind.wrap .i64 (t2.1 + (2 : Int)))) (List.take (Int.toNat (List.length t2.2.2 : Int)) t2.2.2)))) else none else none else none else none else none else none else none else none else none else none else none else none else none else none else none else none else none else none else none else none else none else none else k0 t2.2
def QU k0 := zR (@WI R k0) Yd
def Zl (x : Qz8) : Option Qz8 :=
 Option.bind (JV x) fun r1 => QU (fun x6 => some x6) (r1, x)
def ylM : List QF := [ylb, yuy, yCH]
def y7M (t : yaU) : St := ⟨.dead :: .box 1 0 :: .box 2 0 :: vI t.1 :: dd 56 [], [(1, .box [.own 10000000, .own 10000001]), (2, .box [.nils, .nils]), (10000000, .root true 3 yd t.2.1), (10000001, .root true 99 yk t.2.2)]⟩
def yjP : Gk vP := fun κ => WI (fun t => κ (some 0) ⟨.dead :: .box 1 0 :: .box 2 0 :: dd 57 [], [(1, .box [.own 10000000, .own 10000001]), (2, .box [.nils, .nils]), (10000000, .root true 3 yd t.1), (10000001, .root true 99 yk t.2)]⟩)
def ylN : Lp := lpC 2 (unG yhk y7M) @yjP lpN
theorem ysr : LF ylM ylN 189 2 Tryz.f189 0 y7M @yjP fun t => t := fun R κ again t => by kernel_rfl
theorem yss : LK ylM ylN 189 Tryz.f189 0 := lkN (u := (unG yhk y7M)) (yq fun t => by kernel_rfl) ysr
theorem ywD : EV ylM ylN 189 Tryz.f189 yqw qz8 qz8 Zl := fun x => by kernel_rfl
def yCI : QF := ⟨189, Zl, okN (n := 1) Tryz.func189 ⟨yss, trivial⟩ ywD⟩
def Y2 (x : yzS) : Option yzU :=
 Option.bind (Zk (x.1, x.2.1)) fun r1 => Option.bind (Yt (x.1, x.2.1)) fun r2 => Option.bind (bif (!r2) then some true else Option.bind (We x.2.2) fun r4 => some (!r4)) fun u3 => bif u3 then some (r1.1, r1.2, false) else Option.bind (jV (x.1, x.2.1, x.2.2.1, x.2.2.2.1)) fun r5 => if (0 : Int) ≤ r5 then if r5 < (List.length x.2.1 : Int) then Option.bind (wz ((yf x.2.1 r5), x.2.2.1, x.2.2.2.1, x.2.2.2.2.1, x.2.2.2.2.2.1, x.2.2.2.2.2.2)) fun r6 => if (0 : Int) ≤ r5 then if r5 < (List.length x.1 : Int) then Option.bind (Jj (r1.1, r1.2, r5, ([(zu x.1 r5)] : List yc), ([r6.1] : List y0))) fun r7 => bif (!r6.2) then if (0 : Int) ≤ r5 then if r5 < (List.length x.2.1 : Int) then Option.bind (yC (yf x.2.1 r5)) fun r8 => Option.bind (zJ (r8, x.2.2)) fun r9 => Option.bind (Y4 r9) fun r10 => if (0 : Int) ≤ r5 then if r5 < (List.length x.1 : Int) then if (0 : Int) ≤ (Go.IntKind.wrap .i64 (Int.tdiv (Go.IntKind.wrap .i64 ((List.length r10 : Int) + (1 : Int))) (2 : Int))) then if (Go.IntKind.wrap .i64 (Int.tdiv (Go.IntKind.wrap .i64 ((List.length r10 : Int) + (1 : Int))) (2 : Int))) < (List.length r10 : Int) then Option.bind (JQ ((y6 r10 (Go.IntKind.wrap .i64 (Int.tdiv (Go.IntKind.wrap .i64 ((List.length r10 : Int) + (1 : Int))) (2 : Int)))).1, (y6 r10 (Go.IntKind.wrap .i64 (Int.tdiv (Go.IntKind.wrap .i64 ((List.length r10 : Int) + (1 : Int))) (2 : Int)))).2.1, (y6 r10 (Go.IntKind.wrap .i64 (Int.tdiv (Go.IntKind.wrap .i64 ((List.length r10 : Int) + (1 : Int))) (2 : Int)))).2.2.1, (y6 r10 (Go.IntKind.wrap .i64 (Int.tdiv (Go.IntKind.wrap .i64 ((List.length r10 : Int) + (1 : Int))) (2 : Int)))).2.2.2.1, (y6 r10 (Go.IntKind.wrap .i64 (Int.tdiv (Go.IntKind.wrap .i64 ((List.length r10 : Int) + (1 : Int))) (2 : Int)))).2.2.2.2)) fun r11 => if (0 : Int) ≤ (0 : Int) then if (0 : Int) ≤ (Go.IntKind.wrap .i64 (Int.tdiv (Go.IntKind.wrap .i64 ((List.length r10 : Int) + (1 : Int))) (2 : Int))) then if (Go.IntKind.wrap .i64 (Int.tdiv (Go.IntKind.wrap .i64 ((List.length r10 : Int) + (1 : Int))) (2 : Int))) ≤ (List.length r10 : Int) then Option.bind (yY (List.drop (Int.toNat (0 : Int)) (List.take (Int.toNat (Go.IntKind.wrap .i64 (Int.tdiv (Go.IntKind.wrap .i64 ((List.length r10 : Int) + (1 : Int))) (2 : Int)))) r10))) fun r12 => if (0 : Int) ≤ (Go.IntKind.wrap .i64 (Int.tdiv (Go.IntKind.wrap .i64 ((List.length r10 : Int) + (1 : Int))) (2 : Int))) then if (Go.IntKind.wrap .i64 (Int.tdiv (Go.IntKind.wrap .i64 ((List.length r10 : Int) + (1 : Int))) (2 : Int))) ≤ (List.length r10 : Int) then if (List.length r10 : Int) ≤ (List.length r10 : Int) then Option.bind (yY (List.drop (Int.toNat (Go.IntKind.wrap .i64 (Int.tdiv (Go.IntKind.wrap .i64 ((List.length r10 : Int) + (1 : Int))) (2 : Int)))) (List.take (Int.toNat (List.length r10 : Int)) r10))) fun r13 => Option.bind (Jj (r1.1, r1.2, r5, ([(zu x.1 r5), r11] : List yc), ([r12, r13] : List y0))) fun r14 => Option.bind (Zl r14) fun r15 => Option.bind (Yt r15) fun r16 => bif (!r16) then some (r1.1, r1.2, false) else some (r15.1, r15.2, true) else none else none else none else none else none else none else none else none else none else none else none else none else Option.bind (bif (decide (r5 > (0 : Int))) then Option.bind (yC r6.1) fun r18 => some ((List.length r18 : Int) == (0 : Int)) else some false) fun u17 => bif u17 then Option.bind (Jj (r1.1, r1.2, r5, ([] : List yc), ([] : List y0))) fun r19 => Option.bind (Zl r19) fun r20 => Option.bind (Yt r20) fun r21 => bif (!r21) then some (r1.1, r1.2, false) else some (r20.1, r20.2, true) else Option.bind (Zl r7) fun r22 => Option.bind (Yt r22) fun r23 => bif (!r23) then some (r1.1, r1.2, false) else some (r22.1, r22.2, true) else none else none else none else none
theorem ywE : EV [yBr, ywd, ylb, yBq, yBx, yBm, yCF, yCG, yvO, yvR, yuy, yCI] lpN 167 Tryz.f167 yqx yzT yzV Y2 := fun x => by kernel_rfl
def ywF : QF := ⟨167, Y2, okN (n := 0) Tryz.func167 trivial ywE⟩
def ZT (x : ynY) : Option (List y8) :=
 Option.bind (Y5 x.1) fun r1 => Option.bind (ZF x.1) fun r2 => Option.bind (bif r2 then Option.bind (yB (x.2, (0 : Int), (Go.IntKind.wrap .i64 ((List.length x.1 : Int) - (1 : Int))))) fun r4 => some r4 else some false) fun u3 => Option.bind (bif u3 then if (0 : Int) ≤ x.2 then if x.2 < (List.length x.1 : Int) then some ((yG x.1 x.2).2.1) else none else none else some false) fun u5 => bif u5 then if (0 : Int) ≤ x.2 then if x.2 < (List.length x.1 : Int) then if (0 : Int) ≤ x.2 then if x.2 < (List.length r1 : Int) then some (List.set r1 (Int.toNat x.2) ((Int.tmod (Go.IntKind.wrap .i64 ((yG x.1 x.2).1 + (1 : Int))) (1000 : Int)), false, (0 : Int))) else none else none else none else none else some r1
theorem ywG : EV [y7f, yw3, ywf] lpN 176 Tryz.f176 yqy ynZ [(.sl 53 yj)] ZT := fun x => by kernel_rfl
def yBz : QF := ⟨176, ZT, okN (n := 0) Tryz.func176 trivial ywG⟩
def wA (x : yC5) : Option Qz9 :=
 Option.bind (bif x.2.2.2.2.2.2.2.2.2.2.2 then some (x.2.2.2.2.2.2.2.2.1 == (1 : Int)) else some false) fun u1 => bif u1 then Option.bind (ZT (x.2.2.2.1, x.2.2.2.2.2.2.2.2.2.1)) fun r2 => some (x.1, x.2.1, x.2.2.1, r2, x.2.2.2.2.1, x.2.2.2.2.2.1) else some (x.1, x.2.1, x.2.2.1, x.2.2.2.1, x.2.2.2.2.1, x.2.2.2.2.2.1)
theorem ywH : EV [yBz] lpN 168 Tryz.f168 yqz yC6 qz9 wA := fun x => by kernel_rfl
def yCJ : QF := ⟨168, wA, okN (n := 0) Tryz.func168 trivial ywH⟩
def zL (x : ynx) : Option yi4 :=
 Option.bind (jq (x.1, x.2.1, x.2.2.2.2.2.2.1, x.2.2.2.2.2.2.2.1)) fun r1 => Option.bind (Y2 (x.1, x.2.1, x.2.2.2.2.2.2)) fun r2 => bif (!r2.2.2) then some (false, x.1, x.2.1, x.2.2.1, x.2.2.2.1, x.2.2.2.2.1, x.2.2.2.2.2.1) else Option.bind (wA (r2.1, r2.2.1, x.2.2.1, x.2.2.2.1, x.2.2.2.2.1, x.2.2.2.2.2.1, r1)) fun r3 => some (true, r3)
theorem ywI : EV [ywy, ywF, yCJ] lpN 150 Tryz.f150 yqA yny yo0 zL := fun x => by kernel_rfl
def ywJ : QF := ⟨150, zL, okN (n := 0) Tryz.func150 trivial ywI⟩
def Wg (x : yC7) : Option yaV :=
 Option.bind (ym (x.1, x.2.1, x.2.2.1, x.2.2.2.1, x.2.2.2.2.1, x.2.2.2.2.2.1)) fun r1 => Option.bind (Z3 (x.1, x.2.1, x.2.2.1, x.2.2.2.1, x.2.2.2.2.1, x.2.2.2.2.2.1, x.2.2.2.2.2.2.1, x.2.2.2.2.2.2.2.1)) fun r2 => Option.bind (bif (r2 == (0 : Int)) then Option.bind (zy x.2.2.2.2.2.2.2.2) fun r4 => some (!r4) else some false) fun u3 => bif u3 then bif ((4 : Int) != (0 : Int)) then some (r1.1, r1.2.1, r1.2.2.1, r1.2.2.2.1, r1.2.2.2.2.1, r1.2.2.2.2.2, (4 : Int)) else Option.bind (Y6 (x.2.2.2.1, x.2.2.2.2.2.2.2.2)) fun r5 => bif r5.2.2 then Option.bind (zv (x.1, x.2.1, x.2.2.1, x.2.2.2.1, x.2.2.2.2.1, x.2.2.2.2.2.1, x.2.2.2.2.2.2.1)) fun r6 => if (0 : Int) ≤ r6 then if r6 < (List.length x.2.2.2.2.1 : Int) then if (0 : Int) ≤ r5.2.1 then if r5.2.1 < (List.length r5.1 : Int) then Option.bind (zL (r1.1, r1.2.1, r1.2.2.1, r5.1, r1.2.2.2.2.1, r1.2.2.2.2.2, x.2.2.2.2.2.2.2.1, (yi x.2.2.2.2.1 r6).2.1, (1 : Int), r5.2.1, (yG r5.1 r5.2.1).1)) fun r7 => Option.bind (yV (x.1, x.2.1, x.2.2.1, x.2.2.2.1, x.2.2.2.2.1, x.2.2.2.2.2.1, r7.2.1, r7.2.2.1, r7.2.2.2.1, r7.2.2.2.2.1, r7.2.2.2.2.2.1, r7.2.2.2.2.2.2, r7.1)) fun r8 => some r8 else none else none else none else none else Option.bind (yV (x.1, x.2.1, x.2.2.1, x.2.2.2.1, x.2.2.2.2.1, x.2.2.2.2.2.1, r1.1, r1.2.1, r1.2.2.1, r5.1, r1.2.2.2.2.1, r1.2.2.2.2.2, false)) fun r9 => some r9 else bif (r2 != (0 : Int)) then some (r1.1, r1.2.1, r1.2.2.1, r1.2.2.2.1, r1.2.2.2.2.1, r1.2.2.2.2.2, r2) else Option.bind (Y6 (x.2.2.2.1, x.2.2.2.2.2.2.2.2)) fun r10 => bif r10.2.2 then Option.bind (zv (x.1, x.2.1, x.2.2.1, x.2.2.2.1, x.2.2.2.2.1, x.2.2.2.2.2.1, x.2.2.2.2.2.2.1)) fun r11 => if (0 : Int) ≤ r11 then if r11 < (List.length x.2.2.2.2.1 : Int) then if (0 : Int) ≤ r10.2.1 then if r10.2.1 < (List.length r10.1 : Int) then Option.bind (zL (r1.1, r1.2.1, r1.2.2.1, r10.1, r1.2.2.2.2.1, r1.2.2.2.2.2, x.2.2.2.2.2.2.2.1, (yi x.2.2.2.2.1 r11).2.1, (1 : Int), r10.2.1, (yG r10.1 r10.2.1).1)) fun r12 => Option.bind (yV (x.1, x.2.1, x.2.2.1, x.2.2.2.1, x.2.2.2.2.1, x.2.2.2.2.2.1, r12.2.1, r12.2.2.1, r12.2.2.2.1, r12.2.2.2.2.1, r12.2.2.2.2.2.1, r12.2.2.2.2.2.2, r12.1)) fun r13 => some r13 else none else none else none else none else Option.bind (yV (x.1, x.2.1, x.2.2.1, x.2.2.2.1, x.2.2.2.2.1, x.2.2.2.2.2.1, r1.1, r1.2.1, r1.2.2.1, r10.1, r1.2.2.2.2.1, r1.2.2.2.2.2, false)) fun r14 => some r14
theorem ywK : EV [yg6, yux, yjH, ynA, yws, yBw, ywJ] lpN 113 Tryz.f113 yqB yC8 yaW Wg := fun x => by kernel_rfl
def yCK : QF := ⟨113, Wg, okN (n := 0) Tryz.func113 trivial ywK⟩
abbrev WJ : Type := yzW
def WK (k0 : List yc → Option R) (again : WJ → Option R) (t3 : WJ) : Option R :=
 Option.bind (bif (decide (t3.2.1 ≥ (0 : Int))) then some (decide ((List.length t3.2.2 : Int) ≤ (List.length t3.1 : Int))) else some false) fun u2 => bif u2 then if (0 : Int) ≤ t3.2.1 then if t3.2.1 < (List.length t3.1 : Int) then if (List.length t3.2.2 + List.length ([(yA t3.1 t3.2.1).1] : List yc)) * 8 < 140737488355328 then if (0 : Int) ≤ t3.2.1 then if t3.2.1 < (List.length t3.1 : Int) then Option.bind (zQ (t3.1, (yA t3.1 t3.2.1).2)) fun r3 => again (t3.1, r3, (t3.2.2 ++ ([(yA t3.1 t3.2.1).1] : List yc))) else none else none else none else none else none else k0 t3.2.2
def QV k0 := zR (@WK R k0) Yd
def JW (x : yfF) : Option (List yc) :=
 Option.bind (zQ x) fun r1 => QV (fun x4 => some x4) (x.1, r1, ([] : List yc))
def ylO : List QF := [ynz]
def y7N (t : yzW) : St := ⟨zd t.1 :: dd 4 (.own 10000000 :: vI t.2.1 :: dd 29 []), [(10000000, .root true 3 yd t.2.2)]⟩
def yjQ : Gk WJ := fun κ => WK (fun t => κ (some 0) ⟨dd 5 (.own 10000000 :: dd 30 []), [(10000000, .root true 3 yd t)]⟩)
def ylP : Lp := lpC 3 (unG yzX y7N) @yjQ lpN
theorem yst : LF ylO ylP 190 3 Tryz.f190 0 y7N @yjQ fun t => t := fun R κ again t => by kernel_rfl
theorem ysu : LK ylO ylP 190 Tryz.f190 0 := lkN (u := (unG yzX y7N)) (yq fun t => by kernel_rfl) yst
theorem ywL : EV ylO ylP 190 Tryz.f190 yqC yfG [(.sl 3 yd)] JW := fun x => by kernel_rfl
def yBA : QF := ⟨190, JW, okN (n := 1) Tryz.func190 ⟨ysu, trivial⟩ ywL⟩
abbrev vQ : Type := yzY
def Jk (k0 : List y7 → Option R) (again : vQ → Option R) (t4 : vQ) : Option R :=
 bif (decide (t4.2.1 < (List.length t4.2.2.2 : Int))) then if (0 : Int) ≤ t4.2.1 then if t4.2.1 < (List.length t4.2.2.2 : Int) then bif ((y6 t4.2.2.2 t4.2.1).1 == t4.1) then if (0 : Int) ≤ t4.2.1 then if t4.2.1 < (List.length t4.2.2.2 : Int) then if (List.length t4.2.2.1 + List.length ([((y6 t4.2.2.2 t4.2.1).1, (y6 t4.2.2.2 t4.2.1).2.1, (y6 t4.2.2.2 t4.2.1).2.2.1, (y6 t4.2.2.2 t4.2.1).2.2.2.1, (y6 t4.2.2.2 t4.2.1).2.2.2.2)] : List y7)) * 40 < 140737488355328 then again (t4.1, (Go.IntKind.wrap .i64 (t4.2.1 + (1 : Int))), (t4.2.2.1 ++ ([((y6 t4.2.2.2 t4.2.1).1, (y6 t4.2.2.2 t4.2.1).2.1, (y6 t4.2.2.2 t4.2.1).2.2.1, (y6 t4.2.2.2 t4.2.1).2.2.2.1, (y6 t4.2.2.2 t4.2.1).2.2.2.2)] : List y7)), t4.2.2.2) else none else none else none else again (t4.1, (Go.IntKind.wrap .i64 (t4.2.1 + (1 : Int))), t4.2.2.1, t4.2.2.2) else none else none else k0 t4.2.2.1
def QW k0 := zR (@Jk R k0) Yd
def WL (x : ynV) : Option (List y7) :=
 Option.bind (yP (x.1, x.2.1)) fun r1 => QW (fun x2 => some x2) (x.2.2, (0 : Int), ([] : List y7), r1)
def ylQ : List QF := [yle]
def y7O (t : yzY) : St := ⟨.dead :: vI t.1 :: dd 3 (.own 10000000 :: .own 10000001 :: vI t.2.1 :: dd 24 []), [(10000000, .root true 63 yh t.2.2.1), (10000001, .root true 63 yh t.2.2.2)]⟩
def yjR : Gk vQ := fun κ => Jk (fun t => κ (some 0) ⟨dd 5 (.own 10000000 :: dd 26 []), [(10000000, .root true 63 yh t)]⟩)
def ylR : Lp := lpC 4 (unG yzZ y7O) @yjR lpN
theorem ysv : LF ylQ ylR 204 4 Tryz.f204 0 y7O @yjR fun t => t := fun R κ again t => by kernel_rfl
theorem ysw : LK ylQ ylR 204 Tryz.f204 0 := lkN (u := (unG yzZ y7O)) (yq fun t => by kernel_rfl) ysv
theorem ywM : EV ylQ ylR 204 Tryz.f204 yqD ynW [(.sl 63 yh)] WL := fun x => by kernel_rfl
def yCL : QF := ⟨204, WL, okN (n := 1) Tryz.func204 ⟨ysw, trivial⟩ ywM⟩
abbrev VN : Type := yA0
def wB (k0 : Bool → Option R) (k1 : Unit → Option R) (again : VN → Option R) (t2 : VN) : Option R :=
 bif (decide (t2.2.2 < (List.length t2.1 : Int))) then if (0 : Int) ≤ t2.2.2 then if t2.2.2 < (List.length t2.1 : Int) then bif ((zu t2.1 t2.2.2) == t2.2.1) then k0 true else again (t2.1, t2.2.1, (Go.IntKind.wrap .i64 (t2.2.2 + (1 : Int)))) else none else none else k1 ()
def y1c k0 k1 := zR (@wB R k0 k1) Yd
def Kz (x : yuX) : Option Bool :=
 y1c (fun x1 => some x1) (fun x2 => some false) (x.1, x.2, (0 : Int))
def ylS : List QF := []
def y7P (t : yA0) : St := ⟨z3 t.1 :: vI t.2.1 :: dd 3 (vI t.2.2 :: dd 12 []), []⟩
def yjS : Gk VN := fun κ => wB (fun t => κ none ⟨dd 4 (vB t :: dd 13 []), []⟩) (fun t => κ (some 0) ⟨dd 18 [], []⟩)
def ylT : Lp := lpC 2 (unG yA1 y7P) @yjS lpN
theorem ysx : LF ylS ylT 205 2 Tryz.f205 0 y7P @yjS fun t => t := fun R κ again t => by kernel_rfl
theorem ysy : LK ylS ylT 205 Tryz.f205 0 := lkN (u := (unG yA1 y7P)) (yq fun t => by kernel_rfl) ysx
theorem ywN : EV ylS ylT 205 Tryz.f205 yqE yuY [.bool] Kz := fun x => by kernel_rfl
def yCM : QF := ⟨205, Kz, okN (n := 1) Tryz.func205 ⟨ysy, trivial⟩ ywN⟩
abbrev vR : Type := yA2
def Jl (k0 : yA4 → Option R) (again : vR → Option R) (t5 : vR) : Option R :=
 bif (decide (t5.2.2.1 < (List.length t5.2.2.2.2.2.2.2.2.2.2.2.2.2 : Int))) then if (0 : Int) ≤ t5.2.2.1 then if t5.2.2.1 < (List.length t5.2.2.2.2.2.2.2.2.2.2.2.2.2 : Int) then Option.bind (Kz (t5.1, (y6 t5.2.2.2.2.2.2.2.2.2.2.2.2.2 t5.2.2.1).2.1)) fun r2 => Option.bind (bif r2 then Option.bind (bif (!t5.2.1) then some true else if (0 : Int) ≤ t5.2.2.1 then if t5.2.2.1 < (List.length t5.2.2.2.2.2.2.2.2.2.2.2.2.2 : Int) then some (decide ((y6 t5.2.2.2.2.2.2.2.2.2.2.2.2.2 t5.2.2.1).2.1 > t5.2.2.2.2.2.2.2.2.2.1)) else none else none) fun u4 => some u4 else some false) fun u3 => bif u3 then if (0 : Int) ≤ t5.2.2.1 then if t5.2.2.1 < (List.length t5.2.2.2.2.2.2.2.2.2.2.2.2.2 : Int) then again (t5.1, true, (Go.IntKind.wrap .i64 (t5.2.2.1 + (1 : Int))), t5.2.2.2.1, t5.2.2.2.2.1, t5.2.2.2.2.2.1, t5.2.2.2.2.2.2.1, t5.2.2.2.2.2.2.2.1, (y6 t5.2.2.2.2.2.2.2.2.2.2.2.2.2 t5.2.2.1).1, (y6 t5.2.2.2.2.2.2.2.2.2.2.2.2.2 t5.2.2.1).2.1, (y6 t5.2.2.2.2.2.2.2.2.2.2.2.2.2 t5.2.2.1).2.2.1, (y6 t5.2.2.2.2.2.2.2.2.2.2.2.2.2 t5.2.2.1).2.2.2.1, (y6 t5.2.2.2.2.2.2.2.2.2.2.2.2.2 t5.2.2.1).2.2.2.2, t5.2.2.2.2.2.2.2.2.2.2.2.2.2) else none else none else again (t5.1, t5.2.1, (Go.IntKind.wrap .i64 (t5.2.2.1 + (1 : Int))), t5.2.2.2.1, t5.2.2.2.2.1, t5.2.2.2.2.2.1, t5.2.2.2.2.2.2.1, t5.2.2.2.2.2.2.2.1, t5.2.2.2.2.2.2.2.2.1, t5.2.2.2.2.2.2.2.2.2.1, t5.2.2.2.2.2.2.2.2.2.2.1, t5.2.2.2.2.2.2.2.2.2.2.2.1, t5.2.2.2.2.2.2.2.2.2.2.2.2.1, t5.2.2.2.2.2.2.2.2.2.2.2.2.2) else none else none else k0 (t5.2.1, t5.2.2.2.1, t5.2.2.2.2.1, t5.2.2.2.2.2.1, t5.2.2.2.2.2.2.1, t5.2.2.2.2.2.2.2.1, t5.2.2.2.2.2.2.2.2.1, t5.2.2.2.2.2.2.2.2.2.1, t5.2.2.2.2.2.2.2.2.2.2.1, t5.2.2.2.2.2.2.2.2.2.2.2.1, t5.2.2.2.2.2.2.2.2.2.2.2.2.1)
def QX k0 := zR (@Jl R k0) Yd
def jr (x : yA5) : Option yeQ :=
 Option.bind (WL (x.1, x.2.1, x.2.2.1)) fun r1 => QX (fun x5 => some (x5.2.2.2.2.2.2.1, x5.2.2.2.2.2.2.2.1, x5.2.2.2.2.2.2.2.2.1, x5.2.2.2.2.2.2.2.2.2.1, x5.2.2.2.2.2.2.2.2.2.2, x5.1)) (x.2.2.2, false, (0 : Int), (0 : Int), (0 : Int), (0 : Int), (0 : Int), (0 : Int), (0 : Int), (0 : Int), (0 : Int), (0 : Int), (0 : Int), r1)
def ylU : List QF := [yCL, yCM]
def y7Q (t : yA2) : St := ⟨dd 2 (z3 t.1 :: dd 3 (.box 6 0 :: .dead :: .box 8 0 :: vB t.2.1 :: .own 10000000 :: vI t.2.2.1 :: dd 37 [])), [(6, .box [vI t.2.2.2.1, vI t.2.2.2.2.1, vI t.2.2.2.2.2.1, vI t.2.2.2.2.2.2.1, vI t.2.2.2.2.2.2.2.1]), (8, .box [vI t.2.2.2.2.2.2.2.2.1, vI t.2.2.2.2.2.2.2.2.2.1, vI t.2.2.2.2.2.2.2.2.2.2.1, vI t.2.2.2.2.2.2.2.2.2.2.2.1, vI t.2.2.2.2.2.2.2.2.2.2.2.2.1]), (10000000, .root true 63 yh t.2.2.2.2.2.2.2.2.2.2.2.2.2)]⟩
def yjT : Gk vR := fun κ => Jl (fun t => κ (some 0) ⟨dd 6 (.box 6 0 :: .dead :: .box 8 0 :: vB t.1 :: dd 39 []), [(6, .box [vI t.2.1, vI t.2.2.1, vI t.2.2.2.1, vI t.2.2.2.2.1, vI t.2.2.2.2.2.1]), (8, .box [vI t.2.2.2.2.2.2.1, vI t.2.2.2.2.2.2.2.1, vI t.2.2.2.2.2.2.2.2.1, vI t.2.2.2.2.2.2.2.2.2.1, vI t.2.2.2.2.2.2.2.2.2.2])]⟩)
def ylV : Lp := lpC 5 (unG yA3 y7Q) @yjT lpN
theorem ysz : LF ylU ylV 191 5 Tryz.f191 0 y7Q @yjT fun t => t := fun R κ again t => by kernel_rfl
theorem ysA : LK ylU ylV 191 Tryz.f191 0 := lkN (u := (unG yA3 y7Q)) (yq fun t => by kernel_rfl) ysz
theorem ywO : EV ylU ylV 191 Tryz.f191 yqF yA6 yeR jr := fun x => by kernel_rfl
def yBB : QF := ⟨191, jr, okN (n := 1) Tryz.func191 ⟨ysA, trivial⟩ ywO⟩
def Zc (x : yuu) : Option yeQ :=
 Option.bind (JW (x.2.2.1, x.2.2.2.2)) fun r1 => bif ((List.length r1 : Int) == (0 : Int)) then some ((0 : Int), (0 : Int), (0 : Int), (0 : Int), (0 : Int), false) else if (0 : Int) ≤ (1 : Int) then if (1 : Int) ≤ (List.length r1 : Int) then if (List.length r1 : Int) ≤ (List.length r1 : Int) then Option.bind (jr (x.1, x.2.1, x.2.2.2.1, (List.drop (Int.toNat (1 : Int)) (List.take (Int.toNat (List.length r1 : Int)) r1)))) fun r2 => some r2 else none else none else none
theorem ywP : EV [yBA, yBB] lpN 169 Tryz.f169 yqG yuv yeR Zc := fun x => by kernel_rfl
def yBC : QF := ⟨169, Zc, okN (n := 0) Tryz.func169 trivial ywP⟩
def Yn (x : yuZ) : Option yi4 :=
 if (0 : Int) ≤ x.2.2.2.2.2.2.1 then if x.2.2.2.2.2.2.1 < (List.length x.2.2.2.2.1 : Int) then Option.bind (Zc (x.1, x.2.1, x.2.2.1, x.2.2.2.2.2.2.2, (yi x.2.2.2.2.1 x.2.2.2.2.2.2.1).2.1)) fun r1 => Option.bind (bif r1.2.2.2.2.2 then some (r1.2.2.1 == (1 : Int)) else some false) fun u2 => bif u2 then Option.bind (zL (x.1, x.2.1, x.2.2.1, x.2.2.2.1, x.2.2.2.2.1, x.2.2.2.2.2.1, x.2.2.2.2.2.2.2, (yi x.2.2.2.2.1 x.2.2.2.2.2.2.1).2.1, (2 : Int), (0 : Int), (0 : Int))) fun r3 => some r3 else Option.bind (jq (x.1, x.2.1, x.2.2.2.2.2.2.2, (yi x.2.2.2.2.1 x.2.2.2.2.2.2.1).2.1)) fun r4 => bif (!r4.2.2.2.2.2) then some (true, x.1, x.2.1, x.2.2.1, x.2.2.2.1, x.2.2.2.2.1, x.2.2.2.2.2.1) else Option.bind (zL (x.1, x.2.1, x.2.2.1, x.2.2.2.1, x.2.2.2.2.1, x.2.2.2.2.2.1, x.2.2.2.2.2.2.2, (yi x.2.2.2.2.1 x.2.2.2.2.2.2.1).2.1, (0 : Int), (0 : Int), (0 : Int))) fun r5 => some r5 else none else none
theorem ywQ : EV [ywJ, ywy, yBC] lpN 151 Tryz.f151 yqH yv0 yo0 Yn := fun x => by kernel_rfl
def yBD : QF := ⟨151, Yn, okN (n := 0) Tryz.func151 trivial ywQ⟩
def jW (x : yum) : Option yaV :=
 Option.bind (ym (x.1, x.2.1, x.2.2.1, x.2.2.2.1, x.2.2.2.2.1, x.2.2.2.2.2.1)) fun r1 => Option.bind (Z3 x) fun r2 => bif (r2 != (0 : Int)) then some (r1.1, r1.2.1, r1.2.2.1, r1.2.2.2.1, r1.2.2.2.2.1, r1.2.2.2.2.2, r2) else Option.bind (zv (x.1, x.2.1, x.2.2.1, x.2.2.2.1, x.2.2.2.2.1, x.2.2.2.2.2.1, x.2.2.2.2.2.2.1)) fun r3 => Option.bind (Yn (r1.1, r1.2.1, r1.2.2.1, r1.2.2.2.1, r1.2.2.2.2.1, r1.2.2.2.2.2, r3, x.2.2.2.2.2.2.2)) fun r4 => Option.bind (yV (x.1, x.2.1, x.2.2.1, x.2.2.2.1, x.2.2.2.2.1, x.2.2.2.2.2.1, r4.2.1, r4.2.2.1, r4.2.2.2.1, r4.2.2.2.2.1, r4.2.2.2.2.2.1, r4.2.2.2.2.2.2, r4.1)) fun r5 => some r5
theorem ywR : EV [yg6, yjH, ynA, yws, yBD] lpN 114 Tryz.f114 yqI yun yaW jW := fun x => by kernel_rfl
def yCN : QF := ⟨114, jW, okN (n := 0) Tryz.func114 trivial ywR⟩
abbrev wS : Type := yo5 ⊕ yo6
def jI (k0 : yC9 → Option R) (k1 : yCa → Option R) (again : wS → Option R) : wS → Option R
 | .inl t10 => Option.bind (bif (decide (t10.2.2.2.1 ≥ t10.1)) then some t10.2.2.1 else some false) fun u15 => bif u15 then Option.bind (Yn (t10.2.2.2.2.2.2.2.2.2.2.2.2.1, t10.2.2.2.2.2.2.2.2.2.2.2.2.2.1, t10.2.2.2.2.2.2.2.2.2.2.2.2.2.2.1, t10.2.2.2.2.2.2.2.2.2.2.2.2.2.2.2.1, t10.2.2.2.2.2.2.2.2.2.2.2.2.2.2.2.2, t10.2.2.2.2.2.2.2.2.2.2.2.1, t10.2.1, t10.2.2.2.1)) fun r16 => again (Sum.inr (t10.1, t10.2.1, r16.1, (Go.IntKind.wrap .i64 (t10.2.2.2.1 - (1 : Int))), t10.2.2.2.2.1, t10.2.2.2.2.2.1, t10.2.2.2.2.2.2.1, t10.2.2.2.2.2.2.2.1, t10.2.2.2.2.2.2.2.2.1, t10.2.2.2.2.2.2.2.2.2.1, t10.2.2.2.2.2.2.2.2.2.2.1, r16.2.1, r16.2.2.1, r16.2.2.2.1, r16.2.2.2.2.2.2, r16.2.2.2.2.1, r16.2.2.2.2.2.1)) else k0 (t10.1, t10.2.1, t10.2.2.1, t10.2.2.2.2)
 | .inr t10 => Option.bind (bif (decide (t10.2.2.2.1 ≥ t10.1)) then some t10.2.2.1 else some false) fun u17 => bif u17 then Option.bind (Yn (t10.2.2.2.2.2.2.2.2.2.2.2.1, t10.2.2.2.2.2.2.2.2.2.2.2.2.1, t10.2.2.2.2.2.2.2.2.2.2.2.2.2.1, t10.2.2.2.2.2.2.2.2.2.2.2.2.2.2.2.1, t10.2.2.2.2.2.2.2.2.2.2.2.2.2.2.2.2, t10.2.2.2.2.2.2.2.2.2.2.2.2.2.2.1, t10.2.1, t10.2.2.2.1)) fun r18 => again (Sum.inr (t10.1, t10.2.1, r18.1, (Go.IntKind.wrap .i64 (t10.2.2.2.1 - (1 : Int))), t10.2.2.2.2.1, t10.2.2.2.2.2.1, t10.2.2.2.2.2.2.1, t10.2.2.2.2.2.2.2.1, t10.2.2.2.2.2.2.2.2.1, t10.2.2.2.2.2.2.2.2.2.1, t10.2.2.2.2.2.2.2.2.2.2.1, r18.2.1, r18.2.2.1, r18.2.2.2.1, r18.2.2.2.2.2.2, r18.2.2.2.2.1, r18.2.2.2.2.2.1)) else k1 (t10.1, t10.2.1, t10.2.2.1, t10.2.2.2.2)
def wT k0 k1 := zR (@jI R k0 k1) Yd
def JX (x : yum) : Option yaV :=
 Option.bind (ym (x.1, x.2.1, x.2.2.1, x.2.2.2.1, x.2.2.2.2.1, x.2.2.2.2.2.1)) fun r1 => Option.bind (Z3 (x.1, x.2.1, x.2.2.1, x.2.2.2.1, x.2.2.2.2.1, x.2.2.2.2.2.1, x.2.2.2.2.2.2.1, (0 : Int))) fun r2 => Option.bind (bif (r2 == (0 : Int)) then Option.bind (yB (x.2.2.2.2.2.2.2, (1 : Int), (12 : Int))) fun r4 => some (!r4) else some false) fun u3 => bif u3 then bif ((4 : Int) != (0 : Int)) then some (r1.1, r1.2.1, r1.2.2.1, r1.2.2.2.1, r1.2.2.2.2.1, r1.2.2.2.2.2, (4 : Int)) else Option.bind (zv (x.1, x.2.1, x.2.2.1, x.2.2.2.1, x.2.2.2.2.1, x.2.2.2.2.2.1, x.2.2.2.2.2.2.1)) fun r5 => if (0 : Int) ≤ r5 then if r5 < (List.length x.2.2.2.2.1 : Int) then wT (fun x10 => if (0 : Int) ≤ x10.2.1 then if x10.2.1 < (List.length x10.2.2.2.2.2.2.2.2.2.2.2.2.2.2.2 : Int) then Option.bind (yV (x10.2.2.2.1, x10.2.2.2.2.1, x10.2.2.2.2.2.1, x10.2.2.2.2.2.2.1, x10.2.2.2.2.2.2.2.1, x10.2.2.2.2.2.2.2.2.1, x10.2.2.2.2.2.2.2.2.2.2.2.1, x10.2.2.2.2.2.2.2.2.2.2.2.2.1, x10.2.2.2.2.2.2.2.2.2.2.2.2.2.1, x10.2.2.2.2.2.2.2.2.2.2.2.2.2.2.1, (List.set x10.2.2.2.2.2.2.2.2.2.2.2.2.2.2.2 (Int.toNat x10.2.1) ((yi x10.2.2.2.2.2.2.2.2.2.2.2.2.2.2.2 x10.2.1).1, (yi x10.2.2.2.2.2.2.2.2.2.2.2.2.2.2.2 x10.2.1).2.1, x10.1, (yi x10.2.2.2.2.2.2.2.2.2.2.2.2.2.2.2 x10.2.1).2.2.2)), x10.2.2.2.2.2.2.2.2.2.2.1, x10.2.2.1)) fun r11 => some r11 else none else none) (fun x12 => if (0 : Int) ≤ x12.2.1 then if x12.2.1 < (List.length x12.2.2.2.2.2.2.2.2.2.2.2.2.2.2.2 : Int) then Option.bind (yV (x12.2.2.2.1, x12.2.2.2.2.1, x12.2.2.2.2.2.1, x12.2.2.2.2.2.2.1, x12.2.2.2.2.2.2.2.1, x12.2.2.2.2.2.2.2.2.1, x12.2.2.2.2.2.2.2.2.2.2.1, x12.2.2.2.2.2.2.2.2.2.2.2.1, x12.2.2.2.2.2.2.2.2.2.2.2.2.1, x12.2.2.2.2.2.2.2.2.2.2.2.2.2.2.1, (List.set x12.2.2.2.2.2.2.2.2.2.2.2.2.2.2.2 (Int.toNat x12.2.1) ((yi x12.2.2.2.2.2.2.2.2.2.2.2.2.2.2.2 x12.2.1).1, (yi x12.2.2.2.2.2.2.2.2.2.2.2.2.2.2.2 x12.2.1).2.1, x12.1, (yi x12.2.2.2.2.2.2.2.2.2.2.2.2.2.2.2 x12.2.1).2.2.2)), x12.2.2.2.2.2.2.2.2.2.2.2.2.2.1, x12.2.2.1)) fun r13 => some r13 else none else none) (Sum.inl (x.2.2.2.2.2.2.2, r5, true, (Go.IntKind.wrap .i64 ((yi x.2.2.2.2.1 r5).2.2.1 - (1 : Int))), x.1, x.2.1, x.2.2.1, x.2.2.2.1, x.2.2.2.2.1, x.2.2.2.2.2.1, (0 : Int), r1.2.2.2.2.2, r1.1, r1.2.1, r1.2.2.1, r1.2.2.2.1, r1.2.2.2.2.1)) else none else none else bif (r2 != (0 : Int)) then some (r1.1, r1.2.1, r1.2.2.1, r1.2.2.2.1, r1.2.2.2.2.1, r1.2.2.2.2.2, r2) else Option.bind (zv (x.1, x.2.1, x.2.2.1, x.2.2.2.1, x.2.2.2.2.1, x.2.2.2.2.2.1, x.2.2.2.2.2.2.1)) fun r14 => if (0 : Int) ≤ r14 then if r14 < (List.length x.2.2.2.2.1 : Int) then wT (fun x19 => if (0 : Int) ≤ x19.2.1 then if x19.2.1 < (List.length x19.2.2.2.2.2.2.2.2.2.2.2.2.2.2.2 : Int) then Option.bind (yV (x19.2.2.2.1, x19.2.2.2.2.1, x19.2.2.2.2.2.1, x19.2.2.2.2.2.2.1, x19.2.2.2.2.2.2.2.1, x19.2.2.2.2.2.2.2.2.1, x19.2.2.2.2.2.2.2.2.2.2.2.1, x19.2.2.2.2.2.2.2.2.2.2.2.2.1, x19.2.2.2.2.2.2.2.2.2.2.2.2.2.1, x19.2.2.2.2.2.2.2.2.2.2.2.2.2.2.1, (List.set x19.2.2.2.2.2.2.2.2.2.2.2.2.2.2.2 (Int.toNat x19.2.1) ((yi x19.2.2.2.2.2.2.2.2.2.2.2.2.2.2.2 x19.2.1).1, (yi x19.2.2.2.2.2.2.2.2.2.2.2.2.2.2.2 x19.2.1).2.1, x19.1, (yi x19.2.2.2.2.2.2.2.2.2.2.2.2.2.2.2 x19.2.1).2.2.2)), x19.2.2.2.2.2.2.2.2.2.2.1, x19.2.2.1)) fun r20 => some r20 else none else none) (fun x21 => if (0 : Int) ≤ x21.2.1 then if x21.2.1 < (List.length x21.2.2.2.2.2.2.2.2.2.2.2.2.2.2.2 : Int) then Option.bind (yV (x21.2.2.2.1, x21.2.2.2.2.1, x21.2.2.2.2.2.1, x21.2.2.2.2.2.2.1, x21.2.2.2.2.2.2.2.1, x21.2.2.2.2.2.2.2.2.1, x21.2.2.2.2.2.2.2.2.2.2.1, x21.2.2.2.2.2.2.2.2.2.2.2.1, x21.2.2.2.2.2.2.2.2.2.2.2.2.1, x21.2.2.2.2.2.2.2.2.2.2.2.2.2.2.1, (List.set x21.2.2.2.2.2.2.2.2.2.2.2.2.2.2.2 (Int.toNat x21.2.1) ((yi x21.2.2.2.2.2.2.2.2.2.2.2.2.2.2.2 x21.2.1).1, (yi x21.2.2.2.2.2.2.2.2.2.2.2.2.2.2.2 x21.2.1).2.1, x21.1, (yi x21.2.2.2.2.2.2.2.2.2.2.2.2.2.2.2 x21.2.1).2.2.2)), x21.2.2.2.2.2.2.2.2.2.2.2.2.2.1, x21.2.2.1)) fun r22 => some r22 else none else none) (Sum.inl (x.2.2.2.2.2.2.2, r14, true, (Go.IntKind.wrap .i64 ((yi x.2.2.2.2.1 r14).2.2.1 - (1 : Int))), x.1, x.2.1, x.2.2.1, x.2.2.2.1, x.2.2.2.2.1, x.2.2.2.2.2.1, (0 : Int), r1.2.2.2.2.2, r1.1, r1.2.1, r1.2.2.1, r1.2.2.2.1, r1.2.2.2.2.1)) else none else none
def yg7 : List QF := [yg6, y7f, yjH, ynA, yws, yBD]
def y28 (t : yo5) : St := ⟨dd 2 (vI t.1 :: .box 3 0 :: dd 2 (.box 6 0 :: .dead :: .box 8 0 :: .dead :: vI t.2.1 :: vB t.2.2.1 :: vI t.2.2.2.1 :: dd 49 [])), [(3, .box [z3 t.2.2.2.2.1, yw t.2.2.2.2.2.1, zd t.2.2.2.2.2.2.1, yK t.2.2.2.2.2.2.2.1, zC t.2.2.2.2.2.2.2.2.1, vI t.2.2.2.2.2.2.2.2.2.1]), (6, .box [.nils, .nils, .nils, .nils, .nils, vI t.2.2.2.2.2.2.2.2.2.2.1]), (8, .box [.own 10000000, .own 10000001, .own 10000002, .own 10000003, .own 10000004, vI t.2.2.2.2.2.2.2.2.2.2.2.1]), (10000000, .root true 3 yd t.2.2.2.2.2.2.2.2.2.2.2.2.1), (10000001, .root true 99 yk t.2.2.2.2.2.2.2.2.2.2.2.2.2.1), (10000002, .root true 67 yn t.2.2.2.2.2.2.2.2.2.2.2.2.2.2.1), (10000003, .root true 53 yj t.2.2.2.2.2.2.2.2.2.2.2.2.2.2.2.1), (10000004, .root true 41 yI t.2.2.2.2.2.2.2.2.2.2.2.2.2.2.2.2)]⟩
theorem yg8 : ∀ s t, unG yA7 y28 s = some t → y28 t = s := yq fun t => by kernel_rfl
def y29 (t : yo6) : St := ⟨dd 2 (vI t.1 :: .box 3 0 :: dd 2 (.box 6 0 :: .dead :: .box 8 0 :: .dead :: vI t.2.1 :: vB t.2.2.1 :: vI t.2.2.2.1 :: dd 49 [])), [(3, .box [z3 t.2.2.2.2.1, yw t.2.2.2.2.2.1, zd t.2.2.2.2.2.2.1, yK t.2.2.2.2.2.2.2.1, zC t.2.2.2.2.2.2.2.2.1, vI t.2.2.2.2.2.2.2.2.2.1]), (6, .box [.nils, .nils, .nils, .nils, .nils, vI t.2.2.2.2.2.2.2.2.2.2.1]), (8, .box [z3 t.2.2.2.2.2.2.2.2.2.2.2.1, yw t.2.2.2.2.2.2.2.2.2.2.2.2.1, zd t.2.2.2.2.2.2.2.2.2.2.2.2.2.1, .own 10000000, .own 10000001, vI t.2.2.2.2.2.2.2.2.2.2.2.2.2.2.1]), (10000000, .root true 53 yj t.2.2.2.2.2.2.2.2.2.2.2.2.2.2.2.1), (10000001, .root true 41 yI t.2.2.2.2.2.2.2.2.2.2.2.2.2.2.2.2)]⟩
theorem yg9 : ∀ s t, unG yA8 y29 s = some t → y29 t = s := yq fun t => by kernel_rfl
def y2a : (yo5 ⊕ yo6) → St := Sum.elim y28 y29
def y4P (s : St) : Option (yo5 ⊕ yo6) := ((unG yA7 y28 s).map Sum.inl).or (((unG yA8 y29) s).map Sum.inr)
theorem yga : ∀ s t, y4P s = some t → y2a t = s := y7d yg8 yg9
def y7R : Gk wS := fun κ => jI (fun t => κ (some 0) ⟨dd 2 (vI t.1 :: .box 3 0 :: dd 2 (.box 6 0 :: .dead :: .box 8 0 :: .dead :: vI t.2.1 :: vB t.2.2.1 :: dd 50 [])), [(3, .box [z3 t.2.2.2.1, yw t.2.2.2.2.1, zd t.2.2.2.2.2.1, yK t.2.2.2.2.2.2.1, zC t.2.2.2.2.2.2.2.1, vI t.2.2.2.2.2.2.2.2.1]), (6, .box [.nils, .nils, .nils, .nils, .nils, vI t.2.2.2.2.2.2.2.2.2.1]), (8, .box [.own 10000000, .own 10000001, .own 10000002, .own 10000003, .own 10000004, vI t.2.2.2.2.2.2.2.2.2.2.1]), (10000000, .root true 3 yd t.2.2.2.2.2.2.2.2.2.2.2.1), (10000001, .root true 99 yk t.2.2.2.2.2.2.2.2.2.2.2.2.1), (10000002, .root true 67 yn t.2.2.2.2.2.2.2.2.2.2.2.2.2.1), (10000003, .root true 53 yj t.2.2.2.2.2.2.2.2.2.2.2.2.2.2.1), (10000004, .root true 41 yI t.2.2.2.2.2.2.2.2.2.2.2.2.2.2.2)]⟩) (fun t => κ (some 0) ⟨dd 2 (vI t.1 :: .box 3 0 :: dd 2 (.box 6 0 :: .dead :: .box 8 0 :: .dead :: vI t.2.1 :: vB t.2.2.1 :: dd 50 [])), [(3, .box [z3 t.2.2.2.1, yw t.2.2.2.2.1, zd t.2.2.2.2.2.1, yK t.2.2.2.2.2.2.1, zC t.2.2.2.2.2.2.2.1, vI t.2.2.2.2.2.2.2.2.1]), (6, .box [.nils, .nils, .nils, .nils, .nils, vI t.2.2.2.2.2.2.2.2.2.1]), (8, .box [z3 t.2.2.2.2.2.2.2.2.2.2.1, yw t.2.2.2.2.2.2.2.2.2.2.2.1, zd t.2.2.2.2.2.2.2.2.2.2.2.2.1, .own 10000000, .own 10000001, vI t.2.2.2.2.2.2.2.2.2.2.2.2.2.1]), (10000000, .root true 53 yj t.2.2.2.2.2.2.2.2.2.2.2.2.2.2.1), (10000001, .root true 41 yI t.2.2.2.2.2.2.2.2.2.2.2.2.2.2.2)]⟩)
def ygb : Lp := lpC 10 y4P @y7R lpN
theorem ygc : LF yg7 ygb 115 10 Tryz.f115 0 y2a @y7R fun v : yo5 => .inl v := fun R κ again v => by kernel_rfl
theorem ygd : LF yg7 ygb 115 10 Tryz.f115 0 y2a @y7R fun v : yo6 => .inr v := fun R κ again v => by kernel_rfl
theorem ylW : LF yg7 ygb 115 10 Tryz.f115 0 y2a @y7R fun t => t := (LC.sum ygc ygd)
theorem ylX : LK yg7 ygb 115 Tryz.f115 0 := lkN (u := y4P) yga ylW
theorem ywS : EV yg7 ygb 115 Tryz.f115 yqJ yun yaW JX := fun x => by kernel_rfl
def yCO : QF := ⟨115, JX, okN (n := 1) Tryz.func115 ⟨ylX, trivial⟩ ywS⟩
def vT (x : yuu) : Option yeQ :=
 Option.bind (JW (x.2.2.1, x.2.2.2.2)) fun r1 => Option.bind (jr (x.1, x.2.1, x.2.2.2.1, r1)) fun r2 => some r2
theorem ywT : EV [yBA, yBB] lpN 210 Tryz.f210 yqK yuv yeR vT := fun x => by kernel_rfl
def yCP : QF := ⟨210, vT, okN (n := 0) Tryz.func210 trivial ywT⟩
def vU (x : yA9) : Option Bool :=
 Option.bind (vT (x.1, x.2.1, x.2.2.1, x.2.2.2.1, x.2.2.2.2.2.2.2.2)) fun r1 => Option.bind (bif r1.2.2.2.2.2 then some (r1.2.1 == x.2.2.2.2.1) else some false) fun u2 => some u2
theorem ywU : EV [yCP] lpN 209 Tryz.f209 yqL yAa [.bool] vU := fun x => by kernel_rfl
def yCQ : QF := ⟨209, vU, okN (n := 0) Tryz.func209 trivial ywU⟩
abbrev WM : Type := yAb
def Zm (k0 : Bool → Option R) (k1 : Unit → Option R) (again : WM → Option R) (t2 : WM) : Option R :=
 bif (decide (t2.1 < (List.length t2.2.2.2.2.2.1 : Int))) then if (0 : Int) ≤ t2.1 then if t2.1 < (List.length t2.2.2.2.2.2.1 : Int) then Option.bind (bif (decide ((yi t2.2.2.2.2.2.1 t2.1).2.2.1 > t2.2.2.2.2.2.2.2.1)) then if (0 : Int) ≤ t2.1 then if t2.1 < (List.length t2.2.2.2.2.2.1 : Int) then Option.bind (vU (t2.2.1, t2.2.2.1, t2.2.2.2.1, t2.2.2.2.2.2.2.2.1, t2.2.2.2.2.2.2.2.2.1, t2.2.2.2.2.2.2.2.2.2.1, t2.2.2.2.2.2.2.2.2.2.2.1, t2.2.2.2.2.2.2.2.2.2.2.2, (yi t2.2.2.2.2.2.1 t2.1).2.1)) fun r2 => some r2 else none else none else some false) fun u1 => bif u1 then k0 true else again ((Go.IntKind.wrap .i64 (t2.1 + (1 : Int))), t2.2.1, t2.2.2.1, t2.2.2.2.1, t2.2.2.2.2.1, t2.2.2.2.2.2.1, t2.2.2.2.2.2.2.1, t2.2.2.2.2.2.2.2.1, t2.2.2.2.2.2.2.2.2.1, t2.2.2.2.2.2.2.2.2.2.1, t2.2.2.2.2.2.2.2.2.2.2.1, t2.2.2.2.2.2.2.2.2.2.2.2) else none else none else k1 ()
def Vz k0 k1 := zR (@Zm R k0 k1) Yd
def jJ (x : ynx) : Option Bool :=
 Vz (fun x3 => some x3) (fun x4 => some false) ((0 : Int), x.1, x.2.1, x.2.2.1, x.2.2.2.1, x.2.2.2.2.1, x.2.2.2.2.2.1, x.2.2.2.2.2.2.1, x.2.2.2.2.2.2.2.1, x.2.2.2.2.2.2.2.2.1, x.2.2.2.2.2.2.2.2.2.1, x.2.2.2.2.2.2.2.2.2.2)
def ylY : List QF := [yCQ]
def y7S (t : yAb) : St := ⟨dd 2 (.box 2 0 :: .box 3 0 :: .dead :: vI t.1 :: dd 30 []), [(2, .box [z3 t.2.1, yw t.2.2.1, zd t.2.2.2.1, yK t.2.2.2.2.1, zC t.2.2.2.2.2.1, vI t.2.2.2.2.2.2.1]), (3, .box [vI t.2.2.2.2.2.2.2.1, vI t.2.2.2.2.2.2.2.2.1, vI t.2.2.2.2.2.2.2.2.2.1, vI t.2.2.2.2.2.2.2.2.2.2.1, vI t.2.2.2.2.2.2.2.2.2.2.2])]⟩
def yjU : Gk WM := fun κ => Zm (fun t => κ none ⟨dd 4 (vB t :: dd 31 []), []⟩) (fun t => κ (some 0) ⟨dd 36 [], []⟩)
def ylZ : Lp := lpC 2 (unG yAc y7S) @yjU lpN
theorem ysB : LF ylY ylZ 206 2 Tryz.f206 0 y7S @yjU fun t => t := fun R κ again t => by kernel_rfl
theorem ysC : LK ylY ylZ 206 Tryz.f206 0 := lkN (u := (unG yAc y7S)) (yq fun t => by kernel_rfl) ysB
theorem ywV : EV ylY ylZ 206 Tryz.f206 yqM yny [.bool] jJ := fun x => by kernel_rfl
def yCR : QF := ⟨206, jJ, okN (n := 1) Tryz.func206 ⟨ysC, trivial⟩ ywV⟩
abbrev qP : Type := yv1
def WN (k0 : Bool → Option R) (k1 : Unit → Option R) (again : qP → Option R) (t2 : qP) : Option R :=
 bif (decide (t2.2.1 < (List.length t2.2.2.2.2.2.2.1 : Int))) then if (0 : Int) ≤ t2.2.1 then if t2.2.1 < (List.length t2.2.2.2.2.2.2.1 : Int) then bif ((yi t2.2.2.2.2.2.2.1 t2.2.1).2.1 == t2.1) then k0 false else again (t2.1, (Go.IntKind.wrap .i64 (t2.2.1 + (1 : Int))), t2.2.2.1, t2.2.2.2.1, t2.2.2.2.2.1, t2.2.2.2.2.2.1, t2.2.2.2.2.2.2.1, t2.2.2.2.2.2.2.2) else none else none else k1 ()
def y2b k0 k1 := zR (@WN R k0 k1) Yd
def kS (x : yaV) : Option Bool :=
 y2b (fun x1 => some x1) (fun x2 => some true) (x.2.2.2.2.2.2, (0 : Int), x.1, x.2.1, x.2.2.1, x.2.2.2.1, x.2.2.2.2.1, x.2.2.2.2.2.1)
def ym0 : List QF := []
def y7T (t : yv1) : St := ⟨.dead :: vI t.1 :: .box 2 0 :: dd 2 (vI t.2.1 :: dd 15 []), [(2, .box [z3 t.2.2.1, yw t.2.2.2.1, zd t.2.2.2.2.1, yK t.2.2.2.2.2.1, zC t.2.2.2.2.2.2.1, vI t.2.2.2.2.2.2.2])]⟩
def yjV : Gk qP := fun κ => WN (fun t => κ none ⟨dd 4 (vB t :: dd 16 []), []⟩) (fun t => κ (some 0) ⟨dd 21 [], []⟩)
def ym1 : Lp := lpC 2 (unG yAd y7T) @yjV lpN
theorem ysD : LF ym0 ym1 194 2 Tryz.f194 0 y7T @yjV fun t => t := fun R κ again t => by kernel_rfl
theorem ysE : LK ym0 ym1 194 Tryz.f194 0 := lkN (u := (unG yAd y7T)) (yq fun t => by kernel_rfl) ysD
theorem ywW : EV ym0 ym1 194 Tryz.f194 yqN yaW [.bool] kS := fun x => by kernel_rfl
def yBE : QF := ⟨194, kS, okN (n := 1) Tryz.func194 ⟨ysE, trivial⟩ ywW⟩
def Zn (x : yaV) : Option Int :=
 Option.bind (jo (x.2.2.1, x.2.2.2.2.2.2)) fun r1 => Option.bind (kS x) fun r2 => Option.bind (bif (!r2) then some true else some ((List.length r1 : Int) != (1 : Int))) fun u3 => bif u3 then some (0 : Int) else if (0 : Int) ≤ (0 : Int) then if (0 : Int) < (List.length r1 : Int) then some (zu r1 (0 : Int)) else none else none
theorem ywX : EV [yw5, yBE] lpN 172 Tryz.f172 yqO yaW [(.int .i64)] Zn := fun x => by kernel_rfl
def yBF : QF := ⟨172, Zn, okN (n := 0) Tryz.func172 trivial ywX⟩
def Ki (x : ynx) : Option Bool :=
 Option.bind (Zn (x.1, x.2.1, x.2.2.1, x.2.2.2.1, x.2.2.2.2.1, x.2.2.2.2.2.1, x.2.2.2.2.2.2.2.1)) fun r1 => bif (r1 == (0 : Int)) then some false else Option.bind (jq (x.1, x.2.1, x.2.2.2.2.2.2.1, r1)) fun r2 => some (!r2.2.2.2.2.2)
theorem ywY : EV [ywy, yBF] lpN 207 Tryz.f207 yqP yny [.bool] Ki := fun x => by kernel_rfl
def yCS : QF := ⟨207, Ki, okN (n := 0) Tryz.func207 trivial ywY⟩
def WO (x : yAe) : Option Bool :=
 bif (x.2.2.2.2.2.2.1 == (1 : Int)) then Option.bind (jJ (x.1, x.2.1, x.2.2.1, x.2.2.2.1, x.2.2.2.2.1, x.2.2.2.2.2.1, x.2.2.2.2.2.2.2)) fun r1 => some (!r1) else bif (x.2.2.2.2.2.2.1 == (2 : Int)) then Option.bind (Zc (x.1, x.2.1, x.2.2.1, x.2.2.2.2.2.2.2.1, x.2.2.2.2.2.2.2.2.1)) fun r2 => Option.bind (bif (x.2.2.2.2.2.2.2.2.2.1 == (2 : Int)) then some (!r2.2.2.2.2.2) else some false) fun u3 => some u3 else Option.bind (Ki (x.1, x.2.1, x.2.2.1, x.2.2.2.1, x.2.2.2.2.1, x.2.2.2.2.2.1, x.2.2.2.2.2.2.2)) fun r4 => some r4
theorem ywZ : EV [yBC, yCR, yCS] lpN 192 Tryz.f192 yqQ yAf [.bool] WO := fun x => by kernel_rfl
def yCT : QF := ⟨192, WO, okN (n := 0) Tryz.func192 trivial ywZ⟩
abbrev vV : Type := yjj
def Jm (k0 : yCb → Option R) (k1 : yhl → Option R) (again : vV → Option R) (t3 : vV) : Option R :=
 bif (decide (t3.2.1 < (List.length t3.2.2.2.2.2.2.2.2 : Int))) then if (0 : Int) ≤ t3.2.1 then if t3.2.1 < (List.length t3.2.2.2.2.2.2.2.2 : Int) then bif ((y6 t3.2.2.2.2.2.2.2.2 t3.2.1).2.1 == t3.1) then k0 (t3.1, false, t3.2.2.1, t3.2.2.2.1, t3.2.2.2.2.1, t3.2.2.2.2.2.1, t3.2.2.2.2.2.2.1, t3.2.2.2.2.2.2.2.1) else again (t3.1, (Go.IntKind.wrap .i64 (t3.2.1 + (1 : Int))), t3.2.2.1, t3.2.2.2.1, t3.2.2.2.2.1, t3.2.2.2.2.2.1, t3.2.2.2.2.2.2.1, t3.2.2.2.2.2.2.2.1, t3.2.2.2.2.2.2.2.2) else none else none else k1 (t3.1, t3.2.2.1, t3.2.2.2.1, t3.2.2.2.2.1, t3.2.2.2.2.2.1, t3.2.2.2.2.2.2.1, t3.2.2.2.2.2.2.2.1)
def QY k0 k1 := zR (@Jm R k0 k1) Yd
def WP (x : yaV) : Option Bool :=
 Option.bind (yP (x.1, x.2.1)) fun r1 => QY (fun x2 => some x2.2.1) (fun x3 => Option.bind (kS (x3.2.1, x3.2.2.1, x3.2.2.2.1, x3.2.2.2.2.1, x3.2.2.2.2.2.1, x3.2.2.2.2.2.2, x3.1)) fun r4 => Option.bind (bif r4 then Option.bind (jo (x3.2.2.2.1, x3.1)) fun r6 => some (decide ((List.length r6 : Int) ≤ (1 : Int))) else some false) fun u5 => some u5) (x.2.2.2.2.2.2, (0 : Int), x.1, x.2.1, x.2.2.1, x.2.2.2.1, x.2.2.2.2.1, x.2.2.2.2.2.1, r1)
def ym2 : List QF := [yle, yw5, yBE]
def y7U (t : yjj) : St := ⟨.dead :: vI t.1 :: .box 2 0 :: dd 2 (.own 10000000 :: vI t.2.1 :: dd 27 []), [(2, .box [z3 t.2.2.1, yw t.2.2.2.1, zd t.2.2.2.2.1, yK t.2.2.2.2.2.1, zC t.2.2.2.2.2.2.1, vI t.2.2.2.2.2.2.2.1]), (10000000, .root true 63 yh t.2.2.2.2.2.2.2.2)]⟩
def yjW : Gk vV := fun κ => Jm (fun t => κ none ⟨.dead :: vI t.1 :: .box 2 0 :: .dead :: vB t.2.1 :: dd 29 [], [(2, .box [z3 t.2.2.1, yw t.2.2.2.1, zd t.2.2.2.2.1, yK t.2.2.2.2.2.1, zC t.2.2.2.2.2.2.1, vI t.2.2.2.2.2.2.2])]⟩) (fun t => κ (some 0) ⟨.dead :: vI t.1 :: .box 2 0 :: dd 31 [], [(2, .box [z3 t.2.1, yw t.2.2.1, zd t.2.2.2.1, yK t.2.2.2.2.1, zC t.2.2.2.2.2.1, vI t.2.2.2.2.2.2])]⟩)
def ym3 : Lp := lpC 3 (unG ynw y7U) @yjW lpN
theorem ysF : LF ym2 ym3 193 3 Tryz.f193 0 y7U @yjW fun t => t := fun R κ again t => by kernel_rfl
theorem ysG : LK ym2 ym3 193 Tryz.f193 0 := lkN (u := (unG ynw y7U)) (yq fun t => by kernel_rfl) ysF
theorem yx0 : EV ym2 ym3 193 Tryz.f193 yqR yaW [.bool] WP := fun x => by kernel_rfl
def yCU : QF := ⟨193, WP, okN (n := 1) Tryz.func193 ⟨ysG, trivial⟩ yx0⟩
abbrev kT : Type := yjj
def ZU (k0 : yo1 → Option R) (k1 : ykL → Option R) (again : kT → Option R) (t8 : kT) : Option R :=
 bif (decide (t8.2.1 < (List.length t8.2.2.2.2.2.2.2.2 : Int))) then if (0 : Int) ≤ t8.2.1 then if t8.2.1 < (List.length t8.2.2.2.2.2.2.2.2 : Int) then Option.bind (WO (t8.2.2.1, t8.2.2.2.1, t8.2.2.2.2.1, t8.2.2.2.2.2.1, t8.2.2.2.2.2.2.1, t8.2.2.2.2.2.2.2.1, t8.1, (y6 t8.2.2.2.2.2.2.2.2 t8.2.1).1, (y6 t8.2.2.2.2.2.2.2.2 t8.2.1).2.1, (y6 t8.2.2.2.2.2.2.2.2 t8.2.1).2.2.1, (y6 t8.2.2.2.2.2.2.2.2 t8.2.1).2.2.2.1, (y6 t8.2.2.2.2.2.2.2.2 t8.2.1).2.2.2.2)) fun r3 => bif r3 then k0 (t8.1, t8.2.1, t8.1, t8.2.2) else again (t8.1, (Go.IntKind.wrap .i64 (t8.2.1 + (1 : Int))), t8.2.2.1, t8.2.2.2.1, t8.2.2.2.2.1, t8.2.2.2.2.2.1, t8.2.2.2.2.2.2.1, t8.2.2.2.2.2.2.2.1, t8.2.2.2.2.2.2.2.2) else none else none else k1 (t8.1, t8.2.2)
def qn k0 k1 := zR (@ZU R k0 k1) Yd
abbrev kU : Type := ykL
def ZV (k0 : yv1 → Option R) (k1 : Qz9 → Option R) (again : kU → Option R) (t5 : kU) : Option R :=
 bif (decide (t5.1 ≤ (3 : Int))) then qn (fun x4 => k0 (x4.1, x4.2.1, x4.2.2.2.1, x4.2.2.2.2.1, x4.2.2.2.2.2.1, x4.2.2.2.2.2.2.1, x4.2.2.2.2.2.2.2.1, x4.2.2.2.2.2.2.2.2.1)) (fun x5 => again ((Go.IntKind.wrap .i64 (x5.1 + (1 : Int))), x5.2.1, x5.2.2.1, x5.2.2.2.1, x5.2.2.2.2.1, x5.2.2.2.2.2.1, x5.2.2.2.2.2.2.1, x5.2.2.2.2.2.2.2)) (t5.1, (0 : Int), t5.2.1, t5.2.2.1, t5.2.2.2.1, t5.2.2.2.2.1, t5.2.2.2.2.2.1, t5.2.2.2.2.2.2.1, t5.2.2.2.2.2.2.2) else k1 (t5.2.1, t5.2.2.1, t5.2.2.2.1, t5.2.2.2.2.1, t5.2.2.2.2.2.1, t5.2.2.2.2.2.2.1)
def qo k0 k1 := zR (@ZV R k0 k1) Yd
abbrev WQ : Type := yhl
def Zo (k0 : yhj → Option R) (k1 : Unit → Option R) (again : WQ → Option R) (t13 : WQ) : Option R :=
 bif (decide (t13.1 < (List.length t13.2.2.2.1 : Int))) then if (0 : Int) ≤ t13.1 then if t13.1 < (List.length t13.2.2.2.1 : Int) then Option.bind (WP (t13.2.1, t13.2.2.1, t13.2.2.2.1, t13.2.2.2.2.1, t13.2.2.2.2.2.1, t13.2.2.2.2.2.2, (yA t13.2.2.2.1 t13.1).1)) fun r8 => bif r8 then k0 ((4 : Int), t13.1) else again ((Go.IntKind.wrap .i64 (t13.1 + (1 : Int))), t13.2.1, t13.2.2.1, t13.2.2.2.1, t13.2.2.2.2.1, t13.2.2.2.2.2.1, t13.2.2.2.2.2.2) else none else none else k1 ()
def VA k0 k1 := zR (@Zo R k0 k1) Yd
def Jn (x : Qz9) : Option yhj :=
 Option.bind (yL x) fun r1 => bif (!r1) then some ((0 : Int), (0 : Int)) else Option.bind (yP (x.1, x.2.1)) fun r2 => qo (fun x6 => some (x6.1, x6.2.1)) (fun x7 => VA (fun x9 => some x9) (fun x10 => some ((0 : Int), (0 : Int))) ((0 : Int), x7.1, x7.2.1, x7.2.2.1, x7.2.2.2.1, x7.2.2.2.2.1, x7.2.2.2.2.2)) ((1 : Int), x.1, x.2.1, x.2.2.1, x.2.2.2.1, x.2.2.2.2.1, x.2.2.2.2.2, r2)
def ybz : List QF := [ylv, yle, yCT, yCU]
def y7V (t : yjj) : St := ⟨.dead :: .box 1 0 :: dd 2 (.own 10000000 :: vI t.1 :: vI t.2.1 :: dd 42 []), [(1, .box [z3 t.2.2.1, yw t.2.2.2.1, zd t.2.2.2.2.1, yK t.2.2.2.2.2.1, zC t.2.2.2.2.2.2.1, vI t.2.2.2.2.2.2.2.1]), (10000000, .root true 63 yh t.2.2.2.2.2.2.2.2)]⟩
def yjX : Gk kT := fun κ => ZU (fun t => κ none ⟨.dead :: .box 1 0 :: vI t.1 :: vI t.2.1 :: .own 10000000 :: vI t.2.2.1 :: dd 43 [], [(1, .box [z3 t.2.2.2.1, yw t.2.2.2.2.1, zd t.2.2.2.2.2.1, yK t.2.2.2.2.2.2.1, zC t.2.2.2.2.2.2.2.1, vI t.2.2.2.2.2.2.2.2.1]), (10000000, .root true 63 yh t.2.2.2.2.2.2.2.2.2)]⟩) (fun t => κ (some 2) ⟨.dead :: .box 1 0 :: dd 2 (.own 10000000 :: vI t.1 :: dd 43 []), [(1, .box [z3 t.2.1, yw t.2.2.1, zd t.2.2.2.1, yK t.2.2.2.2.1, zC t.2.2.2.2.2.1, vI t.2.2.2.2.2.2.1]), (10000000, .root true 63 yh t.2.2.2.2.2.2.2)]⟩)
def y7W (t : ykL) : St := ⟨.dead :: .box 1 0 :: dd 2 (.own 10000000 :: vI t.1 :: dd 43 []), [(1, .box [z3 t.2.1, yw t.2.2.1, zd t.2.2.2.1, yK t.2.2.2.2.1, zC t.2.2.2.2.2.1, vI t.2.2.2.2.2.2.1]), (10000000, .root true 63 yh t.2.2.2.2.2.2.2)]⟩
def yjY : Gk kU := fun κ => ZV (fun t => κ none ⟨.dead :: .box 1 0 :: vI t.1 :: vI t.2.1 :: dd 45 [], [(1, .box [z3 t.2.2.1, yw t.2.2.2.1, zd t.2.2.2.2.1, yK t.2.2.2.2.2.1, zC t.2.2.2.2.2.2.1, vI t.2.2.2.2.2.2.2])]⟩) (fun t => κ (some 0) ⟨.dead :: .box 1 0 :: dd 47 [], [(1, .box [z3 t.1, yw t.2.1, zd t.2.2.1, yK t.2.2.2.1, zC t.2.2.2.2.1, vI t.2.2.2.2.2])]⟩)
def y4Q (t : yhl) : St := ⟨.dead :: .box 1 0 :: dd 5 (vI t.1 :: dd 41 []), [(1, .box [z3 t.2.1, yw t.2.2.1, zd t.2.2.2.1, yK t.2.2.2.2.1, zC t.2.2.2.2.2.1, vI t.2.2.2.2.2.2])]⟩
def yge : Gk WQ := fun κ => Zo (fun t => κ none ⟨dd 2 (vI t.1 :: vI t.2 :: dd 45 []), []⟩) (fun t => κ (some 4) ⟨dd 49 [], []⟩)
def ybA : Lp := lpC 13 (unG ynv y4Q) @yge (lpC 5 (unG yo7 y7W) @yjY (lpC 8 (unG ynw y7V) @yjX lpN))
theorem ysH : LF ybz ybA 170 8 Tryz.f170 1 y7V @yjX fun t => t := fun R κ again t => by kernel_rfl
theorem ysI : LK ybz ybA 170 Tryz.f170 1 := lkN (u := (unG ynw y7V)) (yq fun t => by kernel_rfl) ysH
theorem ysJ : LF ybz ybA 170 5 Tryz.f170 0 y7W @yjY fun t => t := fun R κ again t => by kernel_rfl
theorem ysK : LK ybz ybA 170 Tryz.f170 0 := lkN (u := (unG yo7 y7W)) (yq fun t => by kernel_rfl) ysJ
theorem ym4 : LF ybz ybA 170 13 Tryz.f170 2 y4Q @yge fun t => t := fun R κ again t => by kernel_rfl
theorem ym5 : LK ybz ybA 170 Tryz.f170 2 := lkN (u := (unG ynv y4Q)) (yq fun t => by kernel_rfl) ym4
theorem yx1 : EV ybz ybA 170 Tryz.f170 yqS qz9 ykJ Jn := fun x => by kernel_rfl
def yCV : QF := ⟨170, Jn, okN (n := 3) Tryz.func170 ⟨ysK, ysI, ym5, trivial⟩ yx1⟩
def ZH (x : ynx) : Option yi4 :=
 Option.bind (zL (x.1, x.2.1, x.2.2.1, x.2.2.2.1, x.2.2.2.2.1, x.2.2.2.2.2.1, x.2.2.2.2.2.2.1, x.2.2.2.2.2.2.2.1, (0 : Int), (0 : Int), (0 : Int))) fun r1 => some r1
theorem yx2 : EV [ywJ] lpN 171 Tryz.f171 yqT yny yo0 ZH := fun x => by kernel_rfl
def yCW : QF := ⟨171, ZH, okN (n := 0) Tryz.func171 trivial yx2⟩
abbrev vW : Type := yo8
def WR (k0 : List y9 → Option R) (again : vW → Option R) (t6 : vW) : Option R :=
 bif (decide (t6.2.2.2.1 < (List.length t6.1 : Int))) then if (0 : Int) ≤ t6.2.2.2.1 then if t6.2.2.2.1 < (List.length t6.1 : Int) then bif ((yA t6.1 t6.2.2.2.1).2 == t6.2.1) then if (0 : Int) ≤ t6.2.2.1 then if t6.2.2.1 < (List.length t6.1 : Int) then bif (t6.2.2.2.1 != t6.2.2.1) then if (List.length t6.2.2.2.2 + List.length ([((yA t6.1 t6.2.2.2.1).1, (yA t6.1 t6.2.2.1).2)] : List y9)) * 16 < 140737488355328 then again (t6.1, t6.2.1, t6.2.2.1, (Go.IntKind.wrap .i64 (t6.2.2.2.1 + (1 : Int))), (t6.2.2.2.2 ++ ([((yA t6.1 t6.2.2.2.1).1, (yA t6.1 t6.2.2.1).2)] : List y9))) else none else again (t6.1, t6.2.1, t6.2.2.1, (Go.IntKind.wrap .i64 (t6.2.2.2.1 + (1 : Int))), t6.2.2.2.2) else none else none else bif (t6.2.2.2.1 != t6.2.2.1) then if (List.length t6.2.2.2.2 + List.length ([((yA t6.1 t6.2.2.2.1).1, (yA t6.1 t6.2.2.2.1).2)] : List y9)) * 16 < 140737488355328 then again (t6.1, t6.2.1, t6.2.2.1, (Go.IntKind.wrap .i64 (t6.2.2.2.1 + (1 : Int))), (t6.2.2.2.2 ++ ([((yA t6.1 t6.2.2.2.1).1, (yA t6.1 t6.2.2.2.1).2)] : List y9))) else none else again (t6.1, t6.2.1, t6.2.2.1, (Go.IntKind.wrap .i64 (t6.2.2.2.1 + (1 : Int))), t6.2.2.2.2) else none else none else k0 t6.2.2.2.2
def QZ k0 := zR (@WR R k0) Yd
def JY (x : yfF) : Option ynX :=
 Option.bind (zQ x) fun r1 => Option.bind (bif (decide (r1 < (0 : Int))) then some true else Option.bind (Zi x.1) fun r3 => some (!r3)) fun u2 => bif u2 then if (List.length ([] : List y9) + List.length x.1) * 16 < 140737488355328 then some ((([] : List y9) ++ x.1), false) else none else QZ (fun x4 => some (x4, true)) (x.1, x.2, r1, (0 : Int), ([] : List y9))
def ym6 : List QF := [yw1, ynz]
def y7X (t : yo8) : St := ⟨zd t.1 :: vI t.2.1 :: dd 4 (vI t.2.2.1 :: .own 10000000 :: vI t.2.2.2.1 :: dd 43 []), [(10000000, .root true 67 yn t.2.2.2.2)]⟩
def yjZ : Gk vW := fun κ => WR (fun t => κ (some 0) ⟨dd 7 (.own 10000000 :: dd 44 []), [(10000000, .root true 67 yn t)]⟩)
def ym7 : Lp := lpC 6 (unG yo9 y7X) @yjZ lpN
theorem ysL : LF ym6 ym7 173 6 Tryz.f173 0 y7X @yjZ fun t => t := fun R κ again t => by kernel_rfl
theorem ysM : LK ym6 ym7 173 Tryz.f173 0 := lkN (u := (unG yo9 y7X)) (yq fun t => by kernel_rfl) ysL
theorem yx3 : EV ym6 ym7 173 Tryz.f173 yqU yfG yuQ JY := fun x => by kernel_rfl
def yCX : QF := ⟨173, JY, okN (n := 1) Tryz.func173 ⟨ysM, trivial⟩ yx3⟩
def Ye (x : Qz9) : Option yfH :=
 Option.bind (ym x) fun r1 => Option.bind (Jn x) fun r2 => Option.bind (yP (x.1, x.2.1)) fun r3 => bif (r2.1 == (1 : Int)) then bif (r2.1 == (1 : Int)) then if (0 : Int) ≤ r2.2 then if r2.2 < (List.length r3 : Int) then Option.bind (ZH (r1.1, r1.2.1, r1.2.2.1, r1.2.2.2.1, r1.2.2.2.2.1, r1.2.2.2.2.2, (y6 r3 r2.2).1, (y6 r3 r2.2).2.1, (y6 r3 r2.2).2.2.1, (y6 r3 r2.2).2.2.2.1, (y6 r3 r2.2).2.2.2.2)) fun r4 => Option.bind (bif (!r4.1) then some true else Option.bind (yL r4.2) fun r6 => some (!r6)) fun u5 => bif u5 then Option.bind (ym x) fun r7 => some (r7.1, r7.2.1, r7.2.2.1, r7.2.2.2.1, r7.2.2.2.2.1, r7.2.2.2.2.2, false) else some (r4.2.1, r4.2.2.1, r4.2.2.2.1, r4.2.2.2.2.1, r4.2.2.2.2.2.1, r4.2.2.2.2.2.2, true) else none else none else bif (r2.1 == (3 : Int)) then if (0 : Int) ≤ r2.2 then if r2.2 < (List.length r3 : Int) then Option.bind (Y2 (r1.1, r1.2.1, (y6 r3 r2.2).1, (y6 r3 r2.2).2.1, (0 : Int), (0 : Int), (0 : Int))) fun r8 => Option.bind (Zn (x.1, x.2.1, x.2.2.1, x.2.2.2.1, x.2.2.2.2.1, x.2.2.2.2.2, (y6 r3 r2.2).2.1)) fun r9 => Option.bind (Y2 (r8.1, r8.2.1, (y6 r3 r2.2).1, r9, (y6 r3 r2.2).2.2.1, (y6 r3 r2.2).2.2.2.1, (y6 r3 r2.2).2.2.2.2)) fun r10 => Option.bind (bif r8.2.2 then some r10.2.2 else some false) fun u11 => Option.bind (bif (!u11) then some true else Option.bind (yL (r10.1, r10.2.1, r1.2.2)) fun r13 => some (!r13)) fun u12 => bif u12 then Option.bind (ym x) fun r14 => some (r14.1, r14.2.1, r14.2.2.1, r14.2.2.2.1, r14.2.2.2.2.1, r14.2.2.2.2.2, false) else some (r10.1, r10.2.1, r1.2.2.1, r1.2.2.2.1, r1.2.2.2.2.1, r1.2.2.2.2.2, true) else none else none else bif (r2.1 == (4 : Int)) then if (0 : Int) ≤ r2.2 then if r2.2 < (List.length x.2.2.1 : Int) then Option.bind (JY (x.2.2.1, (yA x.2.2.1 r2.2).1)) fun r15 => Option.bind (bif (!r15.2) then some true else Option.bind (yL (r1.1, r1.2.1, r15.1, r1.2.2.2)) fun r17 => some (!r17)) fun u16 => bif u16 then Option.bind (ym x) fun r18 => some (r18.1, r18.2.1, r18.2.2.1, r18.2.2.2.1, r18.2.2.2.2.1, r18.2.2.2.2.2, false) else some (r1.1, r1.2.1, r15.1, r1.2.2.2.1, r1.2.2.2.2.1, r1.2.2.2.2.2, true) else none else none else Option.bind (bif (!(r2.1 != (0 : Int))) then some true else Option.bind (yL r1) fun r20 => some (!r20)) fun u19 => bif u19 then Option.bind (ym x) fun r21 => some (r21.1, r21.2.1, r21.2.2.1, r21.2.2.2.1, r21.2.2.2.2.1, r21.2.2.2.2.2, false) else some (r1.1, r1.2.1, r1.2.2.1, r1.2.2.2.1, r1.2.2.2.2.1, r1.2.2.2.2.2, true) else bif (r2.1 == (2 : Int)) then if (0 : Int) ≤ r2.2 then if r2.2 < (List.length r3 : Int) then Option.bind (ZH (r1.1, r1.2.1, r1.2.2.1, r1.2.2.2.1, r1.2.2.2.2.1, r1.2.2.2.2.2, (y6 r3 r2.2).1, (y6 r3 r2.2).2.1, (y6 r3 r2.2).2.2.1, (y6 r3 r2.2).2.2.2.1, (y6 r3 r2.2).2.2.2.2)) fun r22 => Option.bind (bif (!r22.1) then some true else Option.bind (yL r22.2) fun r24 => some (!r24)) fun u23 => bif u23 then Option.bind (ym x) fun r25 => some (r25.1, r25.2.1, r25.2.2.1, r25.2.2.2.1, r25.2.2.2.2.1, r25.2.2.2.2.2, false) else some (r22.2.1, r22.2.2.1, r22.2.2.2.1, r22.2.2.2.2.1, r22.2.2.2.2.2.1, r22.2.2.2.2.2.2, true) else none else none else bif (r2.1 == (3 : Int)) then if (0 : Int) ≤ r2.2 then if r2.2 < (List.length r3 : Int) then Option.bind (Y2 (r1.1, r1.2.1, (y6 r3 r2.2).1, (y6 r3 r2.2).2.1, (0 : Int), (0 : Int), (0 : Int))) fun r26 => Option.bind (Zn (x.1, x.2.1, x.2.2.1, x.2.2.2.1, x.2.2.2.2.1, x.2.2.2.2.2, (y6 r3 r2.2).2.1)) fun r27 => Option.bind (Y2 (r26.1, r26.2.1, (y6 r3 r2.2).1, r27, (y6 r3 r2.2).2.2.1, (y6 r3 r2.2).2.2.2.1, (y6 r3 r2.2).2.2.2.2)) fun r28 => Option.bind (bif r26.2.2 then some r28.2.2 else some false) fun u29 => Option.bind (bif (!u29) then some true else Option.bind (yL (r28.1, r28.2.1, r1.2.2)) fun r31 => some (!r31)) fun u30 => bif u30 then Option.bind (ym x) fun r32 => some (r32.1, r32.2.1, r32.2.2.1, r32.2.2.2.1, r32.2.2.2.2.1, r32.2.2.2.2.2, false) else some (r28.1, r28.2.1, r1.2.2.1, r1.2.2.2.1, r1.2.2.2.2.1, r1.2.2.2.2.2, true) else none else none else bif (r2.1 == (4 : Int)) then if (0 : Int) ≤ r2.2 then if r2.2 < (List.length x.2.2.1 : Int) then Option.bind (JY (x.2.2.1, (yA x.2.2.1 r2.2).1)) fun r33 => Option.bind (bif (!r33.2) then some true else Option.bind (yL (r1.1, r1.2.1, r33.1, r1.2.2.2)) fun r35 => some (!r35)) fun u34 => bif u34 then Option.bind (ym x) fun r36 => some (r36.1, r36.2.1, r36.2.2.1, r36.2.2.2.1, r36.2.2.2.2.1, r36.2.2.2.2.2, false) else some (r1.1, r1.2.1, r33.1, r1.2.2.2.1, r1.2.2.2.2.1, r1.2.2.2.2.2, true) else none else none else Option.bind (bif (!(r2.1 != (0 : Int))) then some true else Option.bind (yL r1) fun r38 => some (!r38)) fun u37 => bif u37 then Option.bind (ym x) fun r39 => some (r39.1, r39.2.1, r39.2.2.1, r39.2.2.2.1, r39.2.2.2.2.1, r39.2.2.2.2.2, false) else some (r1.1, r1.2.1, r1.2.2.1, r1.2.2.2.1, r1.2.2.2.2.1, r1.2.2.2.2.2, true)
theorem yx4 : EV [ylv, yg6, yle, ywF, yCV, yCW, yBF, yCX] lpN 152 Tryz.f152 yqV qz9 yfI Ye := fun x => by kernel_rfl
def yCY : QF := ⟨152, Ye, okN (n := 0) Tryz.func152 trivial yx4⟩
def WS (x : List ya) : Option (List ya) :=
 Option.bind (yC x) fun r1 => Option.bind (yY r1) fun r2 => some r2
theorem yx5 : EV [ylb, yuy] lpN 195 Tryz.f195 yqW [(.sl 58 yt)] [(.sl 58 yt)] WS := fun x => by kernel_rfl
def yCZ : QF := ⟨195, WS, okN (n := 0) Tryz.func195 trivial yx5⟩
def Jo (x : ynV) : Option Qz8 :=
 Option.bind (Zk (x.1, x.2.1)) fun r1 => Option.bind (yB (x.2.2, (0 : Int), (Go.IntKind.wrap .i64 ((List.length x.2.1 : Int) - (1 : Int))))) fun r2 => bif r2 then if (0 : Int) ≤ x.2.2 then if x.2.2 < (List.length x.2.1 : Int) then Option.bind (WS (yf x.2.1 x.2.2)) fun r3 => if (0 : Int) ≤ x.2.2 then if x.2.2 < (List.length r1.2 : Int) then some (r1.1, (List.set r1.2 (Int.toNat x.2.2) r3)) else none else none else none else none else some r1
theorem yx6 : EV [y7f, ywd, yCZ] lpN 174 Tryz.f174 yqX ynW qz8 Jo := fun x => by kernel_rfl
def yD0 : QF := ⟨174, Jo, okN (n := 0) Tryz.func174 trivial yx6⟩
def Yx (x : yaV) : Option yfH :=
 Option.bind (ym (x.1, x.2.1, x.2.2.1, x.2.2.2.1, x.2.2.2.2.1, x.2.2.2.2.2.1)) fun r1 => Option.bind (yL (x.1, x.2.1, x.2.2.1, x.2.2.2.1, x.2.2.2.2.1, x.2.2.2.2.2.1)) fun r2 => Option.bind (bif (!r2) then some true else Option.bind (yB (x.2.2.2.2.2.2, (0 : Int), (Go.IntKind.wrap .i64 ((List.length x.2.1 : Int) - (1 : Int))))) fun r4 => some (!r4)) fun u3 => bif u3 then some (r1.1, r1.2.1, r1.2.2.1, r1.2.2.2.1, r1.2.2.2.2.1, r1.2.2.2.2.2, false) else Option.bind (Jo (x.1, x.2.1, x.2.2.2.2.2.2)) fun r5 => some (r5.1, r5.2, r1.2.2.1, r1.2.2.2.1, r1.2.2.2.2.1, r1.2.2.2.2.2, true)
theorem yx7 : EV [ylv, yg6, y7f, yD0] lpN 153 Tryz.f153 yqY yaW yfI Yx := fun x => by kernel_rfl
def yD1 : QF := ⟨153, Yx, okN (n := 0) Tryz.func153 trivial yx7⟩
abbrev vX : Type := yoa
def Jp (k0 : yhi → Option R) (k1 : yhi → Option R) (again : vX → Option R) (t3 : vX) : Option R :=
 bif (decide (t3.2.1 < (List.length t3.2.2.2.2.2.2.2 : Int))) then if (0 : Int) ≤ t3.2.1 then if t3.2.1 < (List.length t3.2.2.2.2.2.2.2 : Int) then Option.bind (bif ((y6 t3.2.2.2.2.2.2.2 t3.2.1).2.2.1 == (1 : Int)) then if (0 : Int) ≤ t3.2.1 then if t3.2.1 < (List.length t3.2.2.2.2.2.2.2 : Int) then some ((y6 t3.2.2.2.2.2.2.2 t3.2.1).2.2.2.1 == t3.1) else none else none else some false) fun u2 => bif u2 then if (0 : Int) ≤ t3.2.1 then if t3.2.1 < (List.length t3.2.2.2.2.2.2.2 : Int) then k0 ((y6 t3.2.2.2.2.2.2.2 t3.2.1).1, (y6 t3.2.2.2.2.2.2.2 t3.2.1).2.1, (y6 t3.2.2.2.2.2.2.2 t3.2.1).2.2.1, (y6 t3.2.2.2.2.2.2.2 t3.2.1).2.2.2.1, (y6 t3.2.2.2.2.2.2.2 t3.2.1).2.2.2.2) else none else none else again (t3.1, (Go.IntKind.wrap .i64 (t3.2.1 + (1 : Int))), t3.2.2.1, t3.2.2.2.1, t3.2.2.2.2.1, t3.2.2.2.2.2.1, t3.2.2.2.2.2.2.1, t3.2.2.2.2.2.2.2) else none else none else k1 (t3.2.2.1, t3.2.2.2.1, t3.2.2.2.2.1, t3.2.2.2.2.2.1, t3.2.2.2.2.2.2.1)
def y00 k0 k1 := zR (@Jp R k0 k1) Yd
def WT (x : yaV) : Option yhi :=
 Option.bind (yP (x.1, x.2.1)) fun r1 => y00 (fun x3 => some x3) (fun x4 => some ((0 : Int), (0 : Int), (0 : Int), (0 : Int), (0 : Int))) (x.2.2.2.2.2.2, (0 : Int), (0 : Int), (0 : Int), (0 : Int), (0 : Int), (0 : Int), r1)
def ym8 : List QF := [yle]
def y7Y (t : yoa) : St := ⟨.dead :: vI t.1 :: dd 2 (.box 4 0 :: .own 10000000 :: vI t.2.1 :: dd 29 []), [(4, .box [vI t.2.2.1, vI t.2.2.2.1, vI t.2.2.2.2.1, vI t.2.2.2.2.2.1, vI t.2.2.2.2.2.2.1]), (10000000, .root true 63 yh t.2.2.2.2.2.2.2)]⟩
def yk0 : Gk vX := fun κ => Jp (fun t => κ none ⟨dd 4 (.box 4 0 :: dd 31 []), [(4, .box [vI t.1, vI t.2.1, vI t.2.2.1, vI t.2.2.2.1, vI t.2.2.2.2])]⟩) (fun t => κ (some 0) ⟨dd 4 (.box 4 0 :: dd 31 []), [(4, .box [vI t.1, vI t.2.1, vI t.2.2.1, vI t.2.2.2.1, vI t.2.2.2.2])]⟩)
def ym9 : Lp := lpC 3 (unG yob y7Y) @yk0 lpN
theorem ysN : LF ym8 ym9 175 3 Tryz.f175 0 y7Y @yk0 fun t => t := fun R κ again t => by kernel_rfl
theorem ysO : LK ym8 ym9 175 Tryz.f175 0 := lkN (u := (unG yob y7Y)) (yq fun t => by kernel_rfl) ysN
theorem yx8 : EV ym8 ym9 175 Tryz.f175 yqZ yaW Vo WT := fun x => by kernel_rfl
def yD2 : QF := ⟨175, WT, okN (n := 1) Tryz.func175 ⟨ysO, trivial⟩ yx8⟩
def Yy (x : yaV) : Option yfH :=
 Option.bind (ym (x.1, x.2.1, x.2.2.1, x.2.2.2.1, x.2.2.2.2.1, x.2.2.2.2.2.1)) fun r1 => Option.bind (yL (x.1, x.2.1, x.2.2.1, x.2.2.2.1, x.2.2.2.2.1, x.2.2.2.2.2.1)) fun r2 => Option.bind (bif (!r2) then some true else Option.bind (yB (x.2.2.2.2.2.2, (0 : Int), (Go.IntKind.wrap .i64 ((List.length x.2.2.2.1 : Int) - (1 : Int))))) fun r4 => some (!r4)) fun u3 => Option.bind (bif u3 then some true else if (0 : Int) ≤ x.2.2.2.2.2.2 then if x.2.2.2.2.2.2 < (List.length x.2.2.2.1 : Int) then some (!((yG x.2.2.2.1 x.2.2.2.2.2.2).2.1)) else none else none) fun u5 => bif u5 then some (r1.1, r1.2.1, r1.2.2.1, r1.2.2.2.1, r1.2.2.2.2.1, r1.2.2.2.2.2, false) else Option.bind (WT x) fun r6 => if (0 : Int) ≤ x.2.2.2.2.2.2 then if x.2.2.2.2.2.2 < (List.length x.2.2.2.1 : Int) then Option.bind (Y6 (x.2.2.2.1, (yG x.2.2.2.1 x.2.2.2.2.2.2).2.2)) fun r7 => Option.bind (bif (!r7.2.2) then some true else some (decide (r7.2.1 > x.2.2.2.2.2.2))) fun u8 => bif u8 then some (r1.1, r1.2.1, r1.2.2.1, r1.2.2.2.1, r1.2.2.2.2.1, r1.2.2.2.2.2, false) else if (0 : Int) ≤ r7.2.1 then if r7.2.1 < (List.length r7.1 : Int) then Option.bind (Y2 (x.1, x.2.1, r6.1, r6.2.1, r6.2.2.1, r7.2.1, (yG r7.1 r7.2.1).1)) fun r9 => Option.bind (ZT (r7.1, x.2.2.2.2.2.2)) fun r10 => Option.bind (bif (!r9.2.2) then some true else Option.bind (yL (r9.1, r9.2.1, r1.2.2.1, r10, r1.2.2.2.2)) fun r12 => some (!r12)) fun u11 => bif u11 then Option.bind (ym (x.1, x.2.1, x.2.2.1, x.2.2.2.1, x.2.2.2.2.1, x.2.2.2.2.2.1)) fun r13 => some (r13.1, r13.2.1, r13.2.2.1, r13.2.2.2.1, r13.2.2.2.2.1, r13.2.2.2.2.2, false) else some (r9.1, r9.2.1, r1.2.2.1, r10, r1.2.2.2.2.1, r1.2.2.2.2.2, true) else none else none else none else none
theorem yx9 : EV [ylv, yg6, y7f, yBw, ywF, yD2, yBz] lpN 154 Tryz.f154 yr0 yaW yfI Yy := fun x => by kernel_rfl
def yD3 : QF := ⟨154, Yy, okN (n := 0) Tryz.func154 trivial yx9⟩
def Kj (x : ykM) : Option yfH :=
 bif (x.2.2.2.2.2.2.1 == (7 : Int)) then Option.bind (Ye (x.1, x.2.1, x.2.2.1, x.2.2.2.1, x.2.2.2.2.1, x.2.2.2.2.2.1)) fun r1 => some r1 else bif (x.2.2.2.2.2.2.1 == (8 : Int)) then Option.bind (Yx (x.1, x.2.1, x.2.2.1, x.2.2.2.1, x.2.2.2.2.1, x.2.2.2.2.2.1, x.2.2.2.2.2.2.2.2.2.1)) fun r2 => some r2 else Option.bind (Yy (x.1, x.2.1, x.2.2.1, x.2.2.2.1, x.2.2.2.2.1, x.2.2.2.2.2.1, x.2.2.2.2.2.2.2.2.2.1)) fun r3 => some r3
theorem yxa : EV [yCY, yD1, yD3] lpN 116 Tryz.f116 yr1 ykN yfI Kj := fun x => by kernel_rfl
def yD4 : QF := ⟨116, Kj, okN (n := 0) Tryz.func116 trivial yxa⟩
def Jq (x : ykM) : Option yaV :=
 Option.bind (vz x.2.2.2.2.2.2) fun r1 => Option.bind (bif (!r1) then some true else Option.bind (yL (x.1, x.2.1, x.2.2.1, x.2.2.2.1, x.2.2.2.2.1, x.2.2.2.2.2.1)) fun r3 => some (!r3)) fun u2 => bif u2 then Option.bind (ym (x.1, x.2.1, x.2.2.1, x.2.2.2.1, x.2.2.2.2.1, x.2.2.2.2.2.1)) fun r4 => some (r4.1, r4.2.1, r4.2.2.1, r4.2.2.2.1, r4.2.2.2.2.1, r4.2.2.2.2.2, (1 : Int)) else bif (x.2.2.2.2.2.2.1 == (1 : Int)) then Option.bind (JS (x.1, x.2.1, x.2.2.1, x.2.2.2.1, x.2.2.2.2.1, x.2.2.2.2.2.1, x.2.2.2.2.2.2.2.1, x.2.2.2.2.2.2.2.2.2.1)) fun r5 => some r5 else bif (x.2.2.2.2.2.2.1 == (2 : Int)) then Option.bind (kP (x.1, x.2.1, x.2.2.1, x.2.2.2.1, x.2.2.2.2.1, x.2.2.2.2.2.1, x.2.2.2.2.2.2.2.1, x.2.2.2.2.2.2.2.2.1, (x.2.2.2.2.2.2.2.2.2.2 == (1 : Int)))) fun r6 => some r6 else bif (x.2.2.2.2.2.2.1 == (3 : Int)) then Option.bind (kQ (x.1, x.2.1, x.2.2.1, x.2.2.2.1, x.2.2.2.2.1, x.2.2.2.2.2.1, x.2.2.2.2.2.2.2.1)) fun r7 => some r7 else bif (x.2.2.2.2.2.2.1 == (4 : Int)) then Option.bind (Wg (x.1, x.2.1, x.2.2.1, x.2.2.2.1, x.2.2.2.2.1, x.2.2.2.2.2.1, x.2.2.2.2.2.2.2.1, x.2.2.2.2.2.2.2.2.2)) fun r8 => some r8 else bif (x.2.2.2.2.2.2.1 == (5 : Int)) then Option.bind (jW (x.1, x.2.1, x.2.2.1, x.2.2.2.1, x.2.2.2.2.1, x.2.2.2.2.2.1, x.2.2.2.2.2.2.2.1, x.2.2.2.2.2.2.2.2.2.1)) fun r9 => some r9 else bif (x.2.2.2.2.2.2.1 == (6 : Int)) then Option.bind (JX (x.1, x.2.1, x.2.2.1, x.2.2.2.1, x.2.2.2.2.1, x.2.2.2.2.2.1, x.2.2.2.2.2.2.2.1, x.2.2.2.2.2.2.2.2.2.1)) fun r10 => some r10 else Option.bind (Kj x) fun r11 => bif (!r11.2.2.2.2.2.2) then some (r11.1, r11.2.1, r11.2.2.1, r11.2.2.2.1, r11.2.2.2.2.1, r11.2.2.2.2.2.1, (2 : Int)) else some (r11.1, r11.2.1, r11.2.2.1, r11.2.2.2.1, r11.2.2.2.2.1, r11.2.2.2.2.2.1, (0 : Int))
theorem yD5 : EV [yCq, ylv, yg6, yCB, yCC, yCD, yCK, yCN, yCO, yD4] lpN 70 Tryz.f70 yAo ykN yaW Jq := fun x => by kernel_rfl
def q70 : QF := ⟨70, Jq, okN (n := 0) Tryz.func70 trivial yD5⟩
abbrev wU : Type := yfJ ⊕ yfK
def jK (k0 : yv2 → Option R) (k1 : yv3 → Option R) (again : wU → Option R) : wU → Option R
 | .inl t3 => bif (decide (t3.1 > (0 : Int))) then Option.bind (YW (t3.2.1, t3.2.2.1, t3.2.2.2.1)) fun r3 => Option.bind (Jq (t3.2.2.2.2.2.2.1, t3.2.2.2.2.2.2.2.1, t3.2.2.2.2.2.2.2.2.1, t3.2.2.2.2.2.2.2.2.2.1, t3.2.2.2.2.2.2.2.2.2.2, t3.2.2.2.2.2.1, r3.1, r3.2.1, r3.2.2.1, r3.2.2.2.1, r3.2.2.2.2.1)) fun r4 => again (Sum.inr ((Go.IntKind.wrap .i64 (t3.1 - (1 : Int))), r3.2.2.2.2.2.1, r3.2.2.2.2.2.2.1, r3.2.2.2.2.2.2.2, t3.2.2.2.2.1, r4.1, r4.2.1, r4.2.2.1, r4.2.2.2.2.2.1, r4.2.2.2.1, r4.2.2.2.2.1)) else k0 t3.2
 | .inr t3 => bif (decide (t3.1 > (0 : Int))) then Option.bind (YW (t3.2.1, t3.2.2.1, t3.2.2.2.1)) fun r5 => Option.bind (Jq (t3.2.2.2.2.2.1, t3.2.2.2.2.2.2.1, t3.2.2.2.2.2.2.2.1, t3.2.2.2.2.2.2.2.2.2.1, t3.2.2.2.2.2.2.2.2.2.2, t3.2.2.2.2.2.2.2.2.1, r5.1, r5.2.1, r5.2.2.1, r5.2.2.2.1, r5.2.2.2.2.1)) fun r6 => again (Sum.inr ((Go.IntKind.wrap .i64 (t3.1 - (1 : Int))), r5.2.2.2.2.2.1, r5.2.2.2.2.2.2.1, r5.2.2.2.2.2.2.2, t3.2.2.2.2.1, r6.1, r6.2.1, r6.2.2.1, r6.2.2.2.2.2.1, r6.2.2.2.1, r6.2.2.2.2.1)) else k1 t3.2
def Qh k0 k1 := zR (@jK R k0 k1) Yd
def wC (x : Qz3) : Option yv4 :=
 Option.bind (Kh ()) fun r1 => Option.bind (yx (x.1, x.2.1, x.2.2.1, (Go.IntKind.wrap .i64 (x.2.2.2 + (1 : Int))))) fun r2 => Qh (fun x7 => some (x7.2.2.2.2.2.1, x7.2.2.2.2.2.2.1, x7.2.2.2.2.2.2.2.1, x7.2.2.2.2.2.2.2.2.1, x7.2.2.2.2.2.2.2.2.2, x7.2.2.2.2.1, x7.1, x7.2.1, x7.2.2.1)) (fun x8 => some (x8.2.2.2.2.1, x8.2.2.2.2.2.1, x8.2.2.2.2.2.2.1, x8.2.2.2.2.2.2.2.2.1, x8.2.2.2.2.2.2.2.2.2, x8.2.2.2.2.2.2.2.1, x8.1, x8.2.1, x8.2.2.1)) (Sum.inl (r2.1, r2.2.1, r2.2.2.1, r2.2.2.2, (0 : Int), r1.2.2.2.2.2, r1.1, r1.2.1, r1.2.2.1, r1.2.2.2.1, r1.2.2.2.2.1))
def ysP : List QF := [q35, q68, q69, q70]
def y7Z (t : yfJ) : St := ⟨.box 900 0 :: dd 3 (.box 4 0 :: .box 5 0 :: vI t.1 :: dd 17 []), [(900, .box [ynu t.2.1, vI t.2.2.1, vI t.2.2.2.1]), (4, .box [.nils, .nils, .nils, .nils, .nils, vI t.2.2.2.2.1]), (5, .box [.own 10000000, .own 10000001, .own 10000002, .own 10000003, .own 10000004, vI t.2.2.2.2.2.1]), (10000000, .root true 3 yd t.2.2.2.2.2.2.1), (10000001, .root true 99 yk t.2.2.2.2.2.2.2.1), (10000002, .root true 67 yn t.2.2.2.2.2.2.2.2.1), (10000003, .root true 53 yj t.2.2.2.2.2.2.2.2.2.1), (10000004, .root true 41 yI t.2.2.2.2.2.2.2.2.2.2)]⟩
theorem yma : ∀ s t, unG yoc y7Z s = some t → y7Z t = s := yq fun t => by kernel_rfl
def y80 (t : yfK) : St := ⟨.box 900 0 :: dd 3 (.box 4 0 :: .box 5 0 :: vI t.1 :: dd 17 []), [(900, .box [ynu t.2.1, vI t.2.2.1, vI t.2.2.2.1]), (4, .box [.nils, .nils, .nils, .nils, .nils, vI t.2.2.2.2.1]), (5, .box [z3 t.2.2.2.2.2.1, yw t.2.2.2.2.2.2.1, zd t.2.2.2.2.2.2.2.1, .own 10000000, .own 10000001, vI t.2.2.2.2.2.2.2.2.1]), (10000000, .root true 53 yj t.2.2.2.2.2.2.2.2.2.1), (10000001, .root true 41 yI t.2.2.2.2.2.2.2.2.2.2)]⟩
theorem ymb : ∀ s t, unG yod y80 s = some t → y80 t = s := yq fun t => by kernel_rfl
def y81 : (yfJ ⊕ yfK) → St := Sum.elim y7Z y80
def ybB (s : St) : Option (yfJ ⊕ yfK) := ((unG yoc y7Z s).map Sum.inl).or (((unG yod y80) s).map Sum.inr)
theorem ymc : ∀ s t, ybB s = some t → y81 t = s := y7d yma ymb
def yik : Gk wU := fun κ => jK (fun t => κ (some 0) ⟨.box 900 0 :: dd 3 (.box 4 0 :: .box 5 0 :: dd 18 []), [(900, .box [ynu t.1, vI t.2.1, vI t.2.2.1]), (4, .box [.nils, .nils, .nils, .nils, .nils, vI t.2.2.2.1]), (5, .box [.own 10000000, .own 10000001, .own 10000002, .own 10000003, .own 10000004, vI t.2.2.2.2.1]), (10000000, .root true 3 yd t.2.2.2.2.2.1), (10000001, .root true 99 yk t.2.2.2.2.2.2.1), (10000002, .root true 67 yn t.2.2.2.2.2.2.2.1), (10000003, .root true 53 yj t.2.2.2.2.2.2.2.2.1), (10000004, .root true 41 yI t.2.2.2.2.2.2.2.2.2)]⟩) (fun t => κ (some 0) ⟨.box 900 0 :: dd 3 (.box 4 0 :: .box 5 0 :: dd 18 []), [(900, .box [ynu t.1, vI t.2.1, vI t.2.2.1]), (4, .box [.nils, .nils, .nils, .nils, .nils, vI t.2.2.2.1]), (5, .box [z3 t.2.2.2.2.1, yw t.2.2.2.2.2.1, zd t.2.2.2.2.2.2.1, .own 10000000, .own 10000001, vI t.2.2.2.2.2.2.2.1]), (10000000, .root true 53 yj t.2.2.2.2.2.2.2.2.1), (10000001, .root true 41 yI t.2.2.2.2.2.2.2.2.2)]⟩)
def ysQ : Lp := lpC 3 ybB @yik lpN
theorem ymd : LF ysP ysQ 33 3 Tryz.f33 0 y81 @yik fun v : yfJ => .inl v := fun R κ again v => by kernel_rfl
theorem yme : LF ysP ysQ 33 3 Tryz.f33 0 y81 @yik fun v : yfK => .inr v := fun R κ again v => by kernel_rfl
theorem yxb : LF ysP ysQ 33 3 Tryz.f33 0 y81 @yik fun t => t := (LC.sum ymd yme)
theorem yxc : LK ysP ysQ 33 Tryz.f33 0 := lkN (u := ybB) ymc yxb
theorem yD6 : EV ysP ysQ 33 Tryz.f33 yAp qz3 yv5 wC := fun x => by kernel_rfl
def q33 : QF := ⟨33, wC, okN (n := 1) Tryz.func33 ⟨yxc, trivial⟩ yD6⟩
def WU (x : Qz1) : Option Int :=
 bif (decide ((Go.IntKind.wrap .i64 ((3 : Int) + (Go.IntKind.wrap .i64 (Int.tdiv (List.length x.1 : Int) (12 : Int))))) > x.2)) then some x.2 else some (Go.IntKind.wrap .i64 ((3 : Int) + (Go.IntKind.wrap .i64 (Int.tdiv (List.length x.1 : Int) (12 : Int)))))
theorem yD7 : EV [] lpN 34 Tryz.f34 yAq qz1 [(.int .i64)] WU := fun x => by kernel_rfl
def q34 : QF := ⟨34, WU, okN (n := 0) Tryz.func34 trivial yD7⟩
def Jr (x : List y5E) : Option ykM :=
 Option.bind (Vv x) fun r1 => Option.bind (WU (x, (30 : Int))) fun r2 => Option.bind (wC (r1.1, r1.2.1, r1.2.2, (Go.IntKind.wrap .i64 ((8 : Int) + r2)))) fun r3 => Option.bind (YW r3.2.2.2.2.2.2) fun r4 => some (r3.1, r3.2.1, r3.2.2.1, r3.2.2.2.1, r3.2.2.2.2.1, r3.2.2.2.2.2.1, r4.1, r4.2.1, r4.2.2.1, r4.2.2.2.1, r4.2.2.2.2.1)
theorem ev8 : EV [q32, q33, q34, q35] lpN 8 Tryz.f8 sg8 [(.sl 5 kK)] ykN Jr := fun x => by kernel_rfl
def q8 : QF := ⟨8, Jr, okN (n := 0) Tryz.func8 trivial ev8⟩
def yM (x : yuL) : Option Bool :=
 Option.bind (bif (decide (x.1 ≥ x.2.1)) then some (decide (x.1 ≤ x.2.2)) else some false) fun u1 => some u1
theorem yD8 : EV [] lpN 47 Tryz.f47 yAr yuM [.bool] yM := fun x => by kernel_rfl
def q47 : QF := ⟨47, yM, okN (n := 0) Tryz.func47 trivial yD8⟩
def jX (x : yuc) : Option Bool :=
 Option.bind (bif (decide (x.1 < x.2.2.2.2.2.1)) then some true else Option.bind (bif (x.1 == x.2.2.2.2.2.1) then some (decide (x.2.1 < x.2.2.2.2.2.2.1)) else some false) fun u2 => some u2) fun u1 => some u1
theorem yxd : EV [] lpN 157 Tryz.f157 yr2 yud [.bool] jX := fun x => by kernel_rfl
def yBG : QF := ⟨157, jX, okN (n := 0) Tryz.func157 trivial yxd⟩
def ZW (x : yuc) : Option Bool :=
 Option.bind (bif (x.1 == x.2.2.2.2.2.1) then some (x.2.1 == x.2.2.2.2.2.2.1) else some false) fun u1 => some u1
theorem yxe : EV [] lpN 158 Tryz.f158 yr3 yud [.bool] ZW := fun x => by kernel_rfl
def yD9 : QF := ⟨158, ZW, okN (n := 0) Tryz.func158 trivial yxe⟩
abbrev WV : Type := yoe
def Z4 (k0 : yzh → Option R) (again : WV → Option R) (t4 : WV) : Option R :=
 bif (decide (t4.2.2.2.1 < t4.2.2.1)) then if (0 : Int) ≤ t4.2.2.2.1 then if t4.2.2.2.1 < (List.length t4.2.1 : Int) then Option.bind (bif (!t4.1) then Option.bind (jX ((y6 t4.2.1 t4.2.2.2.1).1, (y6 t4.2.1 t4.2.2.2.1).2.1, (y6 t4.2.1 t4.2.2.2.1).2.2.1, (y6 t4.2.1 t4.2.2.2.1).2.2.2.1, (y6 t4.2.1 t4.2.2.2.1).2.2.2.2, t4.2.2.2.2.1, t4.2.2.2.2.2.1, t4.2.2.2.2.2.2.1, t4.2.2.2.2.2.2.2.1, t4.2.2.2.2.2.2.2.2.1)) fun r2 => some (!r2) else some false) fun u1 => bif u1 then if (List.length t4.2.2.2.2.2.2.2.2.2 + List.length ([(t4.2.2.2.2.1, t4.2.2.2.2.2.1, t4.2.2.2.2.2.2.1, t4.2.2.2.2.2.2.2.1, t4.2.2.2.2.2.2.2.2.1)] : List y7)) * 40 < 140737488355328 then Option.bind (ZW ((y6 t4.2.1 t4.2.2.2.1).1, (y6 t4.2.1 t4.2.2.2.1).2.1, (y6 t4.2.1 t4.2.2.2.1).2.2.1, (y6 t4.2.1 t4.2.2.2.1).2.2.2.1, (y6 t4.2.1 t4.2.2.2.1).2.2.2.2, t4.2.2.2.2.1, t4.2.2.2.2.2.1, t4.2.2.2.2.2.2.1, t4.2.2.2.2.2.2.2.1, t4.2.2.2.2.2.2.2.2.1)) fun r3 => bif (!r3) then if (List.length (t4.2.2.2.2.2.2.2.2.2 ++ ([(t4.2.2.2.2.1, t4.2.2.2.2.2.1, t4.2.2.2.2.2.2.1, t4.2.2.2.2.2.2.2.1, t4.2.2.2.2.2.2.2.2.1)] : List y7)) + List.length ([((y6 t4.2.1 t4.2.2.2.1).1, (y6 t4.2.1 t4.2.2.2.1).2.1, (y6 t4.2.1 t4.2.2.2.1).2.2.1, (y6 t4.2.1 t4.2.2.2.1).2.2.2.1, (y6 t4.2.1 t4.2.2.2.1).2.2.2.2)] : List y7)) * 40 < 140737488355328 then again (true, t4.2.1, t4.2.2.1, (Go.IntKind.wrap .i64 (t4.2.2.2.1 + (1 : Int))), t4.2.2.2.2.1, t4.2.2.2.2.2.1, t4.2.2.2.2.2.2.1, t4.2.2.2.2.2.2.2.1, t4.2.2.2.2.2.2.2.2.1, ((t4.2.2.2.2.2.2.2.2.2 ++ ([(t4.2.2.2.2.1, t4.2.2.2.2.2.1, t4.2.2.2.2.2.2.1, t4.2.2.2.2.2.2.2.1, t4.2.2.2.2.2.2.2.2.1)] : List y7)) ++ ([((y6 t4.2.1 t4.2.2.2.1).1, (y6 t4.2.1 t4.2.2.2.1).2.1, (y6 t4.2.1 t4.2.2.2.1).2.2.1, (y6 t4.2.1 t4.2.2.2.1).2.2.2.1, (y6 t4.2.1 t4.2.2.2.1).2.2.2.2)] : List y7))) else none else again (true, t4.2.1, t4.2.2.1, (Go.IntKind.wrap .i64 (t4.2.2.2.1 + (1 : Int))), t4.2.2.2.2.1, t4.2.2.2.2.2.1, t4.2.2.2.2.2.2.1, t4.2.2.2.2.2.2.2.1, t4.2.2.2.2.2.2.2.2.1, (t4.2.2.2.2.2.2.2.2.2 ++ ([(t4.2.2.2.2.1, t4.2.2.2.2.2.1, t4.2.2.2.2.2.2.1, t4.2.2.2.2.2.2.2.1, t4.2.2.2.2.2.2.2.2.1)] : List y7))) else none else Option.bind (ZW ((y6 t4.2.1 t4.2.2.2.1).1, (y6 t4.2.1 t4.2.2.2.1).2.1, (y6 t4.2.1 t4.2.2.2.1).2.2.1, (y6 t4.2.1 t4.2.2.2.1).2.2.2.1, (y6 t4.2.1 t4.2.2.2.1).2.2.2.2, t4.2.2.2.2.1, t4.2.2.2.2.2.1, t4.2.2.2.2.2.2.1, t4.2.2.2.2.2.2.2.1, t4.2.2.2.2.2.2.2.2.1)) fun r4 => bif (!r4) then if (List.length t4.2.2.2.2.2.2.2.2.2 + List.length ([((y6 t4.2.1 t4.2.2.2.1).1, (y6 t4.2.1 t4.2.2.2.1).2.1, (y6 t4.2.1 t4.2.2.2.1).2.2.1, (y6 t4.2.1 t4.2.2.2.1).2.2.2.1, (y6 t4.2.1 t4.2.2.2.1).2.2.2.2)] : List y7)) * 40 < 140737488355328 then again (t4.1, t4.2.1, t4.2.2.1, (Go.IntKind.wrap .i64 (t4.2.2.2.1 + (1 : Int))), t4.2.2.2.2.1, t4.2.2.2.2.2.1, t4.2.2.2.2.2.2.1, t4.2.2.2.2.2.2.2.1, t4.2.2.2.2.2.2.2.2.1, (t4.2.2.2.2.2.2.2.2.2 ++ ([((y6 t4.2.1 t4.2.2.2.1).1, (y6 t4.2.1 t4.2.2.2.1).2.1, (y6 t4.2.1 t4.2.2.2.1).2.2.1, (y6 t4.2.1 t4.2.2.2.1).2.2.2.1, (y6 t4.2.1 t4.2.2.2.1).2.2.2.2)] : List y7))) else none else again (t4.1, t4.2.1, t4.2.2.1, (Go.IntKind.wrap .i64 (t4.2.2.2.1 + (1 : Int))), t4.2.2.2.2.1, t4.2.2.2.2.2.1, t4.2.2.2.2.2.2.1, t4.2.2.2.2.2.2.2.1, t4.2.2.2.2.2.2.2.2.1, t4.2.2.2.2.2.2.2.2.2) else none else none else k0 (t4.1, t4.2.2.2.2)
def vY k0 := zR (@Z4 R k0) Yd
def jt (x : yzi) : Option (List y7) :=
 vY (fun x5 => bif (!x5.1) then if (List.length x5.2.2.2.2.2.2 + List.length ([(x5.2.1, x5.2.2.1, x5.2.2.2.1, x5.2.2.2.2.1, x5.2.2.2.2.2.1)] : List y7)) * 40 < 140737488355328 then some (x5.2.2.2.2.2.2 ++ ([(x5.2.1, x5.2.2.1, x5.2.2.2.1, x5.2.2.2.2.1, x5.2.2.2.2.2.1)] : List y7)) else none else some x5.2.2.2.2.2.2) (false, x.1, (List.length x.1 : Int), (0 : Int), x.2.1, x.2.2.1, x.2.2.2.1, x.2.2.2.2.1, x.2.2.2.2.2, ([] : List y7))
def ymf : List QF := [yBG, yD9]
def y82 (t : yoe) : St := ⟨dd 3 (.box 3 0 :: .dead :: .own 10000000 :: vB t.1 :: dd 3 (Qt t.2.1 :: vI t.2.2.1 :: vI t.2.2.2.1 :: dd 31 [])), [(3, .box [vI t.2.2.2.2.1, vI t.2.2.2.2.2.1, vI t.2.2.2.2.2.2.1, vI t.2.2.2.2.2.2.2.1, vI t.2.2.2.2.2.2.2.2.1]), (10000000, .root true 63 yh t.2.2.2.2.2.2.2.2.2)]⟩
def yk1 : Gk WV := fun κ => Z4 (fun t => κ (some 0) ⟨dd 3 (.box 3 0 :: .dead :: .own 10000000 :: vB t.1 :: dd 37 []), [(3, .box [vI t.2.1, vI t.2.2.1, vI t.2.2.2.1, vI t.2.2.2.2.1, vI t.2.2.2.2.2.1]), (10000000, .root true 63 yh t.2.2.2.2.2.2)]⟩)
def ymg : Lp := lpC 4 (unG yof y82) @yk1 lpN
theorem ysR : LF ymf ymg 125 4 Tryz.f125 0 y82 @yk1 fun t => t := fun R κ again t => by kernel_rfl
theorem ysS : LK ymf ymg 125 Tryz.f125 0 := lkN (u := (unG yof y82)) (yq fun t => by kernel_rfl) ysR
theorem yxf : EV ymf ymg 125 Tryz.f125 yr4 yzj [(.sl 63 yh)] jt := fun x => by kernel_rfl
def yxg : QF := ⟨125, jt, okN (n := 1) Tryz.func125 ⟨ysS, trivial⟩ yxf⟩
def Y7 (x : List y7) : Option (List y7) :=
 if (List.length ([] : List y7) + List.length x) * 40 < 140737488355328 then some (([] : List y7) ++ x) else none
theorem yxh : EV [] lpN 126 Tryz.f126 yr5 [(.sl 63 yh)] [(.sl 63 yh)] Y7 := fun x => by kernel_rfl
def yxi : QF := ⟨126, Y7, okN (n := 0) Tryz.func126 trivial yxh⟩
abbrev WW : Type := yi5
def Zp (k0 : List y7 → Option R) (again : WW → Option R) (t3 : WW) : Option R :=
 bif (decide (t3.2.2.1 < t3.2.1)) then if (0 : Int) ≤ t3.2.2.1 then if t3.2.2.1 < (List.length t3.1 : Int) then Option.bind (jt (t3.2.2.2, (y6 t3.1 t3.2.2.1).1, (y6 t3.1 t3.2.2.1).2.1, (y6 t3.1 t3.2.2.1).2.2.1, (y6 t3.1 t3.2.2.1).2.2.2.1, (y6 t3.1 t3.2.2.1).2.2.2.2)) fun r2 => again (t3.1, t3.2.1, (Go.IntKind.wrap .i64 (t3.2.2.1 + (1 : Int))), r2) else none else none else k0 t3.2.2.2
def VB k0 := zR (@Zp R k0) Yd
def Zd (x : yzk) : Option (List y7) :=
 Option.bind (Y7 x.1) fun r1 => VB (fun x3 => some x3) (x.2, (List.length x.2 : Int), (0 : Int), r1)
def ymh : List QF := [yxg, yxi]
def y83 (t : yi5) : St := ⟨dd 5 (.own 10000000 :: dd 4 (Qt t.1 :: vI t.2.1 :: vI t.2.2.1 :: dd 8 [])), [(10000000, .root true 63 yh t.2.2.2)]⟩
def yk2 : Gk WW := fun κ => Zp (fun t => κ (some 0) ⟨dd 5 (.own 10000000 :: dd 15 []), [(10000000, .root true 63 yh t)]⟩)
def ymi : Lp := lpC 3 (unG yi6 y83) @yk2 lpN
theorem ysT : LF ymh ymi 101 3 Tryz.f101 0 y83 @yk2 fun t => t := fun R κ again t => by kernel_rfl
theorem ysU : LK ymh ymi 101 Tryz.f101 0 := lkN (u := (unG yi6 y83)) (yq fun t => by kernel_rfl) ysT
theorem yxj : EV ymh ymi 101 Tryz.f101 yr6 yzl [(.sl 63 yh)] Zd := fun x => by kernel_rfl
def yDa : QF := ⟨101, Zd, okN (n := 1) Tryz.func101 ⟨ysU, trivial⟩ yxj⟩
abbrev qQ : Type := yi5
def WX (k0 : List y7 → Option R) (again : qQ → Option R) (t3 : qQ) : Option R :=
 bif (decide (t3.2.2.1 < t3.2.1)) then if (0 : Int) ≤ t3.2.2.1 then if t3.2.2.1 < (List.length t3.1 : Int) then bif ((y6 t3.1 t3.2.2.1).2.2.1 != (0 : Int)) then if (List.length t3.2.2.2 + List.length ([((y6 t3.1 t3.2.2.1).1, (y6 t3.1 t3.2.2.1).2.1, (y6 t3.1 t3.2.2.1).2.2.1, (y6 t3.1 t3.2.2.1).2.2.2.1, (y6 t3.1 t3.2.2.1).2.2.2.2)] : List y7)) * 40 < 140737488355328 then again (t3.1, t3.2.1, (Go.IntKind.wrap .i64 (t3.2.2.1 + (1 : Int))), (t3.2.2.2 ++ ([((y6 t3.1 t3.2.2.1).1, (y6 t3.1 t3.2.2.1).2.1, (y6 t3.1 t3.2.2.1).2.2.1, (y6 t3.1 t3.2.2.1).2.2.2.1, (y6 t3.1 t3.2.2.1).2.2.2.2)] : List y7))) else none else again (t3.1, t3.2.1, (Go.IntKind.wrap .i64 (t3.2.2.1 + (1 : Int))), t3.2.2.2) else none else none else k0 t3.2.2.2
def y2c k0 := zR (@WX R k0) Yd
def Js (x : List y7) : Option (List y7) :=
 y2c (fun x1 => some x1) (x, (List.length x : Int), (0 : Int), ([] : List y7))
def ymj : List QF := []
def y84 (t : yi5) : St := ⟨dd 3 (.own 10000000 :: dd 3 (Qt t.1 :: vI t.2.1 :: vI t.2.2.1 :: dd 12 [])), [(10000000, .root true 63 yh t.2.2.2)]⟩
def yk3 : Gk qQ := fun κ => WX (fun t => κ (some 0) ⟨dd 3 (.own 10000000 :: dd 18 []), [(10000000, .root true 63 yh t)]⟩)
def ymk : Lp := lpC 3 (unG yi6 y84) @yk3 lpN
theorem ysV : LF ymj ymk 102 3 Tryz.f102 0 y84 @yk3 fun t => t := fun R κ again t => by kernel_rfl
theorem ysW : LK ymj ymk 102 Tryz.f102 0 := lkN (u := (unG yi6 y84)) (yq fun t => by kernel_rfl) ysV
theorem yxk : EV ymj ymk 102 Tryz.f102 yr7 [(.sl 63 yh)] [(.sl 63 yh)] Js := fun x => by kernel_rfl
def yBH : QF := ⟨102, Js, okN (n := 1) Tryz.func102 ⟨ysW, trivial⟩ yxk⟩
abbrev kV : Type := yog
def ZX (k0 : List y7 → Option R) (again : kV → Option R) (t3 : kV) : Option R :=
 bif (decide (t3.2.2.1 < t3.2.1)) then if (0 : Int) ≤ t3.2.2.1 then if t3.2.2.1 < (List.length t3.1 : Int) then Option.bind (Zd (t3.2.2.2, (yp t3.1 t3.2.2.1))) fun r1 => again (t3.1, t3.2.1, (Go.IntKind.wrap .i64 (t3.2.2.1 + (1 : Int))), r1) else none else none else k0 t3.2.2.2
def qp k0 := zR (@ZX R k0) Yd
def yS (x : List ya) : Option (List y7) :=
 qp (fun x2 => Option.bind (Js x2) fun r3 => some r3) (x, (List.length x : Int), (0 : Int), ([] : List y7))
def yxl : List QF := [yDa, yBH]
def ybC (t : yog) : St := ⟨dd 3 (.own 10000000 :: dd 4 (YQ t.1 :: vI t.2.1 :: vI t.2.2.1 :: dd 9 [])), [(10000000, .root true 63 yh t.2.2.2)]⟩
def ysX : Gk kV := fun κ => ZX (fun t => κ (some 0) ⟨dd 3 (.own 10000000 :: dd 16 []), [(10000000, .root true 63 yh t)]⟩)
def yxm : Lp := lpC 3 (unG yoh ybC) @ysX lpN
theorem yxn : LF yxl yxm 63 3 Tryz.f63 0 ybC @ysX fun t => t := fun R κ again t => by kernel_rfl
theorem yxo : LK yxl yxm 63 Tryz.f63 0 := lkN (u := (unG yoh ybC)) (yq fun t => by kernel_rfl) yxn
theorem yDb : EV yxl yxm 63 Tryz.f63 yAs [(.sl 58 yt)] [(.sl 63 yh)] yS := fun x => by kernel_rfl
def q63 : QF := ⟨63, yS, okN (n := 1) Tryz.func63 ⟨yxo, trivial⟩ yDb⟩
abbrev kW : Type := yoi
def ZY (k0 : List y7 → Option R) (again : kW → Option R) (t3 : kW) : Option R :=
 bif (decide (t3.2.2.1 < t3.2.1)) then if (0 : Int) ≤ t3.2.2.1 then if t3.2.2.1 < (List.length t3.1 : Int) then Option.bind (yS (yf t3.1 t3.2.2.1)) fun r1 => if (List.length t3.2.2.2 + List.length r1) * 40 < 140737488355328 then again (t3.1, t3.2.1, (Go.IntKind.wrap .i64 (t3.2.2.1 + (1 : Int))), (t3.2.2.2 ++ r1)) else none else none else none else k0 t3.2.2.2
def qq k0 := zR (@ZY R k0) Yd
def yT (x : Qz8) : Option (List y7) :=
 qq (fun x2 => some x2) (x.2, (List.length x.2 : Int), (0 : Int), ([] : List y7))
def yxp : List QF := [q63]
def ybD (t : yoi) : St := ⟨dd 3 (.own 10000000 :: dd 4 (yw t.1 :: vI t.2.1 :: vI t.2.2.1 :: dd 9 [])), [(10000000, .root true 63 yh t.2.2.2)]⟩
def ysY : Gk kW := fun κ => ZY (fun t => κ (some 0) ⟨dd 3 (.own 10000000 :: dd 16 []), [(10000000, .root true 63 yh t)]⟩)
def yxq : Lp := lpC 3 (unG yoj ybD) @ysY lpN
theorem yxr : LF yxp yxq 23 3 Tryz.f23 0 ybD @ysY fun t => t := fun R κ again t => by kernel_rfl
theorem yxs : LK yxp yxq 23 Tryz.f23 0 := lkN (u := (unG yoj ybD)) (yq fun t => by kernel_rfl) yxr
theorem yDc : EV yxp yxq 23 Tryz.f23 yAt qz8 [(.sl 63 yh)] yT := fun x => by kernel_rfl
def q23 : QF := ⟨23, yT, okN (n := 1) Tryz.func23 ⟨yxs, trivial⟩ yDc⟩
abbrev vZ : Type := yok
def Jt (k0 : List y7 → Option R) (again : vZ → Option R) (t3 : vZ) : Option R :=
 bif (decide (t3.2.2.1 < t3.2.1)) then if (0 : Int) ≤ t3.2.2.1 then if t3.2.2.1 < (List.length t3.2.2.2.2 : Int) then bif ((y6 t3.2.2.2.2 t3.2.2.1).1 == t3.1) then if (List.length t3.2.2.2.1 + List.length ([((y6 t3.2.2.2.2 t3.2.2.1).1, (y6 t3.2.2.2.2 t3.2.2.1).2.1, (y6 t3.2.2.2.2 t3.2.2.1).2.2.1, (y6 t3.2.2.2.2 t3.2.2.1).2.2.2.1, (y6 t3.2.2.2.2 t3.2.2.1).2.2.2.2)] : List y7)) * 40 < 140737488355328 then again (t3.1, t3.2.1, (Go.IntKind.wrap .i64 (t3.2.2.1 + (1 : Int))), (t3.2.2.2.1 ++ ([((y6 t3.2.2.2.2 t3.2.2.1).1, (y6 t3.2.2.2.2 t3.2.2.1).2.1, (y6 t3.2.2.2.2 t3.2.2.1).2.2.1, (y6 t3.2.2.2.2 t3.2.2.1).2.2.2.1, (y6 t3.2.2.2.2 t3.2.2.1).2.2.2.2)] : List y7)), t3.2.2.2.2) else none else again (t3.1, t3.2.1, (Go.IntKind.wrap .i64 (t3.2.2.1 + (1 : Int))), t3.2.2.2.1, t3.2.2.2.2) else none else none else k0 t3.2.2.2.1
def y01 k0 := zR (@Jt R k0) Yd
def WY (x : ynV) : Option (List y7) :=
 Option.bind (yT (x.1, x.2.1)) fun r1 => y01 (fun x2 => some x2) (x.2.2, (List.length r1 : Int), (0 : Int), ([] : List y7), r1)
def yml : List QF := [q23]
def y85 (t : yok) : St := ⟨.dead :: vI t.1 :: dd 3 (.own 10000000 :: dd 4 (.own 10000001 :: vI t.2.1 :: vI t.2.2.1 :: dd 13 [])), [(10000000, .root true 63 yh t.2.2.2.1), (10000001, .root true 63 yh t.2.2.2.2)]⟩
def yk4 : Gk vZ := fun κ => Jt (fun t => κ (some 0) ⟨dd 5 (.own 10000000 :: dd 20 []), [(10000000, .root true 63 yh t)]⟩)
def ymm : Lp := lpC 3 (unG yol y85) @yk4 lpN
theorem ysZ : LF yml ymm 155 3 Tryz.f155 0 y85 @yk4 fun t => t := fun R κ again t => by kernel_rfl
theorem yt0 : LK yml ymm 155 Tryz.f155 0 := lkN (u := (unG yol y85)) (yq fun t => by kernel_rfl) ysZ
theorem yxt : EV yml ymm 155 Tryz.f155 yr8 ynW [(.sl 63 yh)] WY := fun x => by kernel_rfl
def yDd : QF := ⟨155, WY, okN (n := 1) Tryz.func155 ⟨yt0, trivial⟩ yxt⟩
abbrev wi : Type := yom
def YM (k0 : Int → Option R) (k1 : Unit → Option R) (again : wi → Option R) (t2 : wi) : Option R :=
 bif (decide (t2.2.2.2 < t2.2.2.1)) then if (0 : Int) ≤ t2.2.2.2 then if t2.2.2.2 < (List.length t2.1 : Int) then bif (t2.2.1 == (zu t2.1 t2.2.2.2)) then k0 t2.2.2.2 else again (t2.1, t2.2.1, t2.2.2.1, (Go.IntKind.wrap .i64 (t2.2.2.2 + (1 : Int)))) else none else none else k1 ()
def va k0 k1 := zR (@YM R k0 k1) Yd
def Zq (x : yuX) : Option Int :=
 va (fun x1 => some x1) (fun x2 => some (-1 : Int)) (x.1, x.2, (List.length x.1 : Int), (0 : Int))
def ymn : List QF := []
def y86 (t : yom) : St := ⟨z3 t.1 :: vI t.2.1 :: dd 5 (vI t.2.2.1 :: vI t.2.2.2 :: dd 10 []), []⟩
def yk5 : Gk wi := fun κ => YM (fun t => κ none ⟨dd 4 (vI t :: dd 14 []), []⟩) (fun t => κ (some 0) ⟨dd 19 [], []⟩)
def ymo : Lp := lpC 2 (unG yon y86) @yk5 lpN
theorem yt1 : LF ymn ymo 177 2 Tryz.f177 0 y86 @yk5 fun t => t := fun R κ again t => by kernel_rfl
theorem yt2 : LK ymn ymo 177 Tryz.f177 0 := lkN (u := (unG yon y86)) (yq fun t => by kernel_rfl) yt1
theorem yxu : EV ymn ymo 177 Tryz.f177 yr9 yuY [(.int .i64)] Zq := fun x => by kernel_rfl
def yDe : QF := ⟨177, Zq, okN (n := 1) Tryz.func177 ⟨yt2, trivial⟩ yxu⟩
def Yz (x : yuX) : Option Bool :=
 Option.bind (Zq x) fun r1 => some (decide (r1 ≥ (0 : Int)))
theorem yxv : EV [yDe] lpN 156 Tryz.f156 yra yuY [.bool] Yz := fun x => by kernel_rfl
def yDf : QF := ⟨156, Yz, okN (n := 0) Tryz.func156 trivial yxv⟩
abbrev V0 : Type := yoo
def Ju (k0 : yA4 → Option R) (again : V0 → Option R) (t3 : V0) : Option R :=
 bif (decide (t3.2.2.2.1 < t3.2.2.1)) then if (0 : Int) ≤ t3.2.2.2.1 then if t3.2.2.2.1 < (List.length t3.2.2.2.2.2.2.2.2.2.2.2.2.2.2 : Int) then Option.bind (Yz (t3.1, (y6 t3.2.2.2.2.2.2.2.2.2.2.2.2.2.2 t3.2.2.2.1).2.1)) fun r2 => Option.bind (bif r2 then Option.bind (bif (!t3.2.1) then some true else some (decide ((y6 t3.2.2.2.2.2.2.2.2.2.2.2.2.2.2 t3.2.2.2.1).2.1 > t3.2.2.2.2.2.2.2.2.2.2.1))) fun u4 => some u4 else some false) fun u3 => bif u3 then again (t3.1, true, t3.2.2.1, (Go.IntKind.wrap .i64 (t3.2.2.2.1 + (1 : Int))), t3.2.2.2.2.1, t3.2.2.2.2.2.1, t3.2.2.2.2.2.2.1, t3.2.2.2.2.2.2.2.1, t3.2.2.2.2.2.2.2.2.1, (y6 t3.2.2.2.2.2.2.2.2.2.2.2.2.2.2 t3.2.2.2.1).1, (y6 t3.2.2.2.2.2.2.2.2.2.2.2.2.2.2 t3.2.2.2.1).2.1, (y6 t3.2.2.2.2.2.2.2.2.2.2.2.2.2.2 t3.2.2.2.1).2.2.1, (y6 t3.2.2.2.2.2.2.2.2.2.2.2.2.2.2 t3.2.2.2.1).2.2.2.1, (y6 t3.2.2.2.2.2.2.2.2.2.2.2.2.2.2 t3.2.2.2.1).2.2.2.2, t3.2.2.2.2.2.2.2.2.2.2.2.2.2.2) else again (t3.1, t3.2.1, t3.2.2.1, (Go.IntKind.wrap .i64 (t3.2.2.2.1 + (1 : Int))), t3.2.2.2.2.1, t3.2.2.2.2.2.1, t3.2.2.2.2.2.2.1, t3.2.2.2.2.2.2.2.1, t3.2.2.2.2.2.2.2.2.1, t3.2.2.2.2.2.2.2.2.2.1, t3.2.2.2.2.2.2.2.2.2.2.1, t3.2.2.2.2.2.2.2.2.2.2.2.1, t3.2.2.2.2.2.2.2.2.2.2.2.2.1, t3.2.2.2.2.2.2.2.2.2.2.2.2.2.1, t3.2.2.2.2.2.2.2.2.2.2.2.2.2.2) else none else none else k0 (t3.2.1, t3.2.2.2.2.1, t3.2.2.2.2.2.1, t3.2.2.2.2.2.2.1, t3.2.2.2.2.2.2.2.1, t3.2.2.2.2.2.2.2.2.1, t3.2.2.2.2.2.2.2.2.2.1, t3.2.2.2.2.2.2.2.2.2.2.1, t3.2.2.2.2.2.2.2.2.2.2.2.1, t3.2.2.2.2.2.2.2.2.2.2.2.2.1, t3.2.2.2.2.2.2.2.2.2.2.2.2.2.1)
def y02 k0 := zR (@Ju R k0) Yd
def ju (x : yA5) : Option yeQ :=
 Option.bind (WY (x.1, x.2.1, x.2.2.1)) fun r1 => y02 (fun x5 => some (x5.2.2.2.2.2.2.1, x5.2.2.2.2.2.2.2.1, x5.2.2.2.2.2.2.2.2.1, x5.2.2.2.2.2.2.2.2.2.1, x5.2.2.2.2.2.2.2.2.2.2, x5.1)) (x.2.2.2, false, (List.length r1 : Int), (0 : Int), (0 : Int), (0 : Int), (0 : Int), (0 : Int), (0 : Int), (0 : Int), (0 : Int), (0 : Int), (0 : Int), (0 : Int), r1)
def ymp : List QF := [yDd, yDf]
def y87 (t : yoo) : St := ⟨dd 2 (z3 t.1 :: dd 3 (.box 6 0 :: .dead :: .box 8 0 :: vB t.2.1 :: dd 5 (.own 10000000 :: vI t.2.2.1 :: vI t.2.2.2.1 :: dd 22 []))), [(6, .box [vI t.2.2.2.2.1, vI t.2.2.2.2.2.1, vI t.2.2.2.2.2.2.1, vI t.2.2.2.2.2.2.2.1, vI t.2.2.2.2.2.2.2.2.1]), (8, .box [vI t.2.2.2.2.2.2.2.2.2.1, vI t.2.2.2.2.2.2.2.2.2.2.1, vI t.2.2.2.2.2.2.2.2.2.2.2.1, vI t.2.2.2.2.2.2.2.2.2.2.2.2.1, vI t.2.2.2.2.2.2.2.2.2.2.2.2.2.1]), (10000000, .root true 63 yh t.2.2.2.2.2.2.2.2.2.2.2.2.2.2)]⟩
def yk6 : Gk V0 := fun κ => Ju (fun t => κ (some 0) ⟨dd 6 (.box 6 0 :: .dead :: .box 8 0 :: vB t.1 :: dd 30 []), [(6, .box [vI t.2.1, vI t.2.2.1, vI t.2.2.2.1, vI t.2.2.2.2.1, vI t.2.2.2.2.2.1]), (8, .box [vI t.2.2.2.2.2.2.1, vI t.2.2.2.2.2.2.2.1, vI t.2.2.2.2.2.2.2.2.1, vI t.2.2.2.2.2.2.2.2.2.1, vI t.2.2.2.2.2.2.2.2.2.2])]⟩)
def ymq : Lp := lpC 3 (unG yop y87) @yk6 lpN
theorem yt3 : LF ymp ymq 118 3 Tryz.f118 0 y87 @yk6 fun t => t := fun R κ again t => by kernel_rfl
theorem yt4 : LK ymp ymq 118 Tryz.f118 0 := lkN (u := (unG yop y87)) (yq fun t => by kernel_rfl) yt3
theorem yxw : EV ymp ymq 118 Tryz.f118 yrb yA6 yeR ju := fun x => by kernel_rfl
def yBI : QF := ⟨118, ju, okN (n := 1) Tryz.func118 ⟨yt4, trivial⟩ yxw⟩
def Kl (x : yuL) : Option yi7 :=
 some ((x.1 == x.2.2), x.2.2)
theorem yxx : EV [] lpN 129 Tryz.f129 yrc yuM ykO Kl := fun x => by kernel_rfl
def yDg : QF := ⟨129, Kl, okN (n := 0) Tryz.func129 trivial yxx⟩
abbrev zP : Type := yoq
def z4 (k0 : yhj → Option R) (k1 : Int → Option R) (again : zP → Option R) (t2 : zP) : Option R :=
 bif (decide (t2.2.2.1 < t2.2.1)) then if (0 : Int) ≤ t2.2.2.1 then if t2.2.2.1 < (List.length t2.1 : Int) then Option.bind (Kl ((yA t2.1 t2.2.2.1).1, (yA t2.1 t2.2.2.1).2, t2.2.2.2)) fun r1 => bif r1.1 then k0 (t2.2.2.1, r1.2) else again (t2.1, t2.2.1, (Go.IntKind.wrap .i64 (t2.2.2.1 + (1 : Int))), r1.2) else none else none else k1 t2.2.2.2
def YN k0 k1 := zR (@z4 R k0 k1) Yd
def zc (x : yfF) : Option yhj :=
 YN (fun x2 => some x2) (fun x3 => some ((-1 : Int), x3)) (x.1, (List.length x.1 : Int), (0 : Int), x.2)
def y88 : List QF := [yDg]
def y1y (t : yoq) : St := ⟨zd t.1 :: .clo 129 901 :: dd 5 (vI t.2.1 :: vI t.2.2.1 :: dd 10 []), [(901, .box [vI t.2.2.2])]⟩
def y9K : Gk zP := fun κ => z4 (fun t => κ none ⟨.dead :: .clo 129 901 :: dd 2 (vI t.1 :: dd 14 []), [(901, .box [vI t.2])]⟩) (fun t => κ (some 0) ⟨.dead :: .clo 129 901 :: dd 17 [], [(901, .box [vI t])]⟩)
def y89 : Lp := lpC 2 (unG yor y1y) @y9K lpN
theorem ygf : LF y88 y89 100000 2 Tryz.f128 0 y1y @y9K fun t => t := fun R κ again t => by kernel_rfl
theorem ygg : LK y88 y89 100000 Tryz.f128 0 := lkN (u := (unG yor y1y)) (yq fun t => by kernel_rfl) ygf
theorem yil : EV y88 y89 100000 Tryz.f128 yd1 yfG ykJ zc := fun x => by kernel_rfl
def ymr : QF := ⟨100000, zc, okN (n := 1) Tryz.func128 ⟨ygg, trivial⟩ yil⟩
def YY (x : yfF) : Option Int :=
 Option.bind (zc x) fun r1 => some r1.1
theorem yDh : EV [ymr] lpN 97 Tryz.f97 yAu yfG [(.int .i64)] YY := fun x => by kernel_rfl
def q97 : QF := ⟨97, YY, okN (n := 0) Tryz.func97 trivial yDh⟩
abbrev WZ : Type := yos
def k6 (k0 : List yc → Option R) (again : WZ → Option R) (t3 : WZ) : Option R :=
 bif (decide (t3.2.2.2.1 < t3.2.2.1)) then Option.bind (YY (t3.1, t3.2.1)) fun r1 => bif (decide (r1 < (0 : Int))) then k0 t3.2.2.2.2 else if (List.length t3.2.2.2.2 + List.length ([t3.2.1] : List yc)) * 8 < 140737488355328 then if (0 : Int) ≤ r1 then if r1 < (List.length t3.1 : Int) then again (t3.1, (yA t3.1 r1).2, t3.2.2.1, (Go.IntKind.wrap .i64 (t3.2.2.2.1 + (1 : Int))), (t3.2.2.2.2 ++ ([t3.2.1] : List yc))) else none else none else none else k0 t3.2.2.2.2
def y03 k0 := zR (@k6 R k0) Yd
def JZ (x : yfF) : Option (List yc) :=
 y03 (fun x2 => some x2) (x.1, x.2, (Go.IntKind.wrap .i64 ((List.length x.1 : Int) + (1 : Int))), (0 : Int), ([] : List yc))
def yms : List QF := [q97]
def y8a (t : yos) : St := ⟨zd t.1 :: vI t.2.1 :: dd 3 (.own 10000000 :: dd 4 (vI t.2.2.1 :: vI t.2.2.2.1 :: dd 17 [])), [(10000000, .root true 3 yd t.2.2.2.2)]⟩
def yk7 : Gk WZ := fun κ => k6 (fun t => κ (some 0) ⟨dd 5 (.own 10000000 :: dd 23 []), [(10000000, .root true 3 yd t)]⟩)
def ymt : Lp := lpC 3 (unG yot y8a) @yk7 lpN
theorem yt5 : LF yms ymt 119 3 Tryz.f119 0 y8a @yk7 fun t => t := fun R κ again t => by kernel_rfl
theorem yt6 : LK yms ymt 119 Tryz.f119 0 := lkN (u := (unG yot y8a)) (yq fun t => by kernel_rfl) yt5
theorem yxy : EV yms ymt 119 Tryz.f119 yrd yfG [(.sl 3 yd)] JZ := fun x => by kernel_rfl
def yBJ : QF := ⟨119, JZ, okN (n := 1) Tryz.func119 ⟨yt6, trivial⟩ yxy⟩
def kX (x : yuu) : Option yeQ :=
 Option.bind (JZ (x.2.2.1, x.2.2.2.2)) fun r1 => Option.bind (ju (x.1, x.2.1, x.2.2.2.1, r1)) fun r2 => some r2
theorem yDi : EV [yBI, yBJ] lpN 77 Tryz.f77 yAv yuv yeR kX := fun x => by kernel_rfl
def q77 : QF := ⟨77, kX, okN (n := 0) Tryz.func77 trivial yDi⟩
def w5 (x : yuh) : Option yzy :=
 Option.bind (yM (x.2.1, (0 : Int), (Go.IntKind.wrap .i64 ((List.length x.1 : Int) - (1 : Int))))) fun r1 => Option.bind (bif (!r1) then some true else if (0 : Int) ≤ x.2.1 then if x.2.1 < (List.length x.1 : Int) then some (!((yG x.1 x.2.1).2.1)) else none else none) fun u2 => Option.bind (bif u2 then some true else if (0 : Int) ≤ x.2.1 then if x.2.1 < (List.length x.1 : Int) then some ((yG x.1 x.2.1).1 != x.2.2) else none else none) fun u3 => bif u3 then some ((0 : Int), false) else if (0 : Int) ≤ x.2.1 then if x.2.1 < (List.length x.1 : Int) then some ((yG x.1 x.2.1).2.2, true) else none else none
theorem yDj : EV [q47] lpN 78 Tryz.f78 yAw yui yzz w5 := fun x => by kernel_rfl
def q78 : QF := ⟨78, w5, okN (n := 0) Tryz.func78 trivial yDj⟩
def ZI (x : yuZ) : Option Int :=
 Option.bind (yM (x.2.2.2.2.2.2.1, (0 : Int), (Go.IntKind.wrap .i64 ((List.length x.2.2.2.2.1 : Int) - (1 : Int))))) fun r1 => Option.bind (bif (!r1) then some true else if (0 : Int) ≤ x.2.2.2.2.2.2.1 then if x.2.2.2.2.2.2.1 < (List.length x.2.2.2.2.1 : Int) then Option.bind (yM (x.2.2.2.2.2.2.2, (0 : Int), (Go.IntKind.wrap .i64 ((yi x.2.2.2.2.1 x.2.2.2.2.2.2.1).2.2.1 - (1 : Int))))) fun r3 => some (!r3) else none else none) fun u2 => bif u2 then some (0 : Int) else if (0 : Int) ≤ x.2.2.2.2.2.2.1 then if x.2.2.2.2.2.2.1 < (List.length x.2.2.2.2.1 : Int) then Option.bind (kX (x.1, x.2.1, x.2.2.1, x.2.2.2.2.2.2.2, (yi x.2.2.2.2.1 x.2.2.2.2.2.2.1).2.1)) fun r4 => Option.bind (bif (!r4.2.2.2.2.2) then some true else some (r4.2.2.1 != (1 : Int))) fun u5 => bif u5 then some (0 : Int) else Option.bind (w5 (x.2.2.2.1, r4.2.2.2.1, r4.2.2.2.2.1)) fun r6 => some r6.1 else none else none
theorem yDk : EV [q47, q77, q78] lpN 37 Tryz.f37 yAx yv0 [(.int .i64)] ZI := fun x => by kernel_rfl
def q37 : QF := ⟨37, ZI, okN (n := 0) Tryz.func37 trivial yDk⟩
abbrev k7 : Type := yfL ⊕ yfM
def Jv (k0 : yv6 → Option R) (k1 : yv7 → Option R) (again : k7 → Option R) : k7 → Option R
 | .inl t7 => Option.bind (bif (decide (t7.2.1 < t7.2.2.2.2.2.2.2.2.2.2.2.2.2.1)) then some (decide (t7.2.1 < (12 : Int))) else some false) fun u1 => bif u1 then Option.bind (ZI (t7.2.2.2.2.2.1, t7.2.2.2.2.2.2.1, t7.2.2.2.2.2.2.2.1, t7.2.2.2.2.2.2.2.2.1, t7.2.2.2.2.2.2.2.2.2.1, t7.2.2.2.2.2.2.2.2.2.2.1, t7.1, t7.2.1)) fun r2 => if List.length ([r2] : List yc) * 8 < 140737488355328 then again (Sum.inr (t7.1, (Go.IntKind.wrap .i64 (t7.2.1 + (1 : Int))), t7.2.2.1, t7.2.2.2.1, t7.2.2.2.2.1, t7.2.2.2.2.2.1, t7.2.2.2.2.2.2.1, t7.2.2.2.2.2.2.2.1, t7.2.2.2.2.2.2.2.2.1, t7.2.2.2.2.2.2.2.2.2.1, t7.2.2.2.2.2.2.2.2.2.2.1, t7.2.2.2.2.2.2.2.2.2.2.2.1, t7.2.2.2.2.2.2.2.2.2.2.2.2.1, t7.2.2.2.2.2.2.2.2.2.2.2.2.2.1, t7.2.2.2.2.2.2.2.2.2.2.2.2.2.2.1, t7.2.2.2.2.2.2.2.2.2.2.2.2.2.2.2.1, t7.2.2.2.2.2.2.2.2.2.2.2.2.2.2.2.2.1, t7.2.2.2.2.2.2.2.2.2.2.2.2.2.2.2.2.2, ([r2] : List yc))) else none else k0 (t7.2.2.1, t7.2.2.2.1, t7.2.2.2.2.1, t7.2.2.2.2.2.1, t7.2.2.2.2.2.2.1, t7.2.2.2.2.2.2.2.1, t7.2.2.2.2.2.2.2.2.1, t7.2.2.2.2.2.2.2.2.2.1, t7.2.2.2.2.2.2.2.2.2.2.1, t7.2.2.2.2.2.2.2.2.2.2.2.2.2.2.2)
 | .inr t7 => Option.bind (bif (decide (t7.2.1 < t7.2.2.2.2.2.2.2.2.2.2.2.2.2.1)) then some (decide (t7.2.1 < (12 : Int))) else some false) fun u3 => bif u3 then Option.bind (ZI (t7.2.2.2.2.2.1, t7.2.2.2.2.2.2.1, t7.2.2.2.2.2.2.2.1, t7.2.2.2.2.2.2.2.2.1, t7.2.2.2.2.2.2.2.2.2.1, t7.2.2.2.2.2.2.2.2.2.2.1, t7.1, t7.2.1)) fun r4 => if (List.length t7.2.2.2.2.2.2.2.2.2.2.2.2.2.2.2.2.2.2 + List.length ([r4] : List yc)) * 8 < 140737488355328 then again (Sum.inr (t7.1, (Go.IntKind.wrap .i64 (t7.2.1 + (1 : Int))), t7.2.2.1, t7.2.2.2.1, t7.2.2.2.2.1, t7.2.2.2.2.2.1, t7.2.2.2.2.2.2.1, t7.2.2.2.2.2.2.2.1, t7.2.2.2.2.2.2.2.2.1, t7.2.2.2.2.2.2.2.2.2.1, t7.2.2.2.2.2.2.2.2.2.2.1, t7.2.2.2.2.2.2.2.2.2.2.2.1, t7.2.2.2.2.2.2.2.2.2.2.2.2.1, t7.2.2.2.2.2.2.2.2.2.2.2.2.2.1, t7.2.2.2.2.2.2.2.2.2.2.2.2.2.2.1, t7.2.2.2.2.2.2.2.2.2.2.2.2.2.2.2.1, t7.2.2.2.2.2.2.2.2.2.2.2.2.2.2.2.2.1, t7.2.2.2.2.2.2.2.2.2.2.2.2.2.2.2.2.2.1, (t7.2.2.2.2.2.2.2.2.2.2.2.2.2.2.2.2.2.2 ++ ([r4] : List yc)))) else none else k1 (t7.2.2.1, t7.2.2.2.1, t7.2.2.2.2.1, t7.2.2.2.2.2.1, t7.2.2.2.2.2.2.1, t7.2.2.2.2.2.2.2.1, t7.2.2.2.2.2.2.2.2.1, t7.2.2.2.2.2.2.2.2.2.1, t7.2.2.2.2.2.2.2.2.2.2.1, t7.2.2.2.2.2.2.2.2.2.2.2.2.2.2.2)
def V1 k0 k1 := zR (@Jv R k0 k1) Yd
abbrev k8 : Type := yox
def k9 (k0 : List vw → Option R) (again : k8 → Option R) (t3 : k8) : Option R :=
 bif (decide (t3.2.2.1 < t3.2.1)) then if (0 : Int) ≤ t3.2.2.1 then if t3.2.2.1 < (List.length t3.1 : Int) then V1 (fun x5 => if (List.length x5.2.2.2.2.2.2.2.2.2.2.2 + List.length ([(x5.2.2.2.2.2.2.2.2.2.1, x5.2.2.2.2.2.2.2.2.2.2.1, ([] : List yc))] : List vw)) * 48 < 140737488355328 then again (x5.1, x5.2.1, (Go.IntKind.wrap .i64 (x5.2.2.1 + (1 : Int))), x5.2.2.2.1, x5.2.2.2.2.1, x5.2.2.2.2.2.1, x5.2.2.2.2.2.2.1, x5.2.2.2.2.2.2.2.1, x5.2.2.2.2.2.2.2.2.1, (x5.2.2.2.2.2.2.2.2.2.2.2 ++ ([(x5.2.2.2.2.2.2.2.2.2.1, x5.2.2.2.2.2.2.2.2.2.2.1, ([] : List yc))] : List vw))) else none) (fun x6 => if (List.length x6.2.2.2.2.2.2.2.2.2.2.2.1 + List.length ([(x6.2.2.2.2.2.2.2.2.2.1, x6.2.2.2.2.2.2.2.2.2.2.1, x6.2.2.2.2.2.2.2.2.2.2.2.2)] : List vw)) * 48 < 140737488355328 then again (x6.1, x6.2.1, (Go.IntKind.wrap .i64 (x6.2.2.1 + (1 : Int))), x6.2.2.2.1, x6.2.2.2.2.1, x6.2.2.2.2.2.1, x6.2.2.2.2.2.2.1, x6.2.2.2.2.2.2.2.1, x6.2.2.2.2.2.2.2.2.1, (x6.2.2.2.2.2.2.2.2.2.2.2.1 ++ ([(x6.2.2.2.2.2.2.2.2.2.1, x6.2.2.2.2.2.2.2.2.2.2.1, x6.2.2.2.2.2.2.2.2.2.2.2.2)] : List vw))) else none) (Sum.inl (t3.2.2.1, (0 : Int), t3.1, t3.2.1, t3.2.2.1, t3.2.2.2.1, t3.2.2.2.2.1, t3.2.2.2.2.2.1, t3.2.2.2.2.2.2.1, t3.2.2.2.2.2.2.2.1, t3.2.2.2.2.2.2.2.2.1, (yi t3.1 t3.2.2.1).1, (yi t3.1 t3.2.2.1).2.1, (yi t3.1 t3.2.2.1).2.2.1, (yi t3.1 t3.2.2.1).2.2.2, (yi t3.1 t3.2.2.1).1, (yi t3.1 t3.2.2.1).2.2.2, t3.2.2.2.2.2.2.2.2.2)) else none else none else k0 t3.2.2.2.2.2.2.2.2.2
def y04 k0 := zR (@k9 R k0) Yd
def jv (x : Qz9) : Option (List vw) :=
 y04 (fun x7 => some x7) (x.2.2.2.2.1, (List.length x.2.2.2.2.1 : Int), (0 : Int), x.1, x.2.1, x.2.2.1, x.2.2.2.1, x.2.2.2.2.1, x.2.2.2.2.2, ([] : List vw))
def ymu : List QF := [q37]
def y8b (t : yfL) : St := ⟨.dead :: .box 1 0 :: .dead :: .own 10000000 :: vI t.1 :: .box 5 0 :: .box 6 0 :: vI t.2.1 :: dd 2 (zC t.2.2.1 :: vI t.2.2.2.1 :: vI t.2.2.2.2.1 :: dd 34 []), [(1, .box [z3 t.2.2.2.2.2.1, yw t.2.2.2.2.2.2.1, zd t.2.2.2.2.2.2.2.1, yK t.2.2.2.2.2.2.2.2.1, zC t.2.2.2.2.2.2.2.2.2.1, vI t.2.2.2.2.2.2.2.2.2.2.1]), (5, .box [vS t.2.2.2.2.2.2.2.2.2.2.2.1, vI t.2.2.2.2.2.2.2.2.2.2.2.2.1, vI t.2.2.2.2.2.2.2.2.2.2.2.2.2.1, vB t.2.2.2.2.2.2.2.2.2.2.2.2.2.2.1]), (6, .box [vS t.2.2.2.2.2.2.2.2.2.2.2.2.2.2.2.1, vB t.2.2.2.2.2.2.2.2.2.2.2.2.2.2.2.2.1, .nils]), (10000000, .root true 89 Jb t.2.2.2.2.2.2.2.2.2.2.2.2.2.2.2.2.2)]⟩
theorem ymv : ∀ s t, unG yov y8b s = some t → y8b t = s := yq fun t => by kernel_rfl
def y8c (t : yfM) : St := ⟨.dead :: .box 1 0 :: .dead :: .own 10000000 :: vI t.1 :: .box 5 0 :: .box 6 0 :: vI t.2.1 :: dd 2 (zC t.2.2.1 :: vI t.2.2.2.1 :: vI t.2.2.2.2.1 :: dd 34 []), [(1, .box [z3 t.2.2.2.2.2.1, yw t.2.2.2.2.2.2.1, zd t.2.2.2.2.2.2.2.1, yK t.2.2.2.2.2.2.2.2.1, zC t.2.2.2.2.2.2.2.2.2.1, vI t.2.2.2.2.2.2.2.2.2.2.1]), (5, .box [vS t.2.2.2.2.2.2.2.2.2.2.2.1, vI t.2.2.2.2.2.2.2.2.2.2.2.2.1, vI t.2.2.2.2.2.2.2.2.2.2.2.2.2.1, vB t.2.2.2.2.2.2.2.2.2.2.2.2.2.2.1]), (6, .box [vS t.2.2.2.2.2.2.2.2.2.2.2.2.2.2.2.1, vB t.2.2.2.2.2.2.2.2.2.2.2.2.2.2.2.2.1, .own 10000001]), (10000000, .root true 89 Jb t.2.2.2.2.2.2.2.2.2.2.2.2.2.2.2.2.2.1), (10000001, .root true 3 yd t.2.2.2.2.2.2.2.2.2.2.2.2.2.2.2.2.2.2)]⟩
theorem ymw : ∀ s t, unG yow y8c s = some t → y8c t = s := yq fun t => by kernel_rfl
def y8d : (yfL ⊕ yfM) → St := Sum.elim y8b y8c
def ybE (s : St) : Option (yfL ⊕ yfM) := ((unG yov y8b s).map Sum.inl).or (((unG yow y8c) s).map Sum.inr)
theorem ymx : ∀ s t, ybE s = some t → y8d t = s := y7d ymv ymw
def yim : Gk k7 := fun κ => Jv (fun t => κ (some 2) ⟨.dead :: .box 1 0 :: .dead :: .own 10000000 :: dd 2 (.box 6 0 :: dd 3 (zC t.1 :: vI t.2.1 :: vI t.2.2.1 :: dd 34 [])), [(1, .box [z3 t.2.2.2.1, yw t.2.2.2.2.1, zd t.2.2.2.2.2.1, yK t.2.2.2.2.2.2.1, zC t.2.2.2.2.2.2.2.1, vI t.2.2.2.2.2.2.2.2.1]), (6, .box [vS t.2.2.2.2.2.2.2.2.2.1, vB t.2.2.2.2.2.2.2.2.2.2.1, .nils]), (10000000, .root true 89 Jb t.2.2.2.2.2.2.2.2.2.2.2)]⟩) (fun t => κ (some 2) ⟨.dead :: .box 1 0 :: .dead :: .own 10000000 :: dd 2 (.box 6 0 :: dd 3 (zC t.1 :: vI t.2.1 :: vI t.2.2.1 :: dd 34 [])), [(1, .box [z3 t.2.2.2.1, yw t.2.2.2.2.1, zd t.2.2.2.2.2.1, yK t.2.2.2.2.2.2.1, zC t.2.2.2.2.2.2.2.1, vI t.2.2.2.2.2.2.2.2.1]), (6, .box [vS t.2.2.2.2.2.2.2.2.2.1, vB t.2.2.2.2.2.2.2.2.2.2.1, .own 10000001]), (10000000, .root true 89 Jb t.2.2.2.2.2.2.2.2.2.2.2.1), (10000001, .root true 3 yd t.2.2.2.2.2.2.2.2.2.2.2.2)]⟩)
def ybF (t : yox) : St := ⟨.dead :: .box 1 0 :: .dead :: .own 10000000 :: dd 6 (zC t.1 :: vI t.2.1 :: vI t.2.2.1 :: dd 34 []), [(1, .box [z3 t.2.2.2.1, yw t.2.2.2.2.1, zd t.2.2.2.2.2.1, yK t.2.2.2.2.2.2.1, zC t.2.2.2.2.2.2.2.1, vI t.2.2.2.2.2.2.2.2.1]), (10000000, .root true 89 Jb t.2.2.2.2.2.2.2.2.2)]⟩
def yt7 : Gk k8 := fun κ => k9 (fun t => κ (some 0) ⟨dd 3 (.own 10000000 :: dd 43 []), [(10000000, .root true 89 Jb t)]⟩)
def ymy : Lp := lpC 3 (unG yoy ybF) @yt7 (lpC 7 ybE @yim lpN)
theorem ymz : LF ymu ymy 17 7 Tryz.f17 1 y8d @yim fun v : yfL => .inl v := fun R κ again v => by kernel_rfl
theorem ymA : LF ymu ymy 17 7 Tryz.f17 1 y8d @yim fun v : yfM => .inr v := fun R κ again v => by kernel_rfl
theorem yxz : LF ymu ymy 17 7 Tryz.f17 1 y8d @yim fun t => t := (LC.sum ymz ymA)
theorem yxA : LK ymu ymy 17 Tryz.f17 1 := lkN (u := ybE) ymx yxz
theorem yxB : LF ymu ymy 17 3 Tryz.f17 0 ybF @yt7 fun t => t := fun R κ again t => by kernel_rfl
theorem yxC : LK ymu ymy 17 Tryz.f17 0 := lkN (u := (unG yoy ybF)) (yq fun t => by kernel_rfl) yxB
theorem yDl : EV ymu ymy 17 Tryz.f17 yAy qz9 [(.sl 89 Jb)] jv := fun x => by kernel_rfl
def q17 : QF := ⟨17, jv, okN (n := 2) Tryz.func17 ⟨yxC, yxA, trivial⟩ yDl⟩
abbrev ka : Type := yoz
def Zr (k0 : Int → Option R) (again : ka → Option R) (t3 : ka) : Option R :=
 bif (decide (t3.2.2.2 < t3.2.2.1)) then if (0 : Int) ≤ t3.2.2.2 then if t3.2.2.2 < (List.length t3.2.1 : Int) then bif (yG t3.2.1 t3.2.2.2).2.1 then again ((Go.IntKind.wrap .i64 (t3.1 + (1 : Int))), t3.2.1, t3.2.2.1, (Go.IntKind.wrap .i64 (t3.2.2.2 + (1 : Int)))) else again (t3.1, t3.2.1, t3.2.2.1, (Go.IntKind.wrap .i64 (t3.2.2.2 + (1 : Int)))) else none else none else k0 t3.1
def VC k0 := zR (@Zr R k0) Yd
def YH (x : List y8) : Option Int :=
 VC (fun x1 => some x1) ((0 : Int), x, (List.length x : Int), (0 : Int))
def yxD : List QF := []
def ybG (t : yoz) : St := ⟨dd 3 (vI t.1 :: dd 2 (yK t.2.1 :: vI t.2.2.1 :: vI t.2.2.2 :: dd 9 [])), []⟩
def yt8 : Gk ka := fun κ => Zr (fun t => κ (some 0) ⟨dd 3 (vI t :: dd 14 []), []⟩)
def yxE : Lp := lpC 3 (unG yoA ybG) @yt8 lpN
theorem yxF : LF yxD yxE 18 3 Tryz.f18 0 ybG @yt8 fun t => t := fun R κ again t => by kernel_rfl
theorem yxG : LK yxD yxE 18 Tryz.f18 0 := lkN (u := (unG yoA ybG)) (yq fun t => by kernel_rfl) yxF
theorem yDm : EV yxD yxE 18 Tryz.f18 yAz [(.sl 53 yj)] [(.int .i64)] YH := fun x => by kernel_rfl
def q18 : QF := ⟨18, YH, okN (n := 1) Tryz.func18 ⟨yxG, trivial⟩ yDm⟩
abbrev ZM : Type := yoB
def ZN (k0 : Bool → Option R) (k1 : Unit → Option R) (again : ZM → Option R) (t4 : ZM) : Option R :=
 bif (decide (t4.2.2.2 < t4.2.2.1)) then if (0 : Int) ≤ t4.2.2.2 then if t4.2.2.2 < (List.length t4.1 : Int) then if (0 : Int) ≤ t4.2.2.2 then if t4.2.2.2 < (List.length t4.2.1 : Int) then bif ((zu t4.1 t4.2.2.2) != (zu t4.2.1 t4.2.2.2)) then k0 false else again (t4.1, t4.2.1, t4.2.2.1, (Go.IntKind.wrap .i64 (t4.2.2.2 + (1 : Int)))) else none else none else none else none else k1 ()
def vb k0 k1 := zR (@ZN R k0 k1) Yd
def Zs (x : yv8) : Option Bool :=
 bif ((List.length x.1 : Int) != (List.length x.2 : Int)) then some false else vb (fun x1 => some x1) (fun x2 => some true) (x.1, x.2, (List.length x.1 : Int), (0 : Int))
def yxH : List QF := []
def ybH (t : yoB) : St := ⟨z3 t.1 :: z3 t.2.1 :: dd 10 (vI t.2.2.1 :: vI t.2.2.2 :: dd 12 []), []⟩
def yt9 : Gk ZM := fun κ => ZN (fun t => κ none ⟨dd 4 (vB t :: dd 21 []), []⟩) (fun t => κ (some 0) ⟨dd 26 [], []⟩)
def yxI : Lp := lpC 4 (unG yoC ybH) @yt9 lpN
theorem yxJ : LF yxH yxI 99 4 Tryz.f99 0 ybH @yt9 fun t => t := fun R κ again t => by kernel_rfl
theorem yxK : LK yxH yxI 99 Tryz.f99 0 := lkN (u := (unG yoC ybH)) (yq fun t => by kernel_rfl) yxJ
theorem yDn : EV yxH yxI 99 Tryz.f99 yAA yv9 [.bool] Zs := fun x => by kernel_rfl
def q99 : QF := ⟨99, Zs, okN (n := 1) Tryz.func99 ⟨yxK, trivial⟩ yDn⟩
def wD (x : yva) : Option Bool :=
 Option.bind (bif ((ByteArray.toList x.1) == (ByteArray.toList x.2.2.2.1)) then some (x.2.1 == x.2.2.2.2.1) else some false) fun u1 => Option.bind (bif u1 then Option.bind (Zs (x.2.2.1, x.2.2.2.2.2)) fun r3 => some r3 else some false) fun u2 => some u2
theorem yDo : EV [q99] lpN 59 Tryz.f59 yAB yvb [.bool] wD := fun x => by kernel_rfl
def q59 : QF := ⟨59, wD, okN (n := 0) Tryz.func59 trivial yDo⟩
abbrev zp : Type := yoD
def z5 (k0 : Bool → Option R) (k1 : Unit → Option R) (again : zp → Option R) (t4 : zp) : Option R :=
 bif (decide (t4.2.2.2 < t4.2.2.1)) then if (0 : Int) ≤ t4.2.2.2 then if t4.2.2.2 < (List.length t4.2.1 : Int) then if (0 : Int) ≤ t4.2.2.2 then if t4.2.2.2 < (List.length t4.1 : Int) then Option.bind (wD ((y4M t4.2.1 t4.2.2.2).1, (y4M t4.2.1 t4.2.2.2).2.1, (y4M t4.2.1 t4.2.2.2).2.2, (y4M t4.1 t4.2.2.2).1, (y4M t4.1 t4.2.2.2).2.1, (y4M t4.1 t4.2.2.2).2.2)) fun r1 => bif (!r1) then k0 false else again (t4.1, t4.2.1, t4.2.2.1, (Go.IntKind.wrap .i64 (t4.2.2.2 + (1 : Int)))) else none else none else none else none else k1 ()
def YO k0 k1 := zR (@z5 R k0 k1) Yd
def zA (x : yoF) : Option Bool :=
 bif ((List.length x.1 : Int) != (List.length x.2 : Int)) then some false else YO (fun x2 => some x2) (fun x3 => some true) (x.2, x.1, (List.length x.1 : Int), (0 : Int))
def y8e : List QF := [q59]
def y1z (t : yoD) : St := ⟨.dead :: ynS t.1 :: .fn 59 :: dd 12 (ynS t.2.1 :: vI t.2.2.1 :: vI t.2.2.2 :: dd 14 []), []⟩
def y9L : Gk zp := fun κ => z5 (fun t => κ none ⟨dd 6 (vB t :: dd 25 []), []⟩) (fun t => κ (some 0) ⟨dd 32 [], []⟩)
def y8f : Lp := lpC 4 (unG yoE y1z) @y9L lpN
theorem ygh : LF y8e y8f 100001 4 Tryz.f58 0 y1z @y9L fun t => t := fun R κ again t => by kernel_rfl
theorem ygi : LK y8e y8f 100001 Tryz.f58 0 := lkN (u := (unG yoE y1z)) (yq fun t => by kernel_rfl) ygh
theorem yin : EV y8e y8f 100001 Tryz.f58 yd2 yoG [.bool] zA := fun x => by kernel_rfl
def ymB : QF := ⟨100001, zA, okN (n := 1) Tryz.func58 ⟨ygi, trivial⟩ yin⟩
def ZZ (x : yoF) : Option Bool :=
 Option.bind (zA x) fun r1 => some r1
theorem yDp : EV [ymB] lpN 20 Tryz.f20 yAC yoG [.bool] ZZ := fun x => by kernel_rfl
def q20 : QF := ⟨20, ZZ, okN (n := 0) Tryz.func20 trivial yDp⟩
def Wh (x : yhi) : Option Bool :=
 Option.bind (yM (x.1, (0 : Int), (15 : Int))) fun r1 => Option.bind (bif (!r1) then some true else Option.bind (yM (x.2.1, (1 : Int), (60 : Int))) fun r3 => some (!r3)) fun u2 => Option.bind (bif u2 then some true else Option.bind (yM (x.2.2.1, (0 : Int), (2 : Int))) fun r5 => some (!r5)) fun u4 => bif u4 then some false else bif (x.2.2.1 != (1 : Int)) then Option.bind (bif (x.2.2.2.1 == (0 : Int)) then some (x.2.2.2.2 == (0 : Int)) else some false) fun u6 => some u6 else Option.bind (yM (x.2.2.2.1, (0 : Int), (23 : Int))) fun r7 => Option.bind (bif r7 then Option.bind (yM (x.2.2.2.2, (0 : Int), (999 : Int))) fun r9 => some r9 else some false) fun u8 => some u8
theorem yDq : EV [q47] lpN 87 Tryz.f87 yAD Vo [.bool] Wh := fun x => by kernel_rfl
def q87 : QF := ⟨87, Wh, okN (n := 0) Tryz.func87 trivial yDq⟩
abbrev VO : Type := yoH
def wE (k0 : yzc → Option R) (k1 : List y7 → Option R) (again : VO → Option R) (t2 : VO) : Option R :=
 bif (decide (t2.2.2.2 < t2.2.2.1)) then if (0 : Int) ≤ t2.2.2.2 then if t2.2.2.2 < (List.length t2.2.1 : Int) then Option.bind (Wh ((y6 t2.2.1 t2.2.2.2).1, (y6 t2.2.1 t2.2.2.2).2.1, (y6 t2.2.1 t2.2.2.2).2.2.1, (y6 t2.2.1 t2.2.2.2).2.2.2.1, (y6 t2.2.1 t2.2.2.2).2.2.2.2)) fun r1 => Option.bind (bif (!r1) then some true else Option.bind (bif (decide (t2.2.2.2 > (0 : Int))) then if (0 : Int) ≤ (Go.IntKind.wrap .i64 (t2.2.2.2 - (1 : Int))) then if (Go.IntKind.wrap .i64 (t2.2.2.2 - (1 : Int))) < (List.length t2.1 : Int) then Option.bind (jX ((y6 t2.1 (Go.IntKind.wrap .i64 (t2.2.2.2 - (1 : Int)))).1, (y6 t2.1 (Go.IntKind.wrap .i64 (t2.2.2.2 - (1 : Int)))).2.1, (y6 t2.1 (Go.IntKind.wrap .i64 (t2.2.2.2 - (1 : Int)))).2.2.1, (y6 t2.1 (Go.IntKind.wrap .i64 (t2.2.2.2 - (1 : Int)))).2.2.2.1, (y6 t2.1 (Go.IntKind.wrap .i64 (t2.2.2.2 - (1 : Int)))).2.2.2.2, (y6 t2.2.1 t2.2.2.2).1, (y6 t2.2.1 t2.2.2.2).2.1, (y6 t2.2.1 t2.2.2.2).2.2.1, (y6 t2.2.1 t2.2.2.2).2.2.2.1, (y6 t2.2.1 t2.2.2.2).2.2.2.2)) fun r4 => some (!r4) else none else none else some false) fun u3 => some u3) fun u2 => bif u2 then k0 (t2.1, false) else again (t2.1, t2.2.1, t2.2.2.1, (Go.IntKind.wrap .i64 (t2.2.2.2 + (1 : Int)))) else none else none else k1 t2.1
def y1d k0 k1 := zR (@wE R k0 k1) Yd
def KA (x : List y7) : Option Bool :=
 y1d (fun x5 => some x5.2) (fun x6 => some (decide ((List.length x6 : Int) ≤ (60 : Int)))) (x, x, (List.length x : Int), (0 : Int))
def ymC : List QF := [q87, yBG]
def y8g (t : yoH) : St := ⟨Qt t.1 :: dd 4 (Qt t.2.1 :: vI t.2.2.1 :: vI t.2.2.2 :: dd 25 []), []⟩
def yk8 : Gk VO := fun κ => wE (fun t => κ none ⟨Qt t.1 :: .dead :: vB t.2 :: dd 30 [], []⟩) (fun t => κ (some 0) ⟨Qt t :: dd 32 [], []⟩)
def ymD : Lp := lpC 2 (unG yoI y8g) @yk8 lpN
theorem yta : LF ymC ymD 127 2 Tryz.f127 0 y8g @yk8 fun t => t := fun R κ again t => by kernel_rfl
theorem ytb : LK ymC ymD 127 Tryz.f127 0 := lkN (u := (unG yoI y8g)) (yq fun t => by kernel_rfl) yta
theorem yxL : EV ymC ymD 127 Tryz.f127 yre [(.sl 63 yh)] [.bool] KA := fun x => by kernel_rfl
def yDr : QF := ⟨127, KA, okN (n := 1) Tryz.func127 ⟨ytb, trivial⟩ yxL⟩
abbrev V2 : Type := yoJ
def Jw (k0 : yvc → Option R) (k1 : yji → Option R) (again : V2 → Option R) (t3 : V2) : Option R :=
 bif (decide (t3.2.2.2.1 < t3.2.2.1)) then if (0 : Int) ≤ t3.2.2.2.1 then if t3.2.2.2.1 < (List.length t3.2.1 : Int) then Option.bind (KA (yp t3.2.1 t3.2.2.2.1)) fun r1 => Option.bind (bif (!r1) then some true else some ((List.length (yp t3.2.1 t3.2.2.2.1) : Int) == (0 : Int))) fun u2 => bif u2 then k0 (false, t3.1, t3.2.2.2.2) else again ((Go.IntKind.wrap .i64 (t3.1 + (List.length (yp t3.2.1 t3.2.2.2.1) : Int))), t3.2.1, t3.2.2.1, (Go.IntKind.wrap .i64 (t3.2.2.2.1 + (1 : Int))), t3.2.2.2.2) else none else none else k1 (t3.1, t3.2.2.2.2)
def y05 k0 k1 := zR (@Jw R k0 k1) Yd
def zM (x : List ya) : Option Bool :=
 y05 (fun x3 => some x3.1) (fun x4 => Option.bind (bif (decide ((List.length x4.2 : Int) ≤ (3 : Int))) then some (decide (x4.1 ≤ (8 : Int))) else some false) fun u5 => some u5) ((0 : Int), x, (List.length x : Int), (0 : Int), x)
def yxM : List QF := [yDr]
def ybI (t : yoJ) : St := ⟨.dead :: .box 1 0 :: .dead :: vI t.1 :: dd 3 (YQ t.2.1 :: vI t.2.2.1 :: vI t.2.2.2.1 :: dd 24 []), [(1, .box [YQ t.2.2.2.2])]⟩
def ytc : Gk V2 := fun κ => Jw (fun t => κ none ⟨.dead :: .box 1 0 :: vB t.1 :: vI t.2.1 :: dd 30 [], [(1, .box [YQ t.2.2])]⟩) (fun t => κ (some 0) ⟨.dead :: .box 1 0 :: .dead :: vI t.1 :: dd 30 [], [(1, .box [YQ t.2])]⟩)
def yxN : Lp := lpC 3 (unG yoK ybI) @ytc lpN
theorem yxO : LF yxM yxN 95 3 Tryz.f95 0 ybI @ytc fun t => t := fun R κ again t => by kernel_rfl
theorem yxP : LK yxM yxN 95 Tryz.f95 0 := lkN (u := (unG yoK ybI)) (yq fun t => by kernel_rfl) yxO
theorem yDs : EV yxM yxN 95 Tryz.f95 yAE [(.sl 58 yt)] [.bool] zM := fun x => by kernel_rfl
def q95 : QF := ⟨95, zM, okN (n := 1) Tryz.func95 ⟨yxP, trivial⟩ yDs⟩
def Zt (x : yhj) : Option Int :=
 some (Go.IntKind.wrap .i64 ((Go.IntKind.wrap .i64 ((64 : Int) * x.1)) + x.2))
theorem yDt : EV [] lpN 92 Tryz.f92 yAF ykJ [(.int .i64)] Zt := fun x => by kernel_rfl
def q92 : QF := ⟨92, Zt, okN (n := 0) Tryz.func92 trivial yDt⟩
abbrev kY : Type := yoL
def j6 (k0 : yvd → Option R) (k1 : ykP → Option R) (again : kY → Option R) (t5 : kY) : Option R :=
 bif (decide (t5.2.2.2.2.2.2.1 < t5.2.2.2.2.2.1)) then if (0 : Int) ≤ t5.2.2.2.2.2.2.1 then if t5.2.2.2.2.2.2.1 < (List.length t5.2.2.2.2.1 : Int) then Option.bind (Zt ((y6 t5.2.2.2.2.1 t5.2.2.2.2.2.2.1).1, (y6 t5.2.2.2.2.1 t5.2.2.2.2.2.2.1).2.1)) fun r1 => if (0 : Int) ≤ t5.1 then if t5.1 < (List.length t5.2.2.2.2.2.2.2.1 : Int) then Option.bind (bif (decide (r1 < (zu t5.2.2.2.2.2.2.2.1 t5.1))) then some true else Option.bind (bif (decide ((Go.IntKind.wrap .i64 (t5.1 + (1 : Int))) < (List.length t5.2.2.2.2.2.2.2.1 : Int))) then if (0 : Int) ≤ (Go.IntKind.wrap .i64 (t5.1 + (1 : Int))) then if (Go.IntKind.wrap .i64 (t5.1 + (1 : Int))) < (List.length t5.2.2.2.2.2.2.2.1 : Int) then some (decide (r1 ≥ (zu t5.2.2.2.2.2.2.2.1 (Go.IntKind.wrap .i64 (t5.1 + (1 : Int)))))) else none else none else some false) fun u3 => some u3) fun u2 => bif u2 then k0 (t5.1, false, t5.2.1, t5.2.2.1, t5.2.2.2.1, t5.2.2.2.2.2.2.2) else again (t5.1, t5.2.1, t5.2.2.1, t5.2.2.2.1, t5.2.2.2.2.1, t5.2.2.2.2.2.1, (Go.IntKind.wrap .i64 (t5.2.2.2.2.2.2.1 + (1 : Int))), t5.2.2.2.2.2.2.2.1, t5.2.2.2.2.2.2.2.2) else none else none else none else none else k1 (t5.1, t5.2.1, t5.2.2.1, t5.2.2.2.1, t5.2.2.2.2.2.2.2)
def kZ k0 k1 := zR (@j6 R k0 k1) Yd
abbrev K0 : Type := ykP
def j7 (k0 : Bool → Option R) (k1 : Unit → Option R) (again : K0 → Option R) (t2 : K0) : Option R :=
 bif (decide (t2.2.2.2.1 < t2.2.2.1)) then if (0 : Int) ≤ t2.2.2.2.1 then if t2.2.2.2.1 < (List.length t2.2.1 : Int) then kZ (fun x4 => k0 x4.2.1) (fun x5 => again (x5.1, x5.2.1, x5.2.2.1, (Go.IntKind.wrap .i64 (x5.2.2.2.1 + (1 : Int))), x5.2.2.2.2.1, x5.2.2.2.2.2)) (t2.1, t2.2.1, t2.2.2.1, t2.2.2.2.1, (yp t2.2.1 t2.2.2.2.1), (List.length (yp t2.2.1 t2.2.2.2.1) : Int), (0 : Int), t2.2.2.2.2.1, t2.2.2.2.2.2) else none else none else k1 ()
def qr k0 k1 := zR (@j7 R k0 k1) Yd
def Jx (x : ynV) : Option Bool :=
 if (0 : Int) ≤ x.2.2 then if x.2.2 < (List.length x.2.1 : Int) then qr (fun x6 => some x6) (fun x7 => some true) (x.2.2, (yf x.2.1 x.2.2), (List.length (yf x.2.1 x.2.2) : Int), (0 : Int), x.1, x.2.1) else none else none
def ytd : List QF := [q92]
def ybJ (t : yoL) : St := ⟨.dead :: vI t.1 :: .box 2 0 :: dd 12 (YQ t.2.1 :: vI t.2.2.1 :: vI t.2.2.2.1 :: dd 3 (Qt t.2.2.2.2.1 :: vI t.2.2.2.2.2.1 :: vI t.2.2.2.2.2.2.1 :: dd 35 [])), [(2, .box [z3 t.2.2.2.2.2.2.2.1, yw t.2.2.2.2.2.2.2.2])]⟩
def yte : Gk kY := fun κ => j6 (fun t => κ none ⟨.dead :: vI t.1 :: .box 2 0 :: .dead :: vB t.2.1 :: dd 10 (YQ t.2.2.1 :: vI t.2.2.2.1 :: vI t.2.2.2.2.1 :: dd 41 []), [(2, .box [z3 t.2.2.2.2.2.1, yw t.2.2.2.2.2.2])]⟩) (fun t => κ (some 2) ⟨.dead :: vI t.1 :: .box 2 0 :: dd 12 (YQ t.2.1 :: vI t.2.2.1 :: vI t.2.2.2.1 :: dd 41 []), [(2, .box [z3 t.2.2.2.2.1, yw t.2.2.2.2.2])]⟩)
def ybK (t : ykP) : St := ⟨.dead :: vI t.1 :: .box 2 0 :: dd 12 (YQ t.2.1 :: vI t.2.2.1 :: vI t.2.2.2.1 :: dd 41 []), [(2, .box [z3 t.2.2.2.2.1, yw t.2.2.2.2.2])]⟩
def ytf : Gk K0 := fun κ => j7 (fun t => κ none ⟨dd 4 (vB t :: dd 54 []), []⟩) (fun t => κ (some 0) ⟨dd 59 [], []⟩)
def ytg : Lp := lpC 2 (unG yoN ybK) @ytf (lpC 5 (unG yoM ybJ) @yte lpN)
theorem yxQ : LF ytd ytg 96 5 Tryz.f96 1 ybJ @yte fun t => t := fun R κ again t => by kernel_rfl
theorem yxR : LK ytd ytg 96 Tryz.f96 1 := lkN (u := (unG yoM ybJ)) (yq fun t => by kernel_rfl) yxQ
theorem yxS : LF ytd ytg 96 2 Tryz.f96 0 ybK @ytf fun t => t := fun R κ again t => by kernel_rfl
theorem yxT : LK ytd ytg 96 Tryz.f96 0 := lkN (u := (unG yoN ybK)) (yq fun t => by kernel_rfl) yxS
theorem yDu : EV ytd ytg 96 Tryz.f96 yAG ynW [.bool] Jx := fun x => by kernel_rfl
def q96 : QF := ⟨96, Jx, okN (n := 2) Tryz.func96 ⟨yxT, yxR, trivial⟩ yDu⟩
abbrev V3 : Type := yoO
def Jy (k0 : yi7 → Option R) (k1 : Int → Option R) (again : V3 → Option R) (t5 : V3) : Option R :=
 bif (decide (t5.2.2.2.1 < t5.2.2.1)) then if (0 : Int) ≤ t5.2.2.2.1 then if t5.2.2.2.1 < (List.length t5.2.1 : Int) then Option.bind (bif (decide (t5.2.2.2.1 > (0 : Int))) then if (0 : Int) ≤ (Go.IntKind.wrap .i64 (t5.2.2.2.1 - (1 : Int))) then if (Go.IntKind.wrap .i64 (t5.2.2.2.1 - (1 : Int))) < (List.length t5.2.2.2.2.1 : Int) then if (0 : Int) ≤ t5.2.2.2.1 then if t5.2.2.2.1 < (List.length t5.2.2.2.2.1 : Int) then some (decide ((zu t5.2.2.2.2.1 (Go.IntKind.wrap .i64 (t5.2.2.2.1 - (1 : Int)))) ≥ (zu t5.2.2.2.2.1 t5.2.2.2.1))) else none else none else none else none else some false) fun u4 => Option.bind (bif u4 then some true else Option.bind (zM (yf t5.2.1 t5.2.2.2.1)) fun r6 => some (!r6)) fun u5 => Option.bind (bif u5 then some true else Option.bind (Jx (t5.2.2.2.2.1, t5.2.2.2.2.2, t5.2.2.2.1)) fun r8 => some (!r8)) fun u7 => bif u7 then k0 (false, t5.1) else Option.bind (yS (yf t5.2.1 t5.2.2.2.1)) fun r9 => Option.bind (bif (decide (t5.2.2.2.1 > (0 : Int))) then some ((List.length r9 : Int) == (0 : Int)) else some false) fun u10 => bif u10 then k0 (false, t5.1) else again ((Go.IntKind.wrap .i64 (t5.1 + (List.length r9 : Int))), t5.2.1, t5.2.2.1, (Go.IntKind.wrap .i64 (t5.2.2.2.1 + (1 : Int))), t5.2.2.2.2.1, t5.2.2.2.2.2) else none else none else k1 t5.1
def y06 k0 k1 := zR (@Jy R k0 k1) Yd
def Yu (x : Qz8) : Option Bool :=
 Option.bind (yM ((List.length x.2 : Int), (1 : Int), (20 : Int))) fun r1 => Option.bind (bif (!r1) then some true else some ((List.length x.1 : Int) != (List.length x.2 : Int))) fun u2 => Option.bind (bif u2 then some true else if (0 : Int) ≤ (0 : Int) then if (0 : Int) < (List.length x.1 : Int) then some ((zu x.1 (0 : Int)) != (0 : Int)) else none else none) fun u3 => bif u3 then some false else y06 (fun x11 => some x11.1) (fun x12 => some (decide (x12 ≤ (60 : Int)))) ((0 : Int), x.2, (List.length x.2 : Int), (0 : Int), x.1, x.2)
def yxU : List QF := [q47, q63, q95, q96]
def ybL (t : yoO) : St := ⟨.dead :: .box 1 0 :: .dead :: vI t.1 :: dd 25 (yw t.2.1 :: vI t.2.2.1 :: vI t.2.2.2.1 :: dd 46 []), [(1, .box [z3 t.2.2.2.2.1, yw t.2.2.2.2.2])]⟩
def yth : Gk V3 := fun κ => Jy (fun t => κ none ⟨dd 2 (vB t.1 :: vI t.2 :: dd 74 []), []⟩) (fun t => κ (some 0) ⟨dd 3 (vI t :: dd 74 []), []⟩)
def yxV : Lp := lpC 5 (unG yoP ybL) @yth lpN
theorem yxW : LF yxU yxV 53 5 Tryz.f53 0 ybL @yth fun t => t := fun R κ again t => by kernel_rfl
theorem yxX : LK yxU yxV 53 Tryz.f53 0 := lkN (u := (unG yoP ybL)) (yq fun t => by kernel_rfl) yxW
theorem yDv : EV yxU yxV 53 Tryz.f53 yAH qz8 [.bool] Yu := fun x => by kernel_rfl
def q53 : QF := ⟨53, Yu, okN (n := 1) Tryz.func53 ⟨yxX, trivial⟩ yDv⟩
abbrev V4 : Type := yoQ
def Jz (k0 : ynX → Option R) (k1 : List y9 → Option R) (again : V4 → Option R) (t2 : V4) : Option R :=
 bif (decide (t2.2.2.2 < t2.2.2.1)) then if (0 : Int) ≤ t2.2.2.2 then if t2.2.2.2 < (List.length t2.2.1 : Int) then Option.bind (yM ((yA t2.2.1 t2.2.2.2).1, (1 : Int), (60 : Int))) fun r1 => Option.bind (bif (!r1) then some true else Option.bind (bif (decide (t2.2.2.2 > (0 : Int))) then if (0 : Int) ≤ (Go.IntKind.wrap .i64 (t2.2.2.2 - (1 : Int))) then if (Go.IntKind.wrap .i64 (t2.2.2.2 - (1 : Int))) < (List.length t2.1 : Int) then some (decide ((yA t2.1 (Go.IntKind.wrap .i64 (t2.2.2.2 - (1 : Int)))).1 ≥ (yA t2.2.1 t2.2.2.2).1)) else none else none else some false) fun u3 => some u3) fun u2 => Option.bind (bif u2 then some true else Option.bind (bif ((yA t2.2.1 t2.2.2.2).2 != (0 : Int)) then if (0 : Int) ≤ (0 : Int) then if (0 : Int) ≤ t2.2.2.2 then if t2.2.2.2 ≤ (List.length t2.1 : Int) then Option.bind (YY ((List.drop (Int.toNat (0 : Int)) (List.take (Int.toNat t2.2.2.2) t2.1)), (yA t2.2.1 t2.2.2.2).2)) fun r6 => some (decide (r6 < (0 : Int))) else none else none else none else some false) fun u5 => some u5) fun u4 => bif u4 then k0 (t2.1, false) else again (t2.1, t2.2.1, t2.2.2.1, (Go.IntKind.wrap .i64 (t2.2.2.2 + (1 : Int)))) else none else none else k1 t2.1
def y07 k0 k1 := zR (@Jz R k0 k1) Yd
def w6 (x : List y9) : Option Bool :=
 y07 (fun x7 => some x7.2) (fun x8 => some (decide ((List.length x8 : Int) ≤ (16 : Int)))) (x, x, (List.length x : Int), (0 : Int))
def yxY : List QF := [q47, q97]
def ybM (t : yoQ) : St := ⟨zd t.1 :: dd 4 (zd t.2.1 :: vI t.2.2.1 :: vI t.2.2.2 :: dd 41 []), []⟩
def yti : Gk V4 := fun κ => Jz (fun t => κ none ⟨zd t.1 :: .dead :: vB t.2 :: dd 46 [], []⟩) (fun t => κ (some 0) ⟨zd t :: dd 48 [], []⟩)
def yxZ : Lp := lpC 2 (unG yoR ybM) @yti lpN
theorem yy0 : LF yxY yxZ 54 2 Tryz.f54 0 ybM @yti fun t => t := fun R κ again t => by kernel_rfl
theorem yy1 : LK yxY yxZ 54 Tryz.f54 0 := lkN (u := (unG yoR ybM)) (yq fun t => by kernel_rfl) yy0
theorem yDw : EV yxY yxZ 54 Tryz.f54 yAI [(.sl 67 yn)] [.bool] w6 := fun x => by kernel_rfl
def q54 : QF := ⟨54, w6, okN (n := 1) Tryz.func54 ⟨yy1, trivial⟩ yDw⟩
def kb (x : Int) : Option Bool :=
 Option.bind (yM (x, (0 : Int), (65535 : Int))) fun r1 => some r1
theorem yDx : EV [q47] lpN 38 Tryz.f38 yAJ [(.int .i64)] [.bool] kb := fun x => by kernel_rfl
def q38 : QF := ⟨38, kb, okN (n := 0) Tryz.func38 trivial yDx⟩
abbrev KT : Type := yoS
def jL (k0 : yzt → Option R) (k1 : List y8 → Option R) (again : KT → Option R) (t2 : KT) : Option R :=
 bif (decide (t2.2.2.2 < t2.2.2.1)) then if (0 : Int) ≤ t2.2.2.2 then if t2.2.2.2 < (List.length t2.2.1 : Int) then Option.bind (yM ((yG t2.2.1 t2.2.2.2).1, (0 : Int), (999 : Int))) fun r1 => Option.bind (bif (!r1) then some true else Option.bind (kb ((yG t2.2.1 t2.2.2.2).2.2)) fun r3 => some (!r3)) fun u2 => Option.bind (bif u2 then some true else Option.bind (bif ((yG t2.2.1 t2.2.2.2).2.2 != (0 : Int)) then some (!((yG t2.2.1 t2.2.2.2).2.1)) else some false) fun u5 => some u5) fun u4 => bif u4 then k0 (t2.1, false) else again (t2.1, t2.2.1, t2.2.2.1, (Go.IntKind.wrap .i64 (t2.2.2.2 + (1 : Int)))) else none else none else k1 t2.1
def Qi k0 k1 := zR (@jL R k0 k1) Yd
def jY (x : List y8) : Option Bool :=
 Qi (fun x6 => some x6.2) (fun x7 => some ((List.length x7 : Int) == (24 : Int))) (x, x, (List.length x : Int), (0 : Int))
def yy2 : List QF := [q38, q47]
def ybN (t : yoS) : St := ⟨yK t.1 :: dd 4 (yK t.2.1 :: vI t.2.2.1 :: vI t.2.2.2 :: dd 27 []), []⟩
def ytj : Gk KT := fun κ => jL (fun t => κ none ⟨yK t.1 :: .dead :: vB t.2 :: dd 32 [], []⟩) (fun t => κ (some 0) ⟨yK t :: dd 34 [], []⟩)
def yy3 : Lp := lpC 2 (unG yoT ybN) @ytj lpN
theorem yy4 : LF yy2 yy3 55 2 Tryz.f55 0 ybN @ytj fun t => t := fun R κ again t => by kernel_rfl
theorem yy5 : LK yy2 yy3 55 Tryz.f55 0 := lkN (u := (unG yoT ybN)) (yq fun t => by kernel_rfl) yy4
theorem yDy : EV yy2 yy3 55 Tryz.f55 yAK [(.sl 53 yj)] [.bool] jY := fun x => by kernel_rfl
def q55 : QF := ⟨55, jY, okN (n := 1) Tryz.func55 ⟨yy5, trivial⟩ yDy⟩
abbrev V5 : Type := yoU
def JA (k0 : List yc → Option R) (again : V5 → Option R) (t5 : V5) : Option R :=
 bif (decide (t5.2.2.2.1 < t5.2.2.1)) then if (0 : Int) ≤ t5.2.2.2.1 then if t5.2.2.2.1 < (List.length t5.2.1 : Int) then bif ((yA t5.2.1 t5.2.2.2.1).2 == t5.1) then if (List.length t5.2.2.2.2 + List.length ([(yA t5.2.1 t5.2.2.2.1).1] : List yc)) * 8 < 140737488355328 then again (t5.1, t5.2.1, t5.2.2.1, (Go.IntKind.wrap .i64 (t5.2.2.2.1 + (1 : Int))), (t5.2.2.2.2 ++ ([(yA t5.2.1 t5.2.2.2.1).1] : List yc))) else none else again (t5.1, t5.2.1, t5.2.2.1, (Go.IntKind.wrap .i64 (t5.2.2.2.1 + (1 : Int))), t5.2.2.2.2) else none else none else k0 t5.2.2.2.2
def y08 k0 := zR (@JA R k0) Yd
def Yv (x : yfF) : Option (List yc) :=
 bif (x.2 == (0 : Int)) then some ([] : List yc) else y08 (fun x1 => some x1) (x.2, x.1, (List.length x.1 : Int), (0 : Int), ([] : List yc))
def yy6 : List QF := []
def ybO (t : yoU) : St := ⟨.dead :: vI t.1 :: dd 3 (.own 10000000 :: dd 6 (zd t.2.1 :: vI t.2.2.1 :: vI t.2.2.2.1 :: dd 14 [])), [(10000000, .root true 3 yd t.2.2.2.2)]⟩
def ytk : Gk V5 := fun κ => JA (fun t => κ (some 0) ⟨dd 5 (.own 10000000 :: dd 23 []), [(10000000, .root true 3 yd t)]⟩)
def yy7 : Lp := lpC 5 (unG yoV ybO) @ytk lpN
theorem yy8 : LF yy6 yy7 28 5 Tryz.f28 0 ybO @ytk fun t => t := fun R κ again t => by kernel_rfl
theorem yy9 : LK yy6 yy7 28 Tryz.f28 0 := lkN (u := (unG yoV ybO)) (yq fun t => by kernel_rfl) yy8
theorem yDz : EV yy6 yy7 28 Tryz.f28 yAL yfG [(.sl 3 yd)] Yv := fun x => by kernel_rfl
def q28 : QF := ⟨28, Yv, okN (n := 1) Tryz.func28 ⟨yy9, trivial⟩ yDz⟩
abbrev V6 : Type := yua
def V7 (k0 : yza → Option R) (k1 : ByteArray → Option R) (again : V6 → Option R) (t2 : V6) : Option R :=
 bif (decide (t2.2 < ((ByteArray.size t2.1 : Nat) : Int))) then if (0 : Int) ≤ t2.2 then if h1 : Int.toNat t2.2 < ByteArray.size t2.1 then Option.bind (yM ((Go.IntKind.wrap .i64 ((UInt8.toNat (ByteArray.get t2.1 (Int.toNat t2.2) h1) : Nat) : Int)), (97 : Int), (122 : Int))) fun r2 => Option.bind (bif (!r2) then if (0 : Int) ≤ t2.2 then if h4 : Int.toNat t2.2 < ByteArray.size t2.1 then Option.bind (yM ((Go.IntKind.wrap .i64 ((UInt8.toNat (ByteArray.get t2.1 (Int.toNat t2.2) h4) : Nat) : Int)), (48 : Int), (57 : Int))) fun r5 => some (!r5) else none else none else some false) fun u3 => bif u3 then k0 (t2.1, false) else again (t2.1, (Go.IntKind.wrap .i64 (t2.2 + (1 : Int)))) else none else none else k1 t2.1
def y09 k0 k1 := zR (@V7 R k0 k1) Yd
def kc (x : ByteArray) : Option Bool :=
 y09 (fun x6 => some x6.2) (fun x7 => Option.bind (yM (((ByteArray.size x7 : Nat) : Int), (1 : Int), (6 : Int))) fun r8 => some r8) (x, (0 : Int))
def yya : List QF := [q47]
def ybP (t : yua) : St := ⟨vS t.1 :: dd 2 (vI t.2 :: dd 23 []), []⟩
def ytl : Gk V6 := fun κ => V7 (fun t => κ none ⟨vS t.1 :: .dead :: vB t.2 :: dd 24 [], []⟩) (fun t => κ (some 0) ⟨vS t :: dd 26 [], []⟩)
def yyb : Lp := lpC 2 (unG yub ybP) @ytl lpN
theorem yyc : LF yya yyb 76 2 Tryz.f76 0 ybP @ytl fun t => t := fun R κ again t => by kernel_rfl
theorem yyd : LK yya yyb 76 Tryz.f76 0 := lkN (u := (unG yub ybP)) (yq fun t => by kernel_rfl) yyc
theorem yDA : EV yya yyb 76 Tryz.f76 yAM [.str] [.bool] kc := fun x => by kernel_rfl
def q76 : QF := ⟨76, kc, okN (n := 1) Tryz.func76 ⟨yyd, trivial⟩ yDA⟩
def ke (x : yve) : Option yoW :=
 some ((x.2.1 == x.2.2.2.2.2.1), x.2.2.2.2.1, x.2.2.2.2.2.1, x.2.2.2.2.2.2.1, x.2.2.2.2.2.2.2)
theorem yDB : EV [] lpN 98 Tryz.f98 yAN yvf yoX ke := fun x => by kernel_rfl
def q98 : QF := ⟨98, ke, okN (n := 0) Tryz.func98 trivial yDB⟩
abbrev zN : Type := yoY
def yW (k0 : yp0 → Option R) (k1 : yvh → Option R) (again : zN → Option R) (t2 : zN) : Option R :=
 bif (decide (t2.2.2.1 < t2.2.1)) then if (0 : Int) ≤ t2.2.2.1 then if t2.2.2.1 < (List.length t2.1 : Int) then Option.bind (ke ((yi t2.1 t2.2.2.1).1, (yi t2.1 t2.2.2.1).2.1, (yi t2.1 t2.2.2.1).2.2.1, (yi t2.1 t2.2.2.1).2.2.2, t2.2.2.2.1, t2.2.2.2.2.1, t2.2.2.2.2.2.1, t2.2.2.2.2.2.2)) fun r1 => bif r1.1 then k0 (t2.2.2.1, r1.2) else again (t2.1, t2.2.1, (Go.IntKind.wrap .i64 (t2.2.2.1 + (1 : Int))), r1.2.1, r1.2.2.1, r1.2.2.2.1, r1.2.2.2.2) else none else none else k1 t2.2.2.2
def YC k0 k1 := zR (@yW R k0 k1) Yd
def z9 (x : yuT) : Option yp0 :=
 YC (fun x2 => some x2) (fun x3 => some ((-1 : Int), x3.1, x3.2.1, x3.2.2.1, x3.2.2.2)) (x.1, (List.length x.1 : Int), (0 : Int), x.2.1, x.2.2.1, x.2.2.2.1, x.2.2.2.2)
def y8h : List QF := [q98]
def y1A (t : yoY) : St := ⟨zC t.1 :: .clo 98 901 :: dd 5 (vI t.2.1 :: vI t.2.2.1 :: dd 10 []), [(901, .box [vS t.2.2.2.1, vI t.2.2.2.2.1, vI t.2.2.2.2.2.1, vB t.2.2.2.2.2.2])]⟩
def y9M : Gk zN := fun κ => yW (fun t => κ none ⟨.dead :: .clo 98 901 :: dd 2 (vI t.1 :: dd 14 []), [(901, .box [vS t.2.1, vI t.2.2.1, vI t.2.2.2.1, vB t.2.2.2.2])]⟩) (fun t => κ (some 0) ⟨.dead :: .clo 98 901 :: dd 17 [], [(901, .box [vS t.1, vI t.2.1, vI t.2.2.1, vB t.2.2.2])]⟩)
def y8i : Lp := lpC 2 (unG yoZ y1A) @y9M lpN
theorem ygj : LF y8h y8i 100003 2 Tryz.f103 0 y1A @y9M fun t => t := fun R κ again t => by kernel_rfl
theorem ygk : LK y8h y8i 100003 Tryz.f103 0 := lkN (u := (unG yoZ y1A)) (yq fun t => by kernel_rfl) ygj
theorem yio : EV y8h y8i 100003 Tryz.f103 yd3 yuU yvg z9 := fun x => by kernel_rfl
def ymE : QF := ⟨100003, z9, okN (n := 1) Tryz.func103 ⟨ygk, trivial⟩ yio⟩
def yH (x : yuT) : Option yoW :=
 Option.bind (z9 x) fun r1 => some ((decide (r1.1 ≥ (0 : Int))), r1.2.1, r1.2.2.1, r1.2.2.2.1, r1.2.2.2.2)
theorem yip : EV [ymE] lpN 100002 Tryz.f66 yd4 yuU yoX yH := fun x => by kernel_rfl
def ymF : QF := ⟨100002, yH, okN (n := 0) Tryz.func66 trivial yip⟩
abbrev V8 : Type := yp1
def JB (k0 : yi4 → Option R) (k1 : Qz9 → Option R) (again : V8 → Option R) (t2 : V8) : Option R :=
 bif (decide (t2.2.2.1 < t2.2.1)) then if (0 : Int) ≤ t2.2.2.1 then if t2.2.2.1 < (List.length t2.1 : Int) then Option.bind (kc ((yi t2.1 t2.2.2.1).1)) fun r1 => Option.bind (bif (!r1) then some true else Option.bind (bif (decide (t2.2.2.1 > (0 : Int))) then if (0 : Int) ≤ (Go.IntKind.wrap .i64 (t2.2.2.1 - (1 : Int))) then if (Go.IntKind.wrap .i64 (t2.2.2.1 - (1 : Int))) < (List.length t2.2.2.2.2.2.2.2.1 : Int) then some (!Go.Op.bytesLess (ByteArray.toList ((yi t2.2.2.2.2.2.2.2.1 (Go.IntKind.wrap .i64 (t2.2.2.1 - (1 : Int)))).1)) (ByteArray.toList ((yi t2.1 t2.2.2.1).1))) else none else none else some false) fun u3 => some u3) fun u2 => Option.bind (bif u2 then some true else Option.bind (yM ((yi t2.1 t2.2.2.1).2.2.1, (1 : Int), (12 : Int))) fun r5 => some (!r5)) fun u4 => bif u4 then k0 (false, t2.2.2.2) else Option.bind (YY (t2.2.2.2.2.2.1, (yi t2.1 t2.2.2.1).2.1)) fun r6 => Option.bind (bif (decide (r6 < (0 : Int))) then some true else Option.bind (Yv (t2.2.2.2.2.2.1, (yi t2.1 t2.2.2.1).2.1)) fun r8 => some (decide ((List.length r8 : Int) > (0 : Int)))) fun u7 => bif u7 then k0 (false, t2.2.2.2) else if (0 : Int) ≤ (0 : Int) then if (0 : Int) ≤ t2.2.2.1 then if t2.2.2.1 ≤ (List.length t2.2.2.2.2.2.2.2.1 : Int) then Option.bind (yH ((List.drop (Int.toNat (0 : Int)) (List.take (Int.toNat t2.2.2.1) t2.2.2.2.2.2.2.2.1)), (yi t2.1 t2.2.2.1).1, (yi t2.1 t2.2.2.1).2.1, (yi t2.1 t2.2.2.1).2.2.1, (yi t2.1 t2.2.2.1).2.2.2)) fun r9 => bif r9.1 then k0 (false, t2.2.2.2) else again (t2.1, t2.2.1, (Go.IntKind.wrap .i64 (t2.2.2.1 + (1 : Int))), t2.2.2.2.1, t2.2.2.2.2.1, t2.2.2.2.2.2.1, t2.2.2.2.2.2.2.1, t2.2.2.2.2.2.2.2.1, t2.2.2.2.2.2.2.2.2) else none else none else none else none else none else k1 t2.2.2.2
def y0a k0 k1 := zR (@JB R k0 k1) Yd
def kf (x : Qz9) : Option Bool :=
 y0a (fun x10 => some x10.1) (fun x11 => some (decide ((List.length x11.2.2.2.2.1 : Int) ≤ (6 : Int)))) (x.2.2.2.2.1, (List.length x.2.2.2.2.1 : Int), (0 : Int), x.1, x.2.1, x.2.2.1, x.2.2.2.1, x.2.2.2.2.1, x.2.2.2.2.2)
def yye : List QF := [q28, q47, q76, q97, ymF]
def ybQ (t : yp1) : St := ⟨.dead :: .box 1 0 :: dd 4 (zC t.1 :: vI t.2.1 :: vI t.2.2.1 :: dd 56 []), [(1, .box [z3 t.2.2.2.1, yw t.2.2.2.2.1, zd t.2.2.2.2.2.1, yK t.2.2.2.2.2.2.1, zC t.2.2.2.2.2.2.2.1, vI t.2.2.2.2.2.2.2.2])]⟩
def ytm : Gk V8 := fun κ => JB (fun t => κ none ⟨.dead :: .box 1 0 :: vB t.1 :: dd 62 [], [(1, .box [z3 t.2.1, yw t.2.2.1, zd t.2.2.2.1, yK t.2.2.2.2.1, zC t.2.2.2.2.2.1, vI t.2.2.2.2.2.2])]⟩) (fun t => κ (some 0) ⟨.dead :: .box 1 0 :: dd 63 [], [(1, .box [z3 t.1, yw t.2.1, zd t.2.2.1, yK t.2.2.2.1, zC t.2.2.2.2.1, vI t.2.2.2.2.2])]⟩)
def yyf : Lp := lpC 2 (unG yp2 ybQ) @ytm lpN
theorem yyg : LF yye yyf 56 2 Tryz.f56 0 ybQ @ytm fun t => t := fun R κ again t => by kernel_rfl
theorem yyh : LK yye yyf 56 Tryz.f56 0 := lkN (u := (unG yp2 ybQ)) (yq fun t => by kernel_rfl) yyg
theorem yDC : EV yye yyf 56 Tryz.f56 yAO qz9 [.bool] kf := fun x => by kernel_rfl
def q56 : QF := ⟨56, kf, okN (n := 1) Tryz.func56 ⟨yyh, trivial⟩ yDC⟩
abbrev KU : Type := yp3
def jM (k0 : yuR → Option R) (k1 : yhl → Option R) (again : KU → Option R) (t4 : KU) : Option R :=
 bif (decide (t4.2.2.1 < t4.2.1)) then if (0 : Int) ≤ t4.2.2.1 then if t4.2.2.1 < (List.length t4.2.2.2.2.2.2.2.2.2.2 : Int) then Option.bind (YY (t4.2.2.2.2.2.1, (y6 t4.2.2.2.2.2.2.2.2.2.2 t4.2.2.1).2.1)) fun r2 => bif (decide (r2 < (0 : Int))) then k0 (false, t4.1, t4.2.2.2.1, t4.2.2.2.2.1, t4.2.2.2.2.2.1, t4.2.2.2.2.2.2.1, t4.2.2.2.2.2.2.2.1, t4.2.2.2.2.2.2.2.2.1) else bif ((y6 t4.2.2.2.2.2.2.2.2.2.2 t4.2.2.1).2.2.1 != (1 : Int)) then again (t4.1, t4.2.1, (Go.IntKind.wrap .i64 (t4.2.2.1 + (1 : Int))), t4.2.2.2.1, t4.2.2.2.2.1, t4.2.2.2.2.2.1, t4.2.2.2.2.2.2.1, t4.2.2.2.2.2.2.2.1, t4.2.2.2.2.2.2.2.2.1, t4.2.2.2.2.2.2.2.2.2.1, t4.2.2.2.2.2.2.2.2.2.2) else Option.bind (w5 (t4.2.2.2.2.2.2.1, (y6 t4.2.2.2.2.2.2.2.2.2.2 t4.2.2.1).2.2.2.1, (y6 t4.2.2.2.2.2.2.2.2.2.2 t4.2.2.1).2.2.2.2)) fun r3 => Option.bind (bif (!r3.2) then some true else if (0 : Int) ≤ (y6 t4.2.2.2.2.2.2.2.2.2.2 t4.2.2.1).2.2.2.1 then if (y6 t4.2.2.2.2.2.2.2.2.2.2 t4.2.2.1).2.2.2.1 < (List.length t4.2.2.2.2.2.2.2.2.2.1 : Int) then some (yfE t4.2.2.2.2.2.2.2.2.2.1 ((y6 t4.2.2.2.2.2.2.2.2.2.2 t4.2.2.1).2.2.2.1)) else none else none) fun u4 => bif u4 then k0 (false, t4.1, t4.2.2.2.1, t4.2.2.2.2.1, t4.2.2.2.2.2.1, t4.2.2.2.2.2.2.1, t4.2.2.2.2.2.2.2.1, t4.2.2.2.2.2.2.2.2.1) else if (0 : Int) ≤ (y6 t4.2.2.2.2.2.2.2.2.2.2 t4.2.2.1).2.2.2.1 then if (y6 t4.2.2.2.2.2.2.2.2.2.2 t4.2.2.1).2.2.2.1 < (List.length t4.2.2.2.2.2.2.2.2.2.1 : Int) then again ((Go.IntKind.wrap .i64 (t4.1 + (1 : Int))), t4.2.1, (Go.IntKind.wrap .i64 (t4.2.2.1 + (1 : Int))), t4.2.2.2.1, t4.2.2.2.2.1, t4.2.2.2.2.2.1, t4.2.2.2.2.2.2.1, t4.2.2.2.2.2.2.2.1, t4.2.2.2.2.2.2.2.2.1, (List.set t4.2.2.2.2.2.2.2.2.2.1 (Int.toNat ((y6 t4.2.2.2.2.2.2.2.2.2.2 t4.2.2.1).2.2.2.1)) true), t4.2.2.2.2.2.2.2.2.2.2) else none else none else none else none else k1 (t4.1, t4.2.2.2.1, t4.2.2.2.2.1, t4.2.2.2.2.2.1, t4.2.2.2.2.2.2.1, t4.2.2.2.2.2.2.2.1, t4.2.2.2.2.2.2.2.2.1)
def Qj k0 k1 := zR (@jM R k0 k1) Yd
def wF (x : Qz9) : Option Bool :=
 if (0 : Int) ≤ (24 : Int) then if (24 : Int) ≤ (24 : Int) then if (24 : Int) * ((1 : Nat) : Int) ≤ 140737488351232 then Option.bind (yT (x.1, x.2.1)) fun r1 => Qj (fun x5 => some x5.1) (fun x6 => Option.bind (YH x6.2.2.2.2.1) fun r7 => some (r7 == x6.1)) ((0 : Int), (List.length r1 : Int), (0 : Int), x.1, x.2.1, x.2.2.1, x.2.2.2.1, x.2.2.2.2.1, x.2.2.2.2.2, (List.replicate (Int.toNat (24 : Int)) yfD), r1) else none else none else none
def yyi : List QF := [q18, q23, q78, q97]
def ybR (t : yp3) : St := ⟨.dead :: .box 1 0 :: .dead :: .own 10000000 :: vI t.1 :: dd 7 (.own 10000001 :: vI t.2.1 :: vI t.2.2.1 :: dd 43 []), [(1, .box [z3 t.2.2.2.1, yw t.2.2.2.2.1, zd t.2.2.2.2.2.1, yK t.2.2.2.2.2.2.1, zC t.2.2.2.2.2.2.2.1, vI t.2.2.2.2.2.2.2.2.1]), (10000000, .root true 4 y4N t.2.2.2.2.2.2.2.2.2.1), (10000001, .root true 63 yh t.2.2.2.2.2.2.2.2.2.2)]⟩
def ytn : Gk KU := fun κ => jM (fun t => κ none ⟨.dead :: .box 1 0 :: vB t.1 :: .dead :: vI t.2.1 :: dd 53 [], [(1, .box [z3 t.2.2.1, yw t.2.2.2.1, zd t.2.2.2.2.1, yK t.2.2.2.2.2.1, zC t.2.2.2.2.2.2.1, vI t.2.2.2.2.2.2.2])]⟩) (fun t => κ (some 0) ⟨.dead :: .box 1 0 :: dd 2 (vI t.1 :: dd 53 []), [(1, .box [z3 t.2.1, yw t.2.2.1, zd t.2.2.2.1, yK t.2.2.2.2.1, zC t.2.2.2.2.2.1, vI t.2.2.2.2.2.2])]⟩)
def yyj : Lp := lpC 4 (unG yp4 ybR) @ytn lpN
theorem yyk : LF yyi yyj 57 4 Tryz.f57 0 ybR @ytn fun t => t := fun R κ again t => by kernel_rfl
theorem yyl : LK yyi yyj 57 Tryz.f57 0 := lkN (u := (unG yp4 ybR)) (yq fun t => by kernel_rfl) yyk
theorem yDD : EV yyi yyj 57 Tryz.f57 yAP qz9 [.bool] wF := fun x => by kernel_rfl
def q57 : QF := ⟨57, wF, okN (n := 1) Tryz.func57 ⟨yyl, trivial⟩ yDD⟩
end
end Go.Proofs.YtjllpipmaejeoaaGreat.XW
