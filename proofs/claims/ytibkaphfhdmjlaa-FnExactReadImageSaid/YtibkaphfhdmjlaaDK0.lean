/- What functions compute, and that they do; part 0 of K; by a program (dec.py). No condition. -/
import Derived.Test.YtibkaphfhdmjlaaXK
set_option linter.all false
namespace Go.Proofs.Ytibkaphfhdmjlaa.XK
open Go.Proofs.Ytibkaphfhdmjlaa.R
set_option maxRecDepth 100000
noncomputable def F_laws_szByteS (x : Qz0) : Option Int :=
  bif (decide ((Go.IntKind.wrap .i64 (x.2 - ((List.length x.1 : Nat) : Int))) < (0 : Int))) then some (-1 : Int) else some (Go.IntKind.wrap .i64 (x.2 - ((List.length x.1 : Nat) : Int)))
theorem ev43 : EV [] lpN 43 Try.f43 sg43 qz0 [(.int .i64)] F_laws_szByteS := fun x => by kernel_rfl
noncomputable def q43 : QF := ⟨43, F_laws_szByteS, okN (n := 0) Try.func43 (by kernel_rfl) (by kernel_rfl) trivial ev43⟩
abbrev T_laws_szByteSS_5 : Type := Qz1
noncomputable def S_laws_szByteSS_5 {R : Type} (k0 : Qz2 → Option R) (k1 : Int → Option R) (again : T_laws_szByteSS_5 → Option R) (t5 : T_laws_szByteSS_5) : Option R :=
  bif (decide (t5.2.2 < ((List.length t5.1 : Nat) : Int))) then if (0 : Int) ≤ t5.2.2 then if t5.2.2 < ((List.length t5.1 : Nat) : Int) then Option.bind (F_laws_szByteS ((rd_s_u8 t5.1 t5.2.2), t5.2.1)) fun r1 => bif (decide (r1 < (0 : Int))) then k0 (r1, (-1 : Int)) else again (t5.1, r1, (Go.IntKind.wrap .i64 (t5.2.2 + (1 : Int)))) else none else none else k1 t5.2.1
noncomputable def L_laws_szByteSS_5 {R : Type} (k0 : Qz2 → Option R) (k1 : Int → Option R) (t : T_laws_szByteSS_5) : Option R := iter (S_laws_szByteSS_5 k0 k1) FUEL t
noncomputable def F_laws_szByteSS (x : Qz3) : Option Int :=
  bif (decide ((Go.IntKind.wrap .i64 (x.2 - ((List.length x.1 : Nat) : Int))) < (0 : Int))) then some (-1 : Int) else L_laws_szByteSS_5 (fun x2 => some x2.2) (fun x3 => some x3) (x.1, (Go.IntKind.wrap .i64 (x.2 - ((List.length x.1 : Nat) : Int))), (0 : Int))
noncomputable def f19Q : List QF := [q43]
def f19e5_0 (t : Qz1) : St := ⟨v_s_u8 t.1 :: vI t.2.1 :: dd 3 (vI t.2.2 :: dd 21 []), []⟩
noncomputable def f19g5 : Gk T_laws_szByteSS_5 := fun κ => S_laws_szByteSS_5 (fun t => κ none ⟨.dead :: vI t.1 :: dd 2 (vI t.2 :: dd 22 []), []⟩) (fun t => κ (some 0) ⟨.dead :: vI t :: dd 25 [], []⟩)
noncomputable def f19P : Lp := lpC 5 (unG qz1 f19e5_0) @f19g5 lpN
theorem f19C5 : LF f19Q f19P 19 5 Try.f19 0 f19e5_0 @f19g5 fun t => t := fun R κ again t => by kernel_rfl
theorem f19k5 : LK f19Q f19P 19 Try.f19 0 := loop_okG (u := (unG qz1 f19e5_0)) (by kernel_rfl) (unG_ok fun t => by kernel_rfl) (fun R κ s => by kernel_rfl) f19C5
theorem ev19 : EV f19Q f19P 19 Try.f19 sg19 qz3 [(.int .i64)] F_laws_szByteSS := fun x => by kernel_rfl
noncomputable def q19 : QF := ⟨19, F_laws_szByteSS, okN (n := 1) Try.func19 (by kernel_rfl) (by kernel_rfl) ⟨f19k5, trivial⟩ ev19⟩
noncomputable def F_laws_szWr (x : Qz4) : Option Int :=
  Option.bind (F_laws_szByteS (x.2.1, x.2.2)) fun r1 => bif (decide (r1 < (0 : Int))) then some (-1 : Int) else some r1
theorem ev44 : EV [q43] lpN 44 Try.f44 sg44 qz4 [(.int .i64)] F_laws_szWr := fun x => by kernel_rfl
noncomputable def q44 : QF := ⟨44, F_laws_szWr, okN (n := 0) Try.func44 (by kernel_rfl) (by kernel_rfl) trivial ev44⟩
abbrev T_laws_szWrS_5 : Type := Qz5
noncomputable def S_laws_szWrS_5 {R : Type} (k0 : Qz2 → Option R) (k1 : Int → Option R) (again : T_laws_szWrS_5 → Option R) (t5 : T_laws_szWrS_5) : Option R :=
  bif (decide (t5.2.2 < ((List.length t5.1 : Nat) : Int))) then if (0 : Int) ≤ t5.2.2 then if t5.2.2 < ((List.length t5.1 : Nat) : Int) then Option.bind (F_laws_szWr ((rd_LWr t5.1 t5.2.2).1, (rd_LWr t5.1 t5.2.2).2, t5.2.1)) fun r1 => bif (decide (r1 < (0 : Int))) then k0 (r1, (-1 : Int)) else again (t5.1, r1, (Go.IntKind.wrap .i64 (t5.2.2 + (1 : Int)))) else none else none else k1 t5.2.1
noncomputable def L_laws_szWrS_5 {R : Type} (k0 : Qz2 → Option R) (k1 : Int → Option R) (t : T_laws_szWrS_5) : Option R := iter (S_laws_szWrS_5 k0 k1) FUEL t
noncomputable def F_laws_szWrS (x : Qz6) : Option Int :=
  bif (decide ((Go.IntKind.wrap .i64 (x.2 - ((List.length x.1 : Nat) : Int))) < (0 : Int))) then some (-1 : Int) else L_laws_szWrS_5 (fun x2 => some x2.2) (fun x3 => some x3) (x.1, (Go.IntKind.wrap .i64 (x.2 - ((List.length x.1 : Nat) : Int))), (0 : Int))
noncomputable def f20Q : List QF := [q44]
def f20e5_0 (t : Qz5) : St := ⟨v_LWr t.1 :: vI t.2.1 :: dd 3 (vI t.2.2 :: dd 21 []), []⟩
noncomputable def f20g5 : Gk T_laws_szWrS_5 := fun κ => S_laws_szWrS_5 (fun t => κ none ⟨.dead :: vI t.1 :: dd 2 (vI t.2 :: dd 22 []), []⟩) (fun t => κ (some 0) ⟨.dead :: vI t :: dd 25 [], []⟩)
noncomputable def f20P : Lp := lpC 5 (unG qz5 f20e5_0) @f20g5 lpN
theorem f20C5 : LF f20Q f20P 20 5 Try.f20 0 f20e5_0 @f20g5 fun t => t := fun R κ again t => by kernel_rfl
theorem f20k5 : LK f20Q f20P 20 Try.f20 0 := loop_okG (u := (unG qz5 f20e5_0)) (by kernel_rfl) (unG_ok fun t => by kernel_rfl) (fun R κ s => by kernel_rfl) f20C5
theorem ev20 : EV f20Q f20P 20 Try.f20 sg20 qz6 [(.int .i64)] F_laws_szWrS := fun x => by kernel_rfl
noncomputable def q20 : QF := ⟨20, F_laws_szWrS, okN (n := 1) Try.func20 (by kernel_rfl) (by kernel_rfl) ⟨f20k5, trivial⟩ ev20⟩
noncomputable def F_laws_szDev (x : Qz7) : Option Int :=
  Option.bind (F_laws_szByteSS (x.1, x.2.2.2.2)) fun r1 => bif (decide (r1 < (0 : Int))) then some (-1 : Int) else Option.bind (F_laws_szWrS (x.2.1, r1)) fun r2 => bif (decide (r2 < (0 : Int))) then some (-1 : Int) else some r2
theorem ev5 : EV [q19, q20] lpN 5 Try.f5 sg5 qz7 [(.int .i64)] F_laws_szDev := fun x => by kernel_rfl
noncomputable def q5 : QF := ⟨5, F_laws_szDev, okN (n := 0) Try.func5 (by kernel_rfl) (by kernel_rfl) trivial ev5⟩
noncomputable def F_spec_l1In (x : Qz8) : Option Bool :=
  Option.bind (bif (decide (x.1 ≥ x.2.1)) then some (decide (x.1 ≤ x.2.2)) else some false) fun u1 => some u1
theorem ev36 : EV [] lpN 36 Try.f36 sg36 qz8 [.bool] F_spec_l1In := fun x => by kernel_rfl
noncomputable def q36 : QF := ⟨36, F_spec_l1In, okN (n := 0) Try.func36 (by kernel_rfl) (by kernel_rfl) trivial ev36⟩
abbrev T_spec_DevOk_2 : Type := Qz9
noncomputable def S_spec_DevOk_2 {R : Type} (k0 : Qz10 → Option R) (k1 : Qz11 → Option R) (again : T_spec_DevOk_2 → Option R) (t2 : T_spec_DevOk_2) : Option R :=
  bif (decide (t2.1 < ((List.length t2.2.1 : Nat) : Int))) then if (0 : Int) ≤ t2.1 then if t2.1 < ((List.length t2.2.1 : Nat) : Int) then bif (decide (((List.length (rd_s_u8 t2.2.1 t2.1) : Nat) : Int) > (80 : Int))) then k0 (false, t2.2.1, t2.2.2.1, t2.2.2.2.1, t2.2.2.2.2) else again ((Go.IntKind.wrap .i64 (t2.1 + (1 : Int))), t2.2.1, t2.2.2.1, t2.2.2.2.1, t2.2.2.2.2) else none else none else k1 (t2.2.1, t2.2.2.1, t2.2.2.2.1, t2.2.2.2.2)
noncomputable def L_spec_DevOk_2 {R : Type} (k0 : Qz10 → Option R) (k1 : Qz11 → Option R) (t : T_spec_DevOk_2) : Option R := iter (S_spec_DevOk_2 k0 k1) FUEL t
abbrev T_spec_DevOk_7 : Type := Qz9
noncomputable def S_spec_DevOk_7 {R : Type} (k0 : Qz10 → Option R) (k1 : Qz11 → Option R) (again : T_spec_DevOk_7 → Option R) (t7 : T_spec_DevOk_7) : Option R :=
  bif (decide (t7.1 < ((List.length t7.2.2.1 : Nat) : Int))) then if (0 : Int) ≤ t7.1 then if t7.1 < ((List.length t7.2.2.1 : Nat) : Int) then Option.bind (F_spec_l1In ((rd_Wr t7.2.2.1 t7.1).1, (0 : Int), (Go.IntKind.wrap .i64 (((List.length t7.2.1 : Nat) : Int) - (1 : Int))))) fun r3 => Option.bind (bif (!r3) then some true else if (0 : Int) ≤ t7.1 then if t7.1 < ((List.length t7.2.2.1 : Nat) : Int) then some (decide (((List.length ((rd_Wr t7.2.2.1 t7.1).2) : Nat) : Int) > (80 : Int))) else none else none) fun u4 => bif u4 then k0 (false, t7.2.1, t7.2.2.1, t7.2.2.2.1, t7.2.2.2.2) else again ((Go.IntKind.wrap .i64 (t7.1 + (1 : Int))), t7.2.1, t7.2.2.1, t7.2.2.2.1, t7.2.2.2.2) else none else none else k1 (t7.2.1, t7.2.2.1, t7.2.2.2.1, t7.2.2.2.2)
noncomputable def L_spec_DevOk_7 {R : Type} (k0 : Qz10 → Option R) (k1 : Qz11 → Option R) (t : T_spec_DevOk_7) : Option R := iter (S_spec_DevOk_7 k0 k1) FUEL t
noncomputable def F_spec_DevOk (x : Qz11) : Option Bool :=
  L_spec_DevOk_2 (fun x1 => some x1.1) (fun x2 => L_spec_DevOk_7 (fun x5 => some x5.1) (fun x6 => Option.bind (F_spec_l1In (((List.length x6.1 : Nat) : Int), (1 : Int), (60 : Int))) fun r7 => Option.bind (bif r7 then some (decide (((List.length x6.2.1 : Nat) : Int) ≤ (60 : Int))) else some false) fun u8 => Option.bind (bif u8 then Option.bind (F_spec_l1In (x6.2.2.1, (-1 : Int), (1000 : Int))) fun r10 => some r10 else some false) fun u9 => some u9) ((0 : Int), x2.1, x2.2.1, x2.2.2.1, x2.2.2.2)) ((0 : Int), x.1, x.2.1, x.2.2.1, x.2.2.2)
noncomputable def f35Q : List QF := [q36]
def f35e2_0 (t : Qz9) : St := ⟨.dead :: .box 1 0 :: .dead :: vI t.1 :: dd 59 [], [(1, .box [v_s_u8 t.2.1, v_Wr t.2.2.1, vI t.2.2.2.1, vB t.2.2.2.2])]⟩
noncomputable def f35g2 : Gk T_spec_DevOk_2 := fun κ => S_spec_DevOk_2 (fun t => κ none ⟨.dead :: .box 1 0 :: vB t.1 :: dd 60 [], [(1, .box [v_s_u8 t.2.1, v_Wr t.2.2.1, vI t.2.2.2.1, vB t.2.2.2.2])]⟩) (fun t => κ (some 0) ⟨.dead :: .box 1 0 :: dd 61 [], [(1, .box [v_s_u8 t.1, v_Wr t.2.1, vI t.2.2.1, vB t.2.2.2])]⟩)
def f35e7_0 (t : Qz9) : St := ⟨.dead :: .box 1 0 :: dd 2 (vI t.1 :: dd 58 []), [(1, .box [v_s_u8 t.2.1, v_Wr t.2.2.1, vI t.2.2.2.1, vB t.2.2.2.2])]⟩
noncomputable def f35g7 : Gk T_spec_DevOk_7 := fun κ => S_spec_DevOk_7 (fun t => κ none ⟨.dead :: .box 1 0 :: vB t.1 :: dd 60 [], [(1, .box [v_s_u8 t.2.1, v_Wr t.2.2.1, vI t.2.2.2.1, vB t.2.2.2.2])]⟩) (fun t => κ (some 2) ⟨.dead :: .box 1 0 :: dd 61 [], [(1, .box [v_s_u8 t.1, v_Wr t.2.1, vI t.2.2.1, vB t.2.2.2])]⟩)
noncomputable def f35P : Lp := lpC 7 (unG qz9 f35e7_0) @f35g7 (lpC 2 (unG qz9 f35e2_0) @f35g2 lpN)
theorem f35C2 : LF f35Q f35P 35 2 Try.f35 0 f35e2_0 @f35g2 fun t => t := fun R κ again t => by kernel_rfl
theorem f35k2 : LK f35Q f35P 35 Try.f35 0 := loop_okG (u := (unG qz9 f35e2_0)) (by kernel_rfl) (unG_ok fun t => by kernel_rfl) (fun R κ s => by kernel_rfl) f35C2
theorem f35C7 : LF f35Q f35P 35 7 Try.f35 1 f35e7_0 @f35g7 fun t => t := fun R κ again t => by kernel_rfl
theorem f35k7 : LK f35Q f35P 35 Try.f35 1 := loop_okG (u := (unG qz9 f35e7_0)) (by kernel_rfl) (unG_ok fun t => by kernel_rfl) (fun R κ s => by kernel_rfl) f35C7
theorem ev35 : EV f35Q f35P 35 Try.f35 sg35 qz11 [.bool] F_spec_DevOk := fun x => by kernel_rfl
noncomputable def q35 : QF := ⟨35, F_spec_DevOk, okN (n := 2) Try.func35 (by kernel_rfl) (by kernel_rfl) ⟨f35k2, f35k7, trivial⟩ ev35⟩
abbrev T_spec_ReadSec_5 : Type := Qz12
noncomputable def S_spec_ReadSec_5 {R : Type} (k0 : List E_u8 → Option R) (again : T_spec_ReadSec_5 → Option R) (t5 : T_spec_ReadSec_5) : Option R :=
  bif (decide (t5.2.2.1 < ((List.length t5.2.2.2.2.1 : Nat) : Int))) then if (0 : Int) ≤ t5.2.2.1 then if t5.2.2.1 < ((List.length t5.2.2.2.2.1 : Nat) : Int) then bif ((rd_Wr t5.2.2.2.2.1 t5.2.2.1).1 == t5.1) then if (0 : Int) ≤ t5.2.2.1 then if t5.2.2.1 < ((List.length t5.2.2.2.2.1 : Nat) : Int) then again (t5.1, (rd_Wr t5.2.2.2.2.1 t5.2.2.1).2, (Go.IntKind.wrap .i64 (t5.2.2.1 + (1 : Int))), t5.2.2.2.1, t5.2.2.2.2.1, t5.2.2.2.2.2.1, t5.2.2.2.2.2.2) else none else none else again (t5.1, t5.2.1, (Go.IntKind.wrap .i64 (t5.2.2.1 + (1 : Int))), t5.2.2.2.1, t5.2.2.2.2.1, t5.2.2.2.2.2.1, t5.2.2.2.2.2.2) else none else none else k0 t5.2.1
noncomputable def L_spec_ReadSec_5 {R : Type} (k0 : List E_u8 → Option R) (t : T_spec_ReadSec_5) : Option R := iter (S_spec_ReadSec_5 k0) FUEL t
noncomputable def F_spec_ReadSec (x : Qz13) : Option (List E_u8) :=
  Option.bind (F_spec_DevOk (x.1, x.2.1, x.2.2.1, x.2.2.2.1)) fun r1 => Option.bind (bif (!r1) then some true else Option.bind (F_spec_l1In (x.2.2.2.2, (0 : Int), (Go.IntKind.wrap .i64 (((List.length x.1 : Nat) : Int) - (1 : Int))))) fun r3 => some (!r3)) fun u2 => bif u2 then some ([] : List E_u8) else if (0 : Int) ≤ x.2.2.2.2 then if x.2.2.2.2 < ((List.length x.1 : Nat) : Int) then L_spec_ReadSec_5 (fun x4 => if (List.length ([] : List E_u8) + List.length x4) * 1 < 140737488355328 then some (([] : List E_u8) ++ x4) else none) (x.2.2.2.2, (rd_s_u8 x.1 x.2.2.2.2), (0 : Int), x.1, x.2.1, x.2.2.1, x.2.2.2.1) else none else none
noncomputable def f21Q : List QF := [q35, q36]
def f21e5_0 (t : Qz12) : St := ⟨.dead :: vI t.1 :: .box 2 0 :: dd 2 (v_u8 t.2.1 :: vI t.2.2.1 :: dd 42 []), [(2, .box [v_s_u8 t.2.2.2.1, v_Wr t.2.2.2.2.1, vI t.2.2.2.2.2.1, vB t.2.2.2.2.2.2])]⟩
noncomputable def f21g5 : Gk T_spec_ReadSec_5 := fun κ => S_spec_ReadSec_5 (fun t => κ (some 0) ⟨dd 5 (v_u8 t :: dd 43 []), []⟩)
noncomputable def f21P : Lp := lpC 5 (unG qz12 f21e5_0) @f21g5 lpN
theorem f21C5 : LF f21Q f21P 21 5 Try.f21 0 f21e5_0 @f21g5 fun t => t := fun R κ again t => by kernel_rfl
theorem f21k5 : LK f21Q f21P 21 Try.f21 0 := loop_okG (u := (unG qz12 f21e5_0)) (by kernel_rfl) (unG_ok fun t => by kernel_rfl) (fun R κ s => by kernel_rfl) f21C5
theorem ev21 : EV f21Q f21P 21 Try.f21 sg21 qz13 [(.sl 5 ts_u8)] F_spec_ReadSec := fun x => by kernel_rfl
noncomputable def q21 : QF := ⟨21, F_spec_ReadSec, okN (n := 1) Try.func21 (by kernel_rfl) (by kernel_rfl) ⟨f21k5, trivial⟩ ev21⟩
noncomputable def F_spec_PartAt (x : Qz2) : Option Int :=
  Option.bind (F_spec_l1In (x.1, (0 : Int), (1 : Int))) fun r1 => Option.bind (bif (!r1) then some true else Option.bind (F_spec_l1In (x.2, (0 : Int), (23 : Int))) fun r3 => some (!r3)) fun u2 => bif u2 then some (-1 : Int) else some (Go.IntKind.wrap .i64 ((Go.IntKind.wrap .i64 ((8 : Int) + (Go.IntKind.wrap .i64 (x.1 * (24 : Int))))) + x.2))
theorem ev22 : EV [q36] lpN 22 Try.f22 sg22 qz2 [(.int .i64)] F_spec_PartAt := fun x => by kernel_rfl
noncomputable def q22 : QF := ⟨22, F_spec_PartAt, okN (n := 0) Try.func22 (by kernel_rfl) (by kernel_rfl) trivial ev22⟩
abbrev T_spec_Crc_7 : Type := Qz14
noncomputable def S_spec_Crc_7 {R : Type} (k0 : Qz15 → Option R) (again : T_spec_Crc_7 → Option R) (t7 : T_spec_Crc_7) : Option R :=
  bif (decide (t7.2.2.2 < (8 : Int))) then bif ((Go.bits .and .i64 t7.2.1 (1 : Int)) == (1 : Int)) then again (t7.1, (Go.bits .xor .i64 (Int.fdiv t7.2.1 (2 ^ (min (Int.toNat (1 : Int)) (Go.IntKind.bits .i64)))) (2197175160 : Int)), t7.2.2.1, (Go.IntKind.wrap .i64 (t7.2.2.2 + (1 : Int)))) else again (t7.1, (Int.fdiv t7.2.1 (2 ^ (min (Int.toNat (1 : Int)) (Go.IntKind.bits .i64)))), t7.2.2.1, (Go.IntKind.wrap .i64 (t7.2.2.2 + (1 : Int)))) else k0 (t7.1, t7.2.1, t7.2.2.1)
noncomputable def L_spec_Crc_7 {R : Type} (k0 : Qz15 → Option R) (t : T_spec_Crc_7) : Option R := iter (S_spec_Crc_7 k0) FUEL t
abbrev T_spec_Crc_3 : Type := Qz15
noncomputable def S_spec_Crc_3 {R : Type} (k0 : Int → Option R) (again : T_spec_Crc_3 → Option R) (t3 : T_spec_Crc_3) : Option R :=
  bif (decide (t3.2.2 < ((List.length t3.1 : Nat) : Int))) then if (0 : Int) ≤ t3.2.2 then if t3.2.2 < ((List.length t3.1 : Nat) : Int) then L_spec_Crc_7 (fun x1 => again (x1.1, x1.2.1, (Go.IntKind.wrap .i64 (x1.2.2 + (1 : Int))))) (t3.1, (Go.bits .xor .i64 t3.2.1 (Go.IntKind.wrap .i64 (rd_u8 t3.1 t3.2.2))), t3.2.2, (0 : Int)) else none else none else k0 t3.2.1
noncomputable def L_spec_Crc_3 {R : Type} (k0 : Int → Option R) (t : T_spec_Crc_3) : Option R := iter (S_spec_Crc_3 k0) FUEL t
noncomputable def F_spec_Crc (x : List E_u8) : Option Int :=
  L_spec_Crc_3 (fun x2 => some (Go.bits .xor .i64 x2 (4294967295 : Int))) (x, (4294967295 : Int), (0 : Int))
noncomputable def f23Q : List QF := []
def f23e7_0 (t : Qz14) : St := ⟨v_u8 t.1 :: dd 2 (vI t.2.1 :: vI t.2.2.1 :: vI t.2.2.2 :: dd 27 []), []⟩
noncomputable def f23g7 : Gk T_spec_Crc_7 := fun κ => S_spec_Crc_7 (fun t => κ (some 2) ⟨v_u8 t.1 :: dd 2 (vI t.2.1 :: vI t.2.2 :: dd 28 []), []⟩)
def f23e3_0 (t : Qz15) : St := ⟨v_u8 t.1 :: dd 2 (vI t.2.1 :: vI t.2.2 :: dd 28 []), []⟩
noncomputable def f23g3 : Gk T_spec_Crc_3 := fun κ => S_spec_Crc_3 (fun t => κ (some 0) ⟨dd 3 (vI t :: dd 29 []), []⟩)
noncomputable def f23P : Lp := lpC 3 (unG qz15 f23e3_0) @f23g3 (lpC 7 (unG qz14 f23e7_0) @f23g7 lpN)
theorem f23C7 : LF f23Q f23P 23 7 Try.f23 1 f23e7_0 @f23g7 fun t => t := fun R κ again t => by kernel_rfl
theorem f23k7 : LK f23Q f23P 23 Try.f23 1 := loop_okG (u := (unG qz14 f23e7_0)) (by kernel_rfl) (unG_ok fun t => by kernel_rfl) (fun R κ s => by kernel_rfl) f23C7
theorem f23C3 : LF f23Q f23P 23 3 Try.f23 0 f23e3_0 @f23g3 fun t => t := fun R κ again t => by kernel_rfl
theorem f23k3 : LK f23Q f23P 23 Try.f23 0 := loop_okG (u := (unG qz15 f23e3_0)) (by kernel_rfl) (unG_ok fun t => by kernel_rfl) (fun R κ s => by kernel_rfl) f23C3
theorem ev23 : EV f23Q f23P 23 Try.f23 sg23 [(.sl 5 ts_u8)] [(.int .i64)] F_spec_Crc := fun x => by kernel_rfl
noncomputable def q23 : QF := ⟨23, F_spec_Crc, okN (n := 2) Try.func23 (by kernel_rfl) (by kernel_rfl) ⟨f23k3, f23k7, trivial⟩ ev23⟩
abbrev T_spec_ReadImage_3 : Type := Qz16
noncomputable def S_spec_ReadImage_3 {R : Type} (k0 : Qz17 → Option R) (again : T_spec_ReadImage_3 → Option R) (t3 : T_spec_ReadImage_3) : Option R :=
  Option.bind (bif (decide (t3.1 < (24 : Int))) then some (decide (((List.length t3.2.2.2.2.2.2.2.2.2.2 : Nat) : Int) < t3.2.2.2.2.2.2.2.1)) else some false) fun u1 => bif u1 then Option.bind (F_spec_PartAt (t3.2.2.2.2.2.2.1, t3.1)) fun r2 => Option.bind (F_spec_ReadSec (t3.2.1, t3.2.2.1, t3.2.2.2.1, t3.2.2.2.2.1, r2)) fun r3 => if (List.length t3.2.2.2.2.2.2.2.2.2.2 + List.length r3) * 1 < 140737488355328 then again ((Go.IntKind.wrap .i64 (t3.1 + (1 : Int))), t3.2.1, t3.2.2.1, t3.2.2.2.1, t3.2.2.2.2.1, t3.2.2.2.2.2.1, t3.2.2.2.2.2.2.1, t3.2.2.2.2.2.2.2.1, t3.2.2.2.2.2.2.2.2.1, t3.2.2.2.2.2.2.2.2.2.1, (t3.2.2.2.2.2.2.2.2.2.2 ++ r3)) else none else k0 (t3.2.2.2.2.2.1, t3.2.2.2.2.2.2.1, t3.2.2.2.2.2.2.2.1, t3.2.2.2.2.2.2.2.2.1, t3.2.2.2.2.2.2.2.2.2.1, t3.2.2.2.2.2.2.2.2.2.2)
noncomputable def L_spec_ReadImage_3 {R : Type} (k0 : Qz17 → Option R) (t : T_spec_ReadImage_3) : Option R := iter (S_spec_ReadImage_3 k0) FUEL t
noncomputable def F_spec_ReadImage (x : Qz18) : Option Qz19 :=
  L_spec_ReadImage_3 (fun x4 => Option.bind (bif (decide (x4.2.2.1 < (0 : Int))) then some true else some (decide (((List.length x4.2.2.2.2.2 : Nat) : Int) < x4.2.2.1))) fun u5 => bif u5 then some (([] : List E_u8), false) else if (0 : Int) ≤ (0 : Int) then if (0 : Int) ≤ x4.2.2.1 then if x4.2.2.1 ≤ ((List.length x4.2.2.2.2.2 : Nat) : Int) then Option.bind (F_spec_Crc (List.drop (Int.toNat (0 : Int)) (List.take (Int.toNat x4.2.2.1) x4.2.2.2.2.2))) fun r6 => bif (r6 != x4.2.2.2.1) then some (([] : List E_u8), false) else if (0 : Int) ≤ (0 : Int) then if (0 : Int) ≤ x4.2.2.1 then if x4.2.2.1 ≤ ((List.length x4.2.2.2.2.2 : Nat) : Int) then if (List.length ([] : List E_u8) + List.length (List.drop (Int.toNat (0 : Int)) (List.take (Int.toNat x4.2.2.1) x4.2.2.2.2.2))) * 1 < 140737488355328 then some ((([] : List E_u8) ++ (List.drop (Int.toNat (0 : Int)) (List.take (Int.toNat x4.2.2.1) x4.2.2.2.2.2))), true) else none else none else none else none else none else none else none) ((0 : Int), x.1, x.2.1, x.2.2.1, x.2.2.2.1, x.2.2.2.2.1, x.2.2.2.2.2.1, x.2.2.2.2.2.2.1, x.2.2.2.2.2.2.2.1, x.2.2.2.2.2.2.2.2, ([] : List E_u8))
noncomputable def f6Q : List QF := [q21, q22, q23]
def f6e3_0 (t : Qz16) : St := ⟨dd 2 (.box 2 0 :: .box 3 0 :: dd 2 (.own 10000000 :: vI t.1 :: dd 47 [])), [(2, .box [v_s_u8 t.2.1, v_Wr t.2.2.1, vI t.2.2.2.1, vB t.2.2.2.2.1]), (3, .box [vI t.2.2.2.2.2.1, vI t.2.2.2.2.2.2.1, vI t.2.2.2.2.2.2.2.1, vI t.2.2.2.2.2.2.2.2.1, vI t.2.2.2.2.2.2.2.2.2.1]), (10000000, .root true 5 ts_u8 t.2.2.2.2.2.2.2.2.2.2)]⟩
noncomputable def f6g3 : Gk T_spec_ReadImage_3 := fun κ => S_spec_ReadImage_3 (fun t => κ (some 0) ⟨dd 3 (.box 3 0 :: dd 2 (.own 10000000 :: dd 48 [])), [(3, .box [vI t.1, vI t.2.1, vI t.2.2.1, vI t.2.2.2.1, vI t.2.2.2.2.1]), (10000000, .root true 5 ts_u8 t.2.2.2.2.2)]⟩)
noncomputable def f6P : Lp := lpC 3 (unG qz16 f6e3_0) @f6g3 lpN
theorem f6C3 : LF f6Q f6P 6 3 Try.f6 0 f6e3_0 @f6g3 fun t => t := fun R κ again t => by kernel_rfl
theorem f6k3 : LK f6Q f6P 6 Try.f6 0 := loop_okG (u := (unG qz16 f6e3_0)) (by kernel_rfl) (unG_ok fun t => by kernel_rfl) (fun R κ s => by kernel_rfl) f6C3
theorem ev6 : EV f6Q f6P 6 Try.f6 sg6 qz18 qz19 F_spec_ReadImage := fun x => by kernel_rfl
noncomputable def q6 : QF := ⟨6, F_spec_ReadImage, okN (n := 1) Try.func6 (by kernel_rfl) (by kernel_rfl) ⟨f6k3, trivial⟩ ev6⟩
abbrev T_laws_toByteS_3 : Type := Qz20
noncomputable def S_laws_toByteS_3 {R : Type} (k0 : List E_u8 → Option R) (again : T_laws_toByteS_3 → Option R) (t3 : T_laws_toByteS_3) : Option R :=
  bif (decide (t3.2.1 < ((List.length t3.1 : Nat) : Int))) then if (0 : Int) ≤ t3.2.1 then if t3.2.1 < ((List.length t3.1 : Nat) : Int) then if (0 : Int) ≤ t3.2.1 then if t3.2.1 < ((List.length t3.2.2 : Nat) : Int) then again (t3.1, (Go.IntKind.wrap .i64 (t3.2.1 + (1 : Int))), (List.set t3.2.2 (Int.toNat t3.2.1) (rd_u8 t3.1 t3.2.1))) else none else none else none else none else k0 t3.2.2
noncomputable def L_laws_toByteS_3 {R : Type} (k0 : List E_u8 → Option R) (t : T_laws_toByteS_3) : Option R := iter (S_laws_toByteS_3 k0) FUEL t
noncomputable def F_laws_toByteS (x : List E_u8) : Option (List E_u8) :=
  if (0 : Int) ≤ ((List.length x : Nat) : Int) then if ((List.length x : Nat) : Int) ≤ ((List.length x : Nat) : Int) then if ((List.length x : Nat) : Int) * ((1 : Nat) : Int) ≤ 140737488351232 then L_laws_toByteS_3 (fun x1 => some x1) (x, (0 : Int), (List.replicate (Int.toNat ((List.length x : Nat) : Int)) z_u8)) else none else none else none
noncomputable def f16Q : List QF := []
def f16e3_0 (t : Qz20) : St := ⟨v_u8 t.1 :: dd 2 (.own 10000000 :: vI t.2.1 :: dd 17 []), [(10000000, .root true 5 ts_u8 t.2.2)]⟩
noncomputable def f16g3 : Gk T_laws_toByteS_3 := fun κ => S_laws_toByteS_3 (fun t => κ (some 0) ⟨dd 3 (.own 10000000 :: dd 18 []), [(10000000, .root true 5 ts_u8 t)]⟩)
noncomputable def f16P : Lp := lpC 3 (unG qz20 f16e3_0) @f16g3 lpN
theorem f16C3 : LF f16Q f16P 16 3 Try.f16 0 f16e3_0 @f16g3 fun t => t := fun R κ again t => by kernel_rfl
theorem f16k3 : LK f16Q f16P 16 Try.f16 0 := loop_okG (u := (unG qz20 f16e3_0)) (by kernel_rfl) (unG_ok fun t => by kernel_rfl) (fun R κ s => by kernel_rfl) f16C3
theorem ev16 : EV f16Q f16P 16 Try.f16 sg16 [(.sl 5 ts_u8)] [(.sl 5 ts_u8)] F_laws_toByteS := fun x => by kernel_rfl
noncomputable def q16 : QF := ⟨16, F_laws_toByteS, okN (n := 1) Try.func16 (by kernel_rfl) (by kernel_rfl) ⟨f16k3, trivial⟩ ev16⟩
abbrev T_laws_toByteSS_3 : Type := Qz21
noncomputable def S_laws_toByteSS_3 {R : Type} (k0 : List E_s_u8 → Option R) (again : T_laws_toByteSS_3 → Option R) (t3 : T_laws_toByteSS_3) : Option R :=
  bif (decide (t3.2.1 < ((List.length t3.1 : Nat) : Int))) then if (0 : Int) ≤ t3.2.1 then if t3.2.1 < ((List.length t3.1 : Nat) : Int) then Option.bind (F_laws_toByteS (rd_s_u8 t3.1 t3.2.1)) fun r1 => if (0 : Int) ≤ t3.2.1 then if t3.2.1 < ((List.length t3.2.2 : Nat) : Int) then again (t3.1, (Go.IntKind.wrap .i64 (t3.2.1 + (1 : Int))), (List.set t3.2.2 (Int.toNat t3.2.1) r1)) else none else none else none else none else k0 t3.2.2
noncomputable def L_laws_toByteSS_3 {R : Type} (k0 : List E_s_u8 → Option R) (t : T_laws_toByteSS_3) : Option R := iter (S_laws_toByteSS_3 k0) FUEL t
noncomputable def F_laws_toByteSS (x : List E_s_u8) : Option (List E_s_u8) :=
  if (0 : Int) ≤ ((List.length x : Nat) : Int) then if ((List.length x : Nat) : Int) ≤ ((List.length x : Nat) : Int) then if ((List.length x : Nat) : Int) * ((24 : Nat) : Int) ≤ 140737488351232 then L_laws_toByteSS_3 (fun x2 => some x2) (x, (0 : Int), (List.replicate (Int.toNat ((List.length x : Nat) : Int)) z_s_u8)) else none else none else none
noncomputable def f24Q : List QF := [q16]
def f24e3_0 (t : Qz21) : St := ⟨v_s_u8 t.1 :: dd 2 (.own 10000000 :: vI t.2.1 :: dd 18 []), [(10000000, .deep false 0 29 ts_s_u8 t.2.2)]⟩
noncomputable def f24g3 : Gk T_laws_toByteSS_3 := fun κ => S_laws_toByteSS_3 (fun t => κ (some 0) ⟨dd 3 (.own 10000000 :: dd 19 []), [(10000000, .deep false 0 29 ts_s_u8 t)]⟩)
noncomputable def f24P : Lp := lpC 3 (unG qz21 f24e3_0) @f24g3 lpN
theorem f24C3 : LF f24Q f24P 24 3 Try.f24 0 f24e3_0 @f24g3 fun t => t := fun R κ again t => by kernel_rfl
theorem f24k3 : LK f24Q f24P 24 Try.f24 0 := loop_okG (u := (unG qz21 f24e3_0)) (by kernel_rfl) (unG_ok fun t => by kernel_rfl) (fun R κ s => by kernel_rfl) f24C3
theorem ev24 : EV f24Q f24P 24 Try.f24 sg24 [(.sl 29 ts_s_u8)] [(.sl 29 ts_s_u8)] F_laws_toByteSS := fun x => by kernel_rfl
noncomputable def q24 : QF := ⟨24, F_laws_toByteSS, okN (n := 1) Try.func24 (by kernel_rfl) (by kernel_rfl) ⟨f24k3, trivial⟩ ev24⟩
noncomputable def F_laws_toWr (x : Qz22) : Option Qz22 :=
  Option.bind (F_laws_toByteS x.2) fun r1 => some (x.1, r1)
theorem ev45 : EV [q16] lpN 45 Try.f45 sg45 qz22 qz22 F_laws_toWr := fun x => by kernel_rfl
noncomputable def q45 : QF := ⟨45, F_laws_toWr, okN (n := 0) Try.func45 (by kernel_rfl) (by kernel_rfl) trivial ev45⟩
abbrev T_laws_toWrS_3 : Type := Qz23
noncomputable def S_laws_toWrS_3 {R : Type} (k0 : List E_Wr → Option R) (again : T_laws_toWrS_3 → Option R) (t3 : T_laws_toWrS_3) : Option R :=
  bif (decide (t3.2.1 < ((List.length t3.1 : Nat) : Int))) then if (0 : Int) ≤ t3.2.1 then if t3.2.1 < ((List.length t3.1 : Nat) : Int) then Option.bind (F_laws_toWr ((rd_LWr t3.1 t3.2.1).1, (rd_LWr t3.1 t3.2.1).2)) fun r1 => if (0 : Int) ≤ t3.2.1 then if t3.2.1 < ((List.length t3.2.2 : Nat) : Int) then again (t3.1, (Go.IntKind.wrap .i64 (t3.2.1 + (1 : Int))), (List.set t3.2.2 (Int.toNat t3.2.1) (r1.1, r1.2))) else none else none else none else none else k0 t3.2.2
noncomputable def L_laws_toWrS_3 {R : Type} (k0 : List E_Wr → Option R) (t : T_laws_toWrS_3) : Option R := iter (S_laws_toWrS_3 k0) FUEL t
noncomputable def F_laws_toWrS (x : List E_LWr) : Option (List E_Wr) :=
  if (0 : Int) ≤ ((List.length x : Nat) : Int) then if ((List.length x : Nat) : Int) ≤ ((List.length x : Nat) : Int) then if ((List.length x : Nat) : Int) * ((32 : Nat) : Int) ≤ 140737488351232 then L_laws_toWrS_3 (fun x2 => some x2) (x, (0 : Int), (List.replicate (Int.toNat ((List.length x : Nat) : Int)) z_Wr)) else none else none else none
noncomputable def f25Q : List QF := [q45]
def f25e3_0 (t : Qz23) : St := ⟨v_LWr t.1 :: dd 2 (.own 10000000 :: vI t.2.1 :: dd 18 []), [(10000000, .deep false 0 64 ts_Wr t.2.2)]⟩
noncomputable def f25g3 : Gk T_laws_toWrS_3 := fun κ => S_laws_toWrS_3 (fun t => κ (some 0) ⟨dd 3 (.own 10000000 :: dd 19 []), [(10000000, .deep false 0 64 ts_Wr t)]⟩)
noncomputable def f25P : Lp := lpC 3 (unG qz23 f25e3_0) @f25g3 lpN
theorem f25C3 : LF f25Q f25P 25 3 Try.f25 0 f25e3_0 @f25g3 fun t => t := fun R κ again t => by kernel_rfl
theorem f25k3 : LK f25Q f25P 25 Try.f25 0 := loop_okG (u := (unG qz23 f25e3_0)) (by kernel_rfl) (unG_ok fun t => by kernel_rfl) (fun R κ s => by kernel_rfl) f25C3
theorem ev25 : EV f25Q f25P 25 Try.f25 sg25 [(.sl 63 ts_LWr)] [(.sl 64 ts_Wr)] F_laws_toWrS := fun x => by kernel_rfl
noncomputable def q25 : QF := ⟨25, F_laws_toWrS, okN (n := 1) Try.func25 (by kernel_rfl) (by kernel_rfl) ⟨f25k3, trivial⟩ ev25⟩
noncomputable def F_laws_toDev (x : Qz24) : Option Qz11 :=
  Option.bind (F_laws_toByteSS x.1) fun r1 => Option.bind (F_laws_toWrS x.2.1) fun r2 => some (r1, r2, x.2.2.1, x.2.2.2)
theorem ev7 : EV [q24, q25] lpN 7 Try.f7 sg7 qz24 qz11 F_laws_toDev := fun x => by kernel_rfl
noncomputable def q7 : QF := ⟨7, F_laws_toDev, okN (n := 0) Try.func7 (by kernel_rfl) (by kernel_rfl) trivial ev7⟩
noncomputable def F_laws_toSuper (x : Qz25) : Option Qz25 :=
  some (x.1, x.2.1, x.2.2.1, x.2.2.2.1, x.2.2.2.2)
theorem ev8 : EV [] lpN 8 Try.f8 sg8 qz25 qz25 F_laws_toSuper := fun x => by kernel_rfl
noncomputable def q8 : QF := ⟨8, F_laws_toSuper, okN (n := 0) Try.func8 (by kernel_rfl) (by kernel_rfl) trivial ev8⟩
noncomputable def F_impl_within (x : Qz8) : Option Bool :=
  Option.bind (bif (decide (x.1 ≥ x.2.1)) then some (decide (x.1 ≤ x.2.2)) else some false) fun u1 => some u1
theorem ev28 : EV [] lpN 28 Try.f28 sg28 qz8 [.bool] F_impl_within := fun x => by kernel_rfl
noncomputable def q28 : QF := ⟨28, F_impl_within, okN (n := 0) Try.func28 (by kernel_rfl) (by kernel_rfl) trivial ev28⟩
abbrev T_impl_DevOk_4 : Type := Qz26
noncomputable def S_impl_DevOk_4 {R : Type} (k0 : Qz10 → Option R) (k1 : Qz11 → Option R) (again : T_impl_DevOk_4 → Option R) (t4 : T_impl_DevOk_4) : Option R :=
  bif (decide (t4.2.2.1 < t4.2.1)) then if (0 : Int) ≤ t4.2.2.1 then if t4.2.2.1 < ((List.length t4.1 : Nat) : Int) then bif (decide (((List.length (rd_s_u8 t4.1 t4.2.2.1) : Nat) : Int) > (80 : Int))) then k0 (false, t4.2.2.2.1, t4.2.2.2.2.1, t4.2.2.2.2.2.1, t4.2.2.2.2.2.2) else again (t4.1, t4.2.1, (Go.IntKind.wrap .i64 (t4.2.2.1 + (1 : Int))), t4.2.2.2.1, t4.2.2.2.2.1, t4.2.2.2.2.2.1, t4.2.2.2.2.2.2) else none else none else k1 (t4.2.2.2.1, t4.2.2.2.2.1, t4.2.2.2.2.2.1, t4.2.2.2.2.2.2)
noncomputable def L_impl_DevOk_4 {R : Type} (k0 : Qz10 → Option R) (k1 : Qz11 → Option R) (t : T_impl_DevOk_4) : Option R := iter (S_impl_DevOk_4 k0 k1) FUEL t
abbrev T_impl_DevOk_10 : Type := Qz27
noncomputable def S_impl_DevOk_10 {R : Type} (k0 : Bool → Option R) (k1 : Unit → Option R) (again : T_impl_DevOk_10 → Option R) (t10 : T_impl_DevOk_10) : Option R :=
  bif (decide (t10.2.2.1 < t10.2.1)) then if (0 : Int) ≤ t10.2.2.1 then if t10.2.2.1 < ((List.length t10.1 : Nat) : Int) then Option.bind (F_impl_within ((rd_Wr t10.1 t10.2.2.1).1, (0 : Int), (Go.IntKind.wrap .i64 (((List.length t10.2.2.2.1 : Nat) : Int) - (1 : Int))))) fun r7 => Option.bind (bif (!r7) then some true else some (decide (((List.length ((rd_Wr t10.1 t10.2.2.1).2) : Nat) : Int) > (80 : Int)))) fun u8 => bif u8 then k0 false else again (t10.1, t10.2.1, (Go.IntKind.wrap .i64 (t10.2.2.1 + (1 : Int))), t10.2.2.2.1, t10.2.2.2.2.1, t10.2.2.2.2.2.1, t10.2.2.2.2.2.2) else none else none else k1 ()
noncomputable def L_impl_DevOk_10 {R : Type} (k0 : Bool → Option R) (k1 : Unit → Option R) (t : T_impl_DevOk_10) : Option R := iter (S_impl_DevOk_10 k0 k1) FUEL t
noncomputable def F_impl_DevOk (x : Qz11) : Option Bool :=
  Option.bind (F_impl_within (((List.length x.1 : Nat) : Int), (1 : Int), (60 : Int))) fun r1 => Option.bind (bif (!r1) then some true else some (decide (((List.length x.2.1 : Nat) : Int) > (60 : Int)))) fun u2 => Option.bind (bif u2 then some true else Option.bind (F_impl_within (x.2.2.1, (-1 : Int), (1000 : Int))) fun r4 => some (!r4)) fun u3 => bif u3 then some false else L_impl_DevOk_4 (fun x5 => some x5.1) (fun x6 => L_impl_DevOk_10 (fun x9 => some x9) (fun x10 => some true) (x6.2.1, ((List.length x6.2.1 : Nat) : Int), (0 : Int), x6.1, x6.2.1, x6.2.2.1, x6.2.2.2)) (x.1, ((List.length x.1 : Nat) : Int), (0 : Int), x.1, x.2.1, x.2.2.1, x.2.2.2)
noncomputable def f39Q : List QF := [q28]
def f39e4_0 (t : Qz26) : St := ⟨.dead :: .box 1 0 :: dd 23 (v_s_u8 t.1 :: vI t.2.1 :: vI t.2.2.1 :: dd 29 []), [(1, .box [v_s_u8 t.2.2.2.1, v_Wr t.2.2.2.2.1, vI t.2.2.2.2.2.1, vB t.2.2.2.2.2.2])]⟩
noncomputable def f39g4 : Gk T_impl_DevOk_4 := fun κ => S_impl_DevOk_4 (fun t => κ none ⟨.dead :: .box 1 0 :: vB t.1 :: dd 54 [], [(1, .box [v_s_u8 t.2.1, v_Wr t.2.2.1, vI t.2.2.2.1, vB t.2.2.2.2])]⟩) (fun t => κ (some 0) ⟨.dead :: .box 1 0 :: dd 55 [], [(1, .box [v_s_u8 t.1, v_Wr t.2.1, vI t.2.2.1, vB t.2.2.2])]⟩)
def f39e10_0 (t : Qz27) : St := ⟨.dead :: .box 1 0 :: dd 34 (v_Wr t.1 :: vI t.2.1 :: vI t.2.2.1 :: dd 18 []), [(1, .box [v_s_u8 t.2.2.2.1, v_Wr t.2.2.2.2.1, vI t.2.2.2.2.2.1, vB t.2.2.2.2.2.2])]⟩
noncomputable def f39g10 : Gk T_impl_DevOk_10 := fun κ => S_impl_DevOk_10 (fun t => κ none ⟨dd 2 (vB t :: dd 54 []), []⟩) (fun t => κ (some 2) ⟨dd 57 [], []⟩)
noncomputable def f39P : Lp := lpC 10 (unG qz27 f39e10_0) @f39g10 (lpC 4 (unG qz26 f39e4_0) @f39g4 lpN)
theorem f39C4 : LF f39Q f39P 39 4 Try.f39 0 f39e4_0 @f39g4 fun t => t := fun R κ again t => by kernel_rfl
theorem f39k4 : LK f39Q f39P 39 Try.f39 0 := loop_okG (u := (unG qz26 f39e4_0)) (by kernel_rfl) (unG_ok fun t => by kernel_rfl) (fun R κ s => by kernel_rfl) f39C4
theorem f39C10 : LF f39Q f39P 39 10 Try.f39 1 f39e10_0 @f39g10 fun t => t := fun R κ again t => by kernel_rfl
theorem f39k10 : LK f39Q f39P 39 Try.f39 1 := loop_okG (u := (unG qz27 f39e10_0)) (by kernel_rfl) (unG_ok fun t => by kernel_rfl) (fun R κ s => by kernel_rfl) f39C10
theorem ev39 : EV f39Q f39P 39 Try.f39 sg39 qz11 [.bool] F_impl_DevOk := fun x => by kernel_rfl
noncomputable def q39 : QF := ⟨39, F_impl_DevOk, okN (n := 2) Try.func39 (by kernel_rfl) (by kernel_rfl) ⟨f39k4, f39k10, trivial⟩ ev39⟩
abbrev T_impl_joined_3 : Type := Qz28
noncomputable def S_impl_joined_3 {R : Type} (k0 : List E_u8 → Option R) (again : T_impl_joined_3 → Option R) (t3 : T_impl_joined_3) : Option R :=
  bif (decide (t3.2.2.1 < t3.2.1)) then if (0 : Int) ≤ t3.2.2.1 then if t3.2.2.1 < ((List.length t3.1 : Nat) : Int) then if (List.length t3.2.2.2 + List.length (rd_s_u8 t3.1 t3.2.2.1)) * 1 < 140737488355328 then again (t3.1, t3.2.1, (Go.IntKind.wrap .i64 (t3.2.2.1 + (1 : Int))), (t3.2.2.2 ++ (rd_s_u8 t3.1 t3.2.2.1))) else none else none else none else k0 t3.2.2.2
noncomputable def L_impl_joined_3 {R : Type} (k0 : List E_u8 → Option R) (t : T_impl_joined_3) : Option R := iter (S_impl_joined_3 k0) FUEL t
noncomputable def F_impl_joined (x : List E_s_u8) : Option (List E_u8) :=
  L_impl_joined_3 (fun x1 => some x1) (x, ((List.length x : Nat) : Int), (0 : Int), ([] : List E_u8))
noncomputable def f46Q : List QF := []
def f46e3_0 (t : Qz28) : St := ⟨dd 3 (.own 10000000 :: dd 3 (v_s_u8 t.1 :: vI t.2.1 :: vI t.2.2.1 :: dd 8 [])), [(10000000, .root true 5 ts_u8 t.2.2.2)]⟩
noncomputable def f46g3 : Gk T_impl_joined_3 := fun κ => S_impl_joined_3 (fun t => κ (some 0) ⟨dd 3 (.own 10000000 :: dd 14 []), [(10000000, .root true 5 ts_u8 t)]⟩)
noncomputable def f46P : Lp := lpC 3 (unG qz28 f46e3_0) @f46g3 lpN
theorem f46C3 : LF f46Q f46P 46 3 Try.f46 0 f46e3_0 @f46g3 fun t => t := fun R κ again t => by kernel_rfl
theorem f46k3 : LK f46Q f46P 46 Try.f46 0 := loop_okG (u := (unG qz28 f46e3_0)) (by kernel_rfl) (unG_ok fun t => by kernel_rfl) (fun R κ s => by kernel_rfl) f46C3
theorem ev46 : EV f46Q f46P 46 Try.f46 sg46 [(.sl 29 ts_s_u8)] [(.sl 5 ts_u8)] F_impl_joined := fun x => by kernel_rfl
noncomputable def q46 : QF := ⟨46, F_impl_joined, okN (n := 1) Try.func46 (by kernel_rfl) (by kernel_rfl) ⟨f46k3, trivial⟩ ev46⟩
abbrev T_impl_ReadSec_4 : Type := Qz29
noncomputable def S_impl_ReadSec_4 {R : Type} (k0 : Qz30 → Option R) (k1 : Qz9 → Option R) (again : T_impl_ReadSec_4 → Option R) (t4 : T_impl_ReadSec_4) : Option R :=
  bif (decide (t4.2.1 ≥ (0 : Int))) then if (0 : Int) ≤ t4.2.1 then if t4.2.1 < ((List.length t4.2.2.2.1 : Nat) : Int) then bif ((rd_Wr t4.2.2.2.1 t4.2.1).1 == t4.1) then if (0 : Int) ≤ t4.2.1 then if t4.2.1 < ((List.length t4.2.2.2.1 : Nat) : Int) then Option.bind (F_impl_joined ([(rd_Wr t4.2.2.2.1 t4.2.1).2] : List E_s_u8)) fun r4 => k0 (t4.1, t4.2.2.1, t4.2.2.2.1, t4.2.2.2.2.1, t4.2.2.2.2.2, r4) else none else none else again (t4.1, (Go.IntKind.wrap .i64 (t4.2.1 - (1 : Int))), t4.2.2.1, t4.2.2.2.1, t4.2.2.2.2.1, t4.2.2.2.2.2) else none else none else k1 (t4.1, t4.2.2.1, t4.2.2.2.1, t4.2.2.2.2.1, t4.2.2.2.2.2)
noncomputable def L_impl_ReadSec_4 {R : Type} (k0 : Qz30 → Option R) (k1 : Qz9 → Option R) (t : T_impl_ReadSec_4) : Option R := iter (S_impl_ReadSec_4 k0 k1) FUEL t
noncomputable def F_impl_ReadSec (x : Qz13) : Option (List E_u8) :=
  Option.bind (F_impl_DevOk (x.1, x.2.1, x.2.2.1, x.2.2.2.1)) fun r1 => Option.bind (bif (!r1) then some true else Option.bind (F_impl_within (x.2.2.2.2, (0 : Int), (Go.IntKind.wrap .i64 (((List.length x.1 : Nat) : Int) - (1 : Int))))) fun r3 => some (!r3)) fun u2 => bif u2 then some ([] : List E_u8) else L_impl_ReadSec_4 (fun x5 => some x5.2.2.2.2.2) (fun x6 => if (0 : Int) ≤ x6.1 then if x6.1 < ((List.length x6.2.1 : Nat) : Int) then Option.bind (F_impl_joined ([(rd_s_u8 x6.2.1 x6.1)] : List E_s_u8)) fun r7 => some r7 else none else none) (x.2.2.2.2, (Go.IntKind.wrap .i64 (((List.length x.2.1 : Nat) : Int) - (1 : Int))), x.1, x.2.1, x.2.2.1, x.2.2.2.1)
noncomputable def f26Q : List QF := [q28, q39, q46]
def f26e4_0 (t : Qz29) : St := ⟨.dead :: vI t.1 :: .box 2 0 :: dd 2 (vI t.2.1 :: dd 43 []), [(2, .box [v_s_u8 t.2.2.1, v_Wr t.2.2.2.1, vI t.2.2.2.2.1, vB t.2.2.2.2.2])]⟩
noncomputable def f26g4 : Gk T_impl_ReadSec_4 := fun κ => S_impl_ReadSec_4 (fun t => κ none ⟨.dead :: vI t.1 :: .box 2 0 :: .dead :: .own 10000000 :: dd 44 [], [(2, .box [v_s_u8 t.2.1, v_Wr t.2.2.1, vI t.2.2.2.1, vB t.2.2.2.2.1]), (10000000, .root true 5 ts_u8 t.2.2.2.2.2)]⟩) (fun t => κ (some 0) ⟨.dead :: vI t.1 :: .box 2 0 :: dd 46 [], [(2, .box [v_s_u8 t.2.1, v_Wr t.2.2.1, vI t.2.2.2.1, vB t.2.2.2.2])]⟩)
noncomputable def f26P : Lp := lpC 4 (unG qz29 f26e4_0) @f26g4 lpN
theorem f26C4 : LF f26Q f26P 26 4 Try.f26 0 f26e4_0 @f26g4 fun t => t := fun R κ again t => by kernel_rfl
theorem f26k4 : LK f26Q f26P 26 Try.f26 0 := loop_okG (u := (unG qz29 f26e4_0)) (by kernel_rfl) (unG_ok fun t => by kernel_rfl) (fun R κ s => by kernel_rfl) f26C4
theorem ev26 : EV f26Q f26P 26 Try.f26 sg26 qz13 [(.sl 5 ts_u8)] F_impl_ReadSec := fun x => by kernel_rfl
noncomputable def q26 : QF := ⟨26, F_impl_ReadSec, okN (n := 1) Try.func26 (by kernel_rfl) (by kernel_rfl) ⟨f26k4, trivial⟩ ev26⟩
noncomputable def F_impl_PartAt (x : Qz2) : Option Int :=
  Option.bind (F_impl_within (x.1, (0 : Int), (1 : Int))) fun r1 => Option.bind (bif (!r1) then some true else Option.bind (F_impl_within (x.2, (0 : Int), (23 : Int))) fun r3 => some (!r3)) fun u2 => bif u2 then some (-1 : Int) else some (Go.IntKind.wrap .i64 ((Go.IntKind.wrap .i64 ((8 : Int) + (Go.IntKind.wrap .i64 (x.1 * (24 : Int))))) + x.2))
theorem ev27 : EV [q28] lpN 27 Try.f27 sg27 qz2 [(.int .i64)] F_impl_PartAt := fun x => by kernel_rfl
noncomputable def q27 : QF := ⟨27, F_impl_PartAt, okN (n := 0) Try.func27 (by kernel_rfl) (by kernel_rfl) trivial ev27⟩
abbrev T_impl_Crc_7 : Type := Qz31
noncomputable def S_impl_Crc_7 {R : Type} (k0 : Qz32 → Option R) (again : T_impl_Crc_7 → Option R) (t7 : T_impl_Crc_7) : Option R :=
  bif (decide (t7.2.2.2.2 < (8 : Int))) then bif ((Int.tmod t7.1 (2 : Int)) == (1 : Int)) then again ((Go.bits .xor .i64 (Go.IntKind.wrap .i64 (Int.tdiv t7.1 (2 : Int))) (2197175160 : Int)), t7.2.1, t7.2.2.1, t7.2.2.2.1, (Go.IntKind.wrap .i64 (t7.2.2.2.2 + (1 : Int)))) else again ((Go.IntKind.wrap .i64 (Int.tdiv t7.1 (2 : Int))), t7.2.1, t7.2.2.1, t7.2.2.2.1, (Go.IntKind.wrap .i64 (t7.2.2.2.2 + (1 : Int)))) else k0 (t7.1, t7.2.1, t7.2.2.1, t7.2.2.2.1)
noncomputable def L_impl_Crc_7 {R : Type} (k0 : Qz32 → Option R) (t : T_impl_Crc_7) : Option R := iter (S_impl_Crc_7 k0) FUEL t
abbrev T_impl_Crc_3 : Type := Qz32
noncomputable def S_impl_Crc_3 {R : Type} (k0 : Int → Option R) (again : T_impl_Crc_3 → Option R) (t3 : T_impl_Crc_3) : Option R :=
  bif (decide (t3.2.2.2 < t3.2.2.1)) then if (0 : Int) ≤ t3.2.2.2 then if t3.2.2.2 < ((List.length t3.2.1 : Nat) : Int) then L_impl_Crc_7 (fun x1 => again (x1.1, x1.2.1, x1.2.2.1, (Go.IntKind.wrap .i64 (x1.2.2.2 + (1 : Int))))) ((Go.bits .xor .i64 t3.1 (Go.IntKind.wrap .i64 (rd_u8 t3.2.1 t3.2.2.2))), t3.2.1, t3.2.2.1, t3.2.2.2, (0 : Int)) else none else none else k0 t3.1
noncomputable def L_impl_Crc_3 {R : Type} (k0 : Int → Option R) (t : T_impl_Crc_3) : Option R := iter (S_impl_Crc_3 k0) FUEL t
noncomputable def F_impl_Crc (x : List E_u8) : Option Int :=
  L_impl_Crc_3 (fun x2 => some (Go.bits .xor .i64 x2 (4294967295 : Int))) ((4294967295 : Int), x, ((List.length x : Nat) : Int), (0 : Int))
noncomputable def f29Q : List QF := []
def f29e7_0 (t : Qz31) : St := ⟨dd 3 (vI t.1 :: dd 3 (v_u8 t.2.1 :: vI t.2.2.1 :: vI t.2.2.2.1 :: dd 7 (vI t.2.2.2.2 :: dd 13 []))), []⟩
noncomputable def f29g7 : Gk T_impl_Crc_7 := fun κ => S_impl_Crc_7 (fun t => κ (some 2) ⟨dd 3 (vI t.1 :: dd 3 (v_u8 t.2.1 :: vI t.2.2.1 :: vI t.2.2.2 :: dd 21 [])), []⟩)
def f29e3_0 (t : Qz32) : St := ⟨dd 3 (vI t.1 :: dd 3 (v_u8 t.2.1 :: vI t.2.2.1 :: vI t.2.2.2 :: dd 21 [])), []⟩
noncomputable def f29g3 : Gk T_impl_Crc_3 := fun κ => S_impl_Crc_3 (fun t => κ (some 0) ⟨dd 3 (vI t :: dd 27 []), []⟩)
noncomputable def f29P : Lp := lpC 3 (unG qz32 f29e3_0) @f29g3 (lpC 7 (unG qz31 f29e7_0) @f29g7 lpN)
theorem f29C7 : LF f29Q f29P 29 7 Try.f29 1 f29e7_0 @f29g7 fun t => t := fun R κ again t => by kernel_rfl
theorem f29k7 : LK f29Q f29P 29 Try.f29 1 := loop_okG (u := (unG qz31 f29e7_0)) (by kernel_rfl) (unG_ok fun t => by kernel_rfl) (fun R κ s => by kernel_rfl) f29C7
theorem f29C3 : LF f29Q f29P 29 3 Try.f29 0 f29e3_0 @f29g3 fun t => t := fun R κ again t => by kernel_rfl
theorem f29k3 : LK f29Q f29P 29 Try.f29 0 := loop_okG (u := (unG qz32 f29e3_0)) (by kernel_rfl) (unG_ok fun t => by kernel_rfl) (fun R κ s => by kernel_rfl) f29C3
theorem ev29 : EV f29Q f29P 29 Try.f29 sg29 [(.sl 5 ts_u8)] [(.int .i64)] F_impl_Crc := fun x => by kernel_rfl
noncomputable def q29 : QF := ⟨29, F_impl_Crc, okN (n := 2) Try.func29 (by kernel_rfl) (by kernel_rfl) ⟨f29k3, f29k7, trivial⟩ ev29⟩
abbrev T_impl_ReadImage_3 : Type := Qz16
noncomputable def S_impl_ReadImage_3 {R : Type} (k0 : Qz17 → Option R) (again : T_impl_ReadImage_3 → Option R) (t3 : T_impl_ReadImage_3) : Option R :=
  Option.bind (bif (decide (t3.1 < (24 : Int))) then some (decide (((List.length t3.2.2.2.2.2.2.2.2.2.2 : Nat) : Int) < t3.2.2.2.2.2.2.2.1)) else some false) fun u1 => bif u1 then Option.bind (F_impl_PartAt (t3.2.2.2.2.2.2.1, t3.1)) fun r2 => Option.bind (F_impl_ReadSec (t3.2.1, t3.2.2.1, t3.2.2.2.1, t3.2.2.2.2.1, r2)) fun r3 => if (List.length t3.2.2.2.2.2.2.2.2.2.2 + List.length r3) * 1 < 140737488355328 then again ((Go.IntKind.wrap .i64 (t3.1 + (1 : Int))), t3.2.1, t3.2.2.1, t3.2.2.2.1, t3.2.2.2.2.1, t3.2.2.2.2.2.1, t3.2.2.2.2.2.2.1, t3.2.2.2.2.2.2.2.1, t3.2.2.2.2.2.2.2.2.1, t3.2.2.2.2.2.2.2.2.2.1, (t3.2.2.2.2.2.2.2.2.2.2 ++ r3)) else none else k0 (t3.2.2.2.2.2.1, t3.2.2.2.2.2.2.1, t3.2.2.2.2.2.2.2.1, t3.2.2.2.2.2.2.2.2.1, t3.2.2.2.2.2.2.2.2.2.1, t3.2.2.2.2.2.2.2.2.2.2)
noncomputable def L_impl_ReadImage_3 {R : Type} (k0 : Qz17 → Option R) (t : T_impl_ReadImage_3) : Option R := iter (S_impl_ReadImage_3 k0) FUEL t
noncomputable def F_impl_ReadImage (x : Qz18) : Option Qz19 :=
  L_impl_ReadImage_3 (fun x4 => Option.bind (F_impl_within (x4.2.2.1, (0 : Int), ((List.length x4.2.2.2.2.2 : Nat) : Int))) fun r5 => bif (!r5) then some (([] : List E_u8), false) else if (0 : Int) ≤ (0 : Int) then if (0 : Int) ≤ x4.2.2.1 then if x4.2.2.1 ≤ ((List.length x4.2.2.2.2.2 : Nat) : Int) then Option.bind (F_impl_Crc (List.take (Int.toNat x4.2.2.1) x4.2.2.2.2.2)) fun r6 => bif (r6 != x4.2.2.2.1) then some (([] : List E_u8), false) else if (0 : Int) ≤ (0 : Int) then if (0 : Int) ≤ x4.2.2.1 then if x4.2.2.1 ≤ ((List.length x4.2.2.2.2.2 : Nat) : Int) then some ((List.take (Int.toNat x4.2.2.1) x4.2.2.2.2.2), true) else none else none else none else none else none else none) ((0 : Int), x.1, x.2.1, x.2.2.1, x.2.2.2.1, x.2.2.2.2.1, x.2.2.2.2.2.1, x.2.2.2.2.2.2.1, x.2.2.2.2.2.2.2.1, x.2.2.2.2.2.2.2.2, ([] : List E_u8))
noncomputable def f9Q : List QF := [q26, q27, q28, q29]
def f9e3_0 (t : Qz16) : St := ⟨dd 2 (.box 2 0 :: .box 3 0 :: dd 2 (.own 10000000 :: vI t.1 :: dd 40 [])), [(2, .box [v_s_u8 t.2.1, v_Wr t.2.2.1, vI t.2.2.2.1, vB t.2.2.2.2.1]), (3, .box [vI t.2.2.2.2.2.1, vI t.2.2.2.2.2.2.1, vI t.2.2.2.2.2.2.2.1, vI t.2.2.2.2.2.2.2.2.1, vI t.2.2.2.2.2.2.2.2.2.1]), (10000000, .root true 5 ts_u8 t.2.2.2.2.2.2.2.2.2.2)]⟩
noncomputable def f9g3 : Gk T_impl_ReadImage_3 := fun κ => S_impl_ReadImage_3 (fun t => κ (some 0) ⟨dd 3 (.box 3 0 :: dd 2 (.own 10000000 :: dd 41 [])), [(3, .box [vI t.1, vI t.2.1, vI t.2.2.1, vI t.2.2.2.1, vI t.2.2.2.2.1]), (10000000, .root true 5 ts_u8 t.2.2.2.2.2)]⟩)
noncomputable def f9P : Lp := lpC 3 (unG qz16 f9e3_0) @f9g3 lpN
theorem f9C3 : LF f9Q f9P 9 3 Try.f9 0 f9e3_0 @f9g3 fun t => t := fun R κ again t => by kernel_rfl
theorem f9k3 : LK f9Q f9P 9 Try.f9 0 := loop_okG (u := (unG qz16 f9e3_0)) (by kernel_rfl) (unG_ok fun t => by kernel_rfl) (fun R κ s => by kernel_rfl) f9C3
theorem ev9 : EV f9Q f9P 9 Try.f9 sg9 qz18 qz19 F_impl_ReadImage := fun x => by kernel_rfl
noncomputable def q9 : QF := ⟨9, F_impl_ReadImage, okN (n := 1) Try.func9 (by kernel_rfl) (by kernel_rfl) ⟨f9k3, trivial⟩ ev9⟩
abbrev T_laws_eqByteS_4 : Type := Qz33
noncomputable def S_laws_eqByteS_4 {R : Type} (k0 : Bool → Option R) (k1 : Unit → Option R) (again : T_laws_eqByteS_4 → Option R) (t4 : T_laws_eqByteS_4) : Option R :=
  bif (decide (t4.2.2 < ((List.length t4.1 : Nat) : Int))) then if (0 : Int) ≤ t4.2.2 then if t4.2.2 < ((List.length t4.1 : Nat) : Int) then if (0 : Int) ≤ t4.2.2 then if t4.2.2 < ((List.length t4.2.1 : Nat) : Int) then bif ((rd_u8 t4.1 t4.2.2) != (rd_u8 t4.2.1 t4.2.2)) then k0 false else again (t4.1, t4.2.1, (Go.IntKind.wrap .i64 (t4.2.2 + (1 : Int)))) else none else none else none else none else k1 ()
noncomputable def L_laws_eqByteS_4 {R : Type} (k0 : Bool → Option R) (k1 : Unit → Option R) (t : T_laws_eqByteS_4) : Option R := iter (S_laws_eqByteS_4 k0 k1) FUEL t
noncomputable def F_laws_eqByteS (x : Qz34) : Option Bool :=
  bif (((List.length x.1 : Nat) : Int) != ((List.length x.2 : Nat) : Int)) then some false else L_laws_eqByteS_4 (fun x1 => some x1) (fun x2 => some true) (x.1, x.2, (0 : Int))
noncomputable def f10Q : List QF := []
def f10e4_0 (t : Qz33) : St := ⟨v_u8 t.1 :: v_u8 t.2.1 :: dd 3 (vI t.2.2 :: dd 20 []), []⟩
noncomputable def f10g4 : Gk T_laws_eqByteS_4 := fun κ => S_laws_eqByteS_4 (fun t => κ none ⟨dd 4 (vB t :: dd 21 []), []⟩) (fun t => κ (some 0) ⟨dd 26 [], []⟩)
noncomputable def f10P : Lp := lpC 4 (unG qz33 f10e4_0) @f10g4 lpN
theorem f10C4 : LF f10Q f10P 10 4 Try.f10 0 f10e4_0 @f10g4 fun t => t := fun R κ again t => by kernel_rfl
theorem f10k4 : LK f10Q f10P 10 Try.f10 0 := loop_okG (u := (unG qz33 f10e4_0)) (by kernel_rfl) (unG_ok fun t => by kernel_rfl) (fun R κ s => by kernel_rfl) f10C4
theorem ev10 : EV f10Q f10P 10 Try.f10 sg10 qz34 [.bool] F_laws_eqByteS := fun x => by kernel_rfl
noncomputable def q10 : QF := ⟨10, F_laws_eqByteS, okN (n := 1) Try.func10 (by kernel_rfl) (by kernel_rfl) ⟨f10k4, trivial⟩ ev10⟩
abbrev T_laws_eqByteSS_4 : Type := Qz35
noncomputable def S_laws_eqByteSS_4 {R : Type} (k0 : Bool → Option R) (k1 : Unit → Option R) (again : T_laws_eqByteSS_4 → Option R) (t4 : T_laws_eqByteSS_4) : Option R :=
  bif (decide (t4.2.2 < ((List.length t4.1 : Nat) : Int))) then if (0 : Int) ≤ t4.2.2 then if t4.2.2 < ((List.length t4.1 : Nat) : Int) then if (0 : Int) ≤ t4.2.2 then if t4.2.2 < ((List.length t4.2.1 : Nat) : Int) then Option.bind (F_laws_eqByteS ((rd_s_u8 t4.1 t4.2.2), (rd_s_u8 t4.2.1 t4.2.2))) fun r1 => bif (!r1) then k0 false else again (t4.1, t4.2.1, (Go.IntKind.wrap .i64 (t4.2.2 + (1 : Int)))) else none else none else none else none else k1 ()
noncomputable def L_laws_eqByteSS_4 {R : Type} (k0 : Bool → Option R) (k1 : Unit → Option R) (t : T_laws_eqByteSS_4) : Option R := iter (S_laws_eqByteSS_4 k0 k1) FUEL t
noncomputable def F_laws_eqByteSS (x : Qz36) : Option Bool :=
  bif (((List.length x.1 : Nat) : Int) != ((List.length x.2 : Nat) : Int)) then some false else L_laws_eqByteSS_4 (fun x2 => some x2) (fun x3 => some true) (x.1, x.2, (0 : Int))
noncomputable def f30Q : List QF := [q10]
def f30e4_0 (t : Qz35) : St := ⟨v_s_u8 t.1 :: v_s_u8 t.2.1 :: dd 3 (vI t.2.2 :: dd 21 []), []⟩
noncomputable def f30g4 : Gk T_laws_eqByteSS_4 := fun κ => S_laws_eqByteSS_4 (fun t => κ none ⟨dd 4 (vB t :: dd 22 []), []⟩) (fun t => κ (some 0) ⟨dd 27 [], []⟩)
noncomputable def f30P : Lp := lpC 4 (unG qz35 f30e4_0) @f30g4 lpN
theorem f30C4 : LF f30Q f30P 30 4 Try.f30 0 f30e4_0 @f30g4 fun t => t := fun R κ again t => by kernel_rfl
theorem f30k4 : LK f30Q f30P 30 Try.f30 0 := loop_okG (u := (unG qz35 f30e4_0)) (by kernel_rfl) (unG_ok fun t => by kernel_rfl) (fun R κ s => by kernel_rfl) f30C4
theorem ev30 : EV f30Q f30P 30 Try.f30 sg30 qz36 [.bool] F_laws_eqByteSS := fun x => by kernel_rfl
noncomputable def q30 : QF := ⟨30, F_laws_eqByteSS, okN (n := 1) Try.func30 (by kernel_rfl) (by kernel_rfl) ⟨f30k4, trivial⟩ ev30⟩
noncomputable def F_laws_eqWr (x : Qz37) : Option Bool :=
  bif (x.1 != x.2.2.1) then some false else Option.bind (F_laws_eqByteS (x.2.1, x.2.2.2)) fun r1 => bif (!r1) then some false else some true
theorem ev47 : EV [q10] lpN 47 Try.f47 sg47 qz37 [.bool] F_laws_eqWr := fun x => by kernel_rfl
noncomputable def q47 : QF := ⟨47, F_laws_eqWr, okN (n := 0) Try.func47 (by kernel_rfl) (by kernel_rfl) trivial ev47⟩
abbrev T_laws_eqWrS_4 : Type := Qz38
noncomputable def S_laws_eqWrS_4 {R : Type} (k0 : Bool → Option R) (k1 : Unit → Option R) (again : T_laws_eqWrS_4 → Option R) (t4 : T_laws_eqWrS_4) : Option R :=
  bif (decide (t4.2.2 < ((List.length t4.1 : Nat) : Int))) then if (0 : Int) ≤ t4.2.2 then if t4.2.2 < ((List.length t4.1 : Nat) : Int) then if (0 : Int) ≤ t4.2.2 then if t4.2.2 < ((List.length t4.2.1 : Nat) : Int) then Option.bind (F_laws_eqWr ((rd_Wr t4.1 t4.2.2).1, (rd_Wr t4.1 t4.2.2).2, (rd_Wr t4.2.1 t4.2.2).1, (rd_Wr t4.2.1 t4.2.2).2)) fun r1 => bif (!r1) then k0 false else again (t4.1, t4.2.1, (Go.IntKind.wrap .i64 (t4.2.2 + (1 : Int)))) else none else none else none else none else k1 ()
noncomputable def L_laws_eqWrS_4 {R : Type} (k0 : Bool → Option R) (k1 : Unit → Option R) (t : T_laws_eqWrS_4) : Option R := iter (S_laws_eqWrS_4 k0 k1) FUEL t
noncomputable def F_laws_eqWrS (x : Qz39) : Option Bool :=
  bif (((List.length x.1 : Nat) : Int) != ((List.length x.2 : Nat) : Int)) then some false else L_laws_eqWrS_4 (fun x2 => some x2) (fun x3 => some true) (x.1, x.2, (0 : Int))
noncomputable def f31Q : List QF := [q47]
def f31e4_0 (t : Qz38) : St := ⟨v_Wr t.1 :: v_Wr t.2.1 :: dd 3 (vI t.2.2 :: dd 21 []), []⟩
noncomputable def f31g4 : Gk T_laws_eqWrS_4 := fun κ => S_laws_eqWrS_4 (fun t => κ none ⟨dd 4 (vB t :: dd 22 []), []⟩) (fun t => κ (some 0) ⟨dd 27 [], []⟩)
noncomputable def f31P : Lp := lpC 4 (unG qz38 f31e4_0) @f31g4 lpN
theorem f31C4 : LF f31Q f31P 31 4 Try.f31 0 f31e4_0 @f31g4 fun t => t := fun R κ again t => by kernel_rfl
theorem f31k4 : LK f31Q f31P 31 Try.f31 0 := loop_okG (u := (unG qz38 f31e4_0)) (by kernel_rfl) (unG_ok fun t => by kernel_rfl) (fun R κ s => by kernel_rfl) f31C4
theorem ev31 : EV f31Q f31P 31 Try.f31 sg31 qz39 [.bool] F_laws_eqWrS := fun x => by kernel_rfl
noncomputable def q31 : QF := ⟨31, F_laws_eqWrS, okN (n := 1) Try.func31 (by kernel_rfl) (by kernel_rfl) ⟨f31k4, trivial⟩ ev31⟩
noncomputable def F_laws_eqDev (x : Qz40) : Option Bool :=
  Option.bind (F_laws_eqByteSS (x.1, x.2.2.2.2.1)) fun r1 => bif (!r1) then some false else Option.bind (F_laws_eqWrS (x.2.1, x.2.2.2.2.2.1)) fun r2 => bif (!r2) then some false else bif (x.2.2.1 != x.2.2.2.2.2.2.1) then some false else bif (!(x.2.2.2.1 == x.2.2.2.2.2.2.2)) then some false else some true
theorem ev11 : EV [q30, q31] lpN 11 Try.f11 sg11 qz40 [.bool] F_laws_eqDev := fun x => by kernel_rfl
noncomputable def q11 : QF := ⟨11, F_laws_eqDev, okN (n := 0) Try.func11 (by kernel_rfl) (by kernel_rfl) trivial ev11⟩
abbrev T_laws_markByteS_2 : Type := Qz41
noncomputable def S_laws_markByteS_2 {R : Type} (k0 : Qz22 → Option R) (again : T_laws_markByteS_2 → Option R) (t2 : T_laws_markByteS_2) : Option R :=
  bif (decide (t2.2.1 < ((List.length t2.2.2 : Nat) : Int))) then if (0 : Int) ≤ t2.2.1 then if t2.2.1 < ((List.length t2.2.2 : Nat) : Int) then again ((Go.IntKind.wrap .i64 (t2.1 + (1 : Int))), (Go.IntKind.wrap .i64 (t2.2.1 + (1 : Int))), (List.set t2.2.2 (Int.toNat t2.2.1) (Go.IntKind.wrap .u8 t2.1))) else none else none else k0 (t2.1, t2.2.2)
noncomputable def L_laws_markByteS_2 {R : Type} (k0 : Qz22 → Option R) (t : T_laws_markByteS_2) : Option R := iter (S_laws_markByteS_2 k0) FUEL t
noncomputable def F_laws_markByteS (x : Qz0) : Option Qz22 :=
  L_laws_markByteS_2 (fun x1 => some (x1.1, x1.2)) (x.2, (0 : Int), x.1)
noncomputable def f13Q : List QF := []
def f13e2_0 (t : Qz41) : St := ⟨.own 10000000 :: vI t.1 :: dd 3 (vI t.2.1 :: dd 14 []), [(10000000, .deep true 1 5 ts_u8 t.2.2)]⟩
noncomputable def f13g2 : Gk T_laws_markByteS_2 := fun κ => S_laws_markByteS_2 (fun t => κ (some 0) ⟨.own 10000000 :: vI t.1 :: dd 18 [], [(10000000, .deep true 1 5 ts_u8 t.2)]⟩)
noncomputable def f13P : Lp := lpC 2 (unG qz41 f13e2_0) @f13g2 lpN
theorem f13C2 : LF f13Q f13P 13 2 Try.f13 0 f13e2_0 @f13g2 fun t => t := fun R κ again t => by kernel_rfl
theorem f13k2 : LK f13Q f13P 13 Try.f13 0 := loop_okG (u := (unG qz41 f13e2_0)) (by kernel_rfl) (unG_ok fun t => by kernel_rfl) (fun R κ s => by kernel_rfl) f13C2
theorem ev13 : EV f13Q f13P 13 Try.f13 sg13 qz0 qz22 F_laws_markByteS := fun x => by kernel_rfl
noncomputable def q13 : QF := ⟨13, F_laws_markByteS, okN (n := 1) Try.func13 (by kernel_rfl) (by kernel_rfl) ⟨f13k2, trivial⟩ ev13⟩
abbrev T_laws_markByteSS_2 : Type := Qz42
noncomputable def S_laws_markByteSS_2 {R : Type} (k0 : Qz43 → Option R) (again : T_laws_markByteSS_2 → Option R) (t2 : T_laws_markByteSS_2) : Option R :=
  bif (decide (t2.2.1 < ((List.length t2.2.2 : Nat) : Int))) then if (0 : Int) ≤ t2.2.1 then if t2.2.1 < ((List.length t2.2.2 : Nat) : Int) then Option.bind (F_laws_markByteS ((rd_s_u8 t2.2.2 t2.2.1), t2.1)) fun r1 => again (r1.1, (Go.IntKind.wrap .i64 (t2.2.1 + (1 : Int))), (List.set t2.2.2 (Int.toNat t2.2.1) r1.2)) else none else none else k0 (t2.1, t2.2.2)
noncomputable def L_laws_markByteSS_2 {R : Type} (k0 : Qz43 → Option R) (t : T_laws_markByteSS_2) : Option R := iter (S_laws_markByteSS_2 k0) FUEL t
noncomputable def F_laws_markByteSS (x : Qz3) : Option Qz43 :=
  L_laws_markByteSS_2 (fun x2 => some (x2.1, x2.2)) (x.2, (0 : Int), x.1)
noncomputable def f32Q : List QF := [q13]
def f32e2_0 (t : Qz42) : St := ⟨.own 10000000 :: vI t.1 :: dd 3 (vI t.2.1 :: dd 13 []), [(10000000, .deep true 1 29 ts_s_u8 t.2.2)]⟩
noncomputable def f32g2 : Gk T_laws_markByteSS_2 := fun κ => S_laws_markByteSS_2 (fun t => κ (some 0) ⟨.own 10000000 :: vI t.1 :: dd 17 [], [(10000000, .deep true 1 29 ts_s_u8 t.2)]⟩)
noncomputable def f32P : Lp := lpC 2 (unG qz42 f32e2_0) @f32g2 lpN
theorem f32C2 : LF f32Q f32P 32 2 Try.f32 0 f32e2_0 @f32g2 fun t => t := fun R κ again t => by kernel_rfl
theorem f32k2 : LK f32Q f32P 32 Try.f32 0 := loop_okG (u := (unG qz42 f32e2_0)) (by kernel_rfl) (unG_ok fun t => by kernel_rfl) (fun R κ s => by kernel_rfl) f32C2
theorem ev32 : EV f32Q f32P 32 Try.f32 sg32 qz3 qz43 F_laws_markByteSS := fun x => by kernel_rfl
noncomputable def q32 : QF := ⟨32, F_laws_markByteSS, okN (n := 1) Try.func32 (by kernel_rfl) (by kernel_rfl) ⟨f32k2, trivial⟩ ev32⟩
abbrev T_laws_markWrS_2 : Type := Qz44
noncomputable def S_laws_markWrS_2 {R : Type} (k0 : Qz45 → Option R) (again : T_laws_markWrS_2 → Option R) (t2 : T_laws_markWrS_2) : Option R :=
  bif (decide (t2.2.1 < ((List.length t2.2.2 : Nat) : Int))) then if (0 : Int) ≤ t2.2.1 then if t2.2.1 < ((List.length t2.2.2 : Nat) : Int) then if (0 : Int) ≤ t2.2.1 then if t2.2.1 < ((List.length (List.set t2.2.2 (Int.toNat t2.2.1) (t2.1, (rd_Wr t2.2.2 t2.2.1).2)) : Nat) : Int) then Option.bind (F_laws_markByteS ((rd_Wr (List.set t2.2.2 (Int.toNat t2.2.1) (t2.1, (rd_Wr t2.2.2 t2.2.1).2)) t2.2.1).2, (Go.IntKind.wrap .i64 (t2.1 + (1 : Int))))) fun r1 => again (r1.1, (Go.IntKind.wrap .i64 (t2.2.1 + (1 : Int))), (List.set (List.set t2.2.2 (Int.toNat t2.2.1) (t2.1, (rd_Wr t2.2.2 t2.2.1).2)) (Int.toNat t2.2.1) ((rd_Wr (List.set t2.2.2 (Int.toNat t2.2.1) (t2.1, (rd_Wr t2.2.2 t2.2.1).2)) t2.2.1).1, r1.2))) else none else none else none else none else k0 (t2.1, t2.2.2)
noncomputable def L_laws_markWrS_2 {R : Type} (k0 : Qz45 → Option R) (t : T_laws_markWrS_2) : Option R := iter (S_laws_markWrS_2 k0) FUEL t
noncomputable def F_laws_markWrS (x : Qz46) : Option Qz45 :=
  L_laws_markWrS_2 (fun x2 => some (x2.1, x2.2)) (x.2, (0 : Int), x.1)
noncomputable def f33Q : List QF := [q13]
def f33e2_0 (t : Qz44) : St := ⟨.own 10000000 :: vI t.1 :: dd 3 (vI t.2.1 :: dd 21 []), [(10000000, .deep true 1 64 ts_Wr t.2.2)]⟩
noncomputable def f33g2 : Gk T_laws_markWrS_2 := fun κ => S_laws_markWrS_2 (fun t => κ (some 0) ⟨.own 10000000 :: vI t.1 :: dd 25 [], [(10000000, .deep true 1 64 ts_Wr t.2)]⟩)
noncomputable def f33P : Lp := lpC 2 (unG qz44 f33e2_0) @f33g2 lpN
theorem f33C2 : LF f33Q f33P 33 2 Try.f33 0 f33e2_0 @f33g2 fun t => t := fun R κ again t => by kernel_rfl
theorem f33k2 : LK f33Q f33P 33 Try.f33 0 := loop_okG (u := (unG qz44 f33e2_0)) (by kernel_rfl) (unG_ok fun t => by kernel_rfl) (fun R κ s => by kernel_rfl) f33C2
theorem ev33 : EV f33Q f33P 33 Try.f33 sg33 qz46 qz45 F_laws_markWrS := fun x => by kernel_rfl
noncomputable def q33 : QF := ⟨33, F_laws_markWrS, okN (n := 1) Try.func33 (by kernel_rfl) (by kernel_rfl) ⟨f33k2, trivial⟩ ev33⟩
noncomputable def F_laws_markDev (x : Qz13) : Option Qz47 :=
  Option.bind (F_laws_markByteSS (x.1, x.2.2.2.2)) fun r1 => Option.bind (F_laws_markWrS (x.2.1, r1.1)) fun r2 => some (r2.1, r1.2, r2.2)
theorem ev12 : EV [q32, q33] lpN 12 Try.f12 sg12 qz13 qz47 F_laws_markDev := fun x => by kernel_rfl
noncomputable def q12 : QF := ⟨12, F_laws_markDev, okN (n := 0) Try.func12 (by kernel_rfl) (by kernel_rfl) trivial ev12⟩
abbrev T_laws_heldByteS_2 : Type := Qz15
noncomputable def S_laws_heldByteS_2 {R : Type} (k0 : Qz2 → Option R) (k1 : Int → Option R) (again : T_laws_heldByteS_2 → Option R) (t2 : T_laws_heldByteS_2) : Option R :=
  bif (decide (t2.2.2 < ((List.length t2.1 : Nat) : Int))) then if (0 : Int) ≤ t2.2.2 then if t2.2.2 < ((List.length t2.1 : Nat) : Int) then bif ((rd_u8 t2.1 t2.2.2) != (Go.IntKind.wrap .u8 t2.2.1)) then k0 (t2.2.1, (-1 : Int)) else again (t2.1, (Go.IntKind.wrap .i64 (t2.2.1 + (1 : Int))), (Go.IntKind.wrap .i64 (t2.2.2 + (1 : Int)))) else none else none else k1 t2.2.1
noncomputable def L_laws_heldByteS_2 {R : Type} (k0 : Qz2 → Option R) (k1 : Int → Option R) (t : T_laws_heldByteS_2) : Option R := iter (S_laws_heldByteS_2 k0 k1) FUEL t
noncomputable def F_laws_heldByteS (x : Qz0) : Option Int :=
  L_laws_heldByteS_2 (fun x1 => some x1.2) (fun x2 => some x2) (x.1, x.2, (0 : Int))
noncomputable def f14Q : List QF := []
def f14e2_0 (t : Qz15) : St := ⟨v_u8 t.1 :: vI t.2.1 :: dd 3 (vI t.2.2 :: dd 16 []), []⟩
noncomputable def f14g2 : Gk T_laws_heldByteS_2 := fun κ => S_laws_heldByteS_2 (fun t => κ none ⟨.dead :: vI t.1 :: dd 2 (vI t.2 :: dd 17 []), []⟩) (fun t => κ (some 0) ⟨.dead :: vI t :: dd 20 [], []⟩)
noncomputable def f14P : Lp := lpC 2 (unG qz15 f14e2_0) @f14g2 lpN
theorem f14C2 : LF f14Q f14P 14 2 Try.f14 0 f14e2_0 @f14g2 fun t => t := fun R κ again t => by kernel_rfl
theorem f14k2 : LK f14Q f14P 14 Try.f14 0 := loop_okG (u := (unG qz15 f14e2_0)) (by kernel_rfl) (unG_ok fun t => by kernel_rfl) (fun R κ s => by kernel_rfl) f14C2
theorem ev14 : EV f14Q f14P 14 Try.f14 sg14 qz0 [(.int .i64)] F_laws_heldByteS := fun x => by kernel_rfl
noncomputable def q14 : QF := ⟨14, F_laws_heldByteS, okN (n := 1) Try.func14 (by kernel_rfl) (by kernel_rfl) ⟨f14k2, trivial⟩ ev14⟩
noncomputable def F_laws_FnExactReadImage (x : Qz48) : Option Bool :=
  Option.bind (F_laws_szDev (x.1, x.2.1, x.2.2.1, x.2.2.2.1, (1048576 : Int))) fun r1 => bif (decide (r1 < (0 : Int))) then some true else Option.bind (F_laws_toDev (x.1, x.2.1, x.2.2.1, x.2.2.2.1)) fun r2 => Option.bind (F_laws_toSuper (x.2.2.2.2.1, x.2.2.2.2.2.1, x.2.2.2.2.2.2.1, x.2.2.2.2.2.2.2.1, x.2.2.2.2.2.2.2.2)) fun r3 => Option.bind (F_spec_ReadImage (r2.1, r2.2.1, r2.2.2.1, r2.2.2.2, r3.1, r3.2.1, r3.2.2.1, r3.2.2.2.1, r3.2.2.2.2)) fun r4 => Option.bind (F_laws_toDev (x.1, x.2.1, x.2.2.1, x.2.2.2.1)) fun r5 => Option.bind (F_laws_toSuper (x.2.2.2.2.1, x.2.2.2.2.2.1, x.2.2.2.2.2.2.1, x.2.2.2.2.2.2.2.1, x.2.2.2.2.2.2.2.2)) fun r6 => Option.bind (F_impl_ReadImage (r5.1, r5.2.1, r5.2.2.1, r5.2.2.2, r6.1, r6.2.1, r6.2.2.1, r6.2.2.2.1, r6.2.2.2.2)) fun r7 => Option.bind (F_laws_eqByteS (r7.1, r4.1)) fun r8 => Option.bind (bif (!r8) then some true else some (!(r7.2 == r4.2))) fun u9 => bif u9 then some false else Option.bind (F_laws_toDev (x.1, x.2.1, x.2.2.1, x.2.2.2.1)) fun r10 => Option.bind (F_laws_eqDev (r5.1, r5.2.1, r5.2.2.1, r5.2.2.2, r10.1, r10.2.1, r10.2.2.1, r10.2.2.2)) fun r11 => bif (!r11) then some false else Option.bind (F_laws_markDev (r5.1, r5.2.1, r5.2.2.1, r5.2.2.2, (1 : Int))) fun r12 => Option.bind (bif (decide (r12.1 < (0 : Int))) then some true else Option.bind (F_laws_eqByteS (r7.1, r4.1)) fun r14 => some (!r14)) fun u13 => Option.bind (bif u13 then some true else some (!(r7.2 == r4.2))) fun u15 => bif u15 then some false else Option.bind (F_laws_markByteS (r7.1, (1 : Int))) fun r16 => Option.bind (F_laws_heldByteS (r16.2, (1 : Int))) fun r17 => bif (decide (r17 < (0 : Int))) then some false else bif (r17 != r16.1) then some false else Option.bind (F_laws_toDev (x.1, x.2.1, x.2.2.1, x.2.2.2.1)) fun r18 => Option.bind (F_laws_toSuper (x.2.2.2.2.1, x.2.2.2.2.2.1, x.2.2.2.2.2.2.1, x.2.2.2.2.2.2.2.1, x.2.2.2.2.2.2.2.2)) fun r19 => Option.bind (F_impl_ReadImage (r18.1, r18.2.1, r18.2.2.1, r18.2.2.2, r19.1, r19.2.1, r19.2.2.1, r19.2.2.2.1, r19.2.2.2.2)) fun r20 => Option.bind (F_laws_eqByteS (r20.1, r4.1)) fun r21 => Option.bind (bif (!r21) then some true else some (!(r20.2 == r4.2))) fun u22 => bif u22 then some false else Option.bind (F_laws_heldByteS (r16.2, (1 : Int))) fun r23 => bif (decide (r23 < (0 : Int))) then some false else bif (r23 != r16.1) then some false else some true
theorem ev3 : EV [q5, q6, q7, q8, q9, q10, q11, q12, q13, q14] lpN 3 Try.f3 sg3 qz48 [.bool] F_laws_FnExactReadImage := fun x => by kernel_rfl
noncomputable def q3 : QF := ⟨3, F_laws_FnExactReadImage, okN (n := 0) Try.func3 (by kernel_rfl) (by kernel_rfl) trivial ev3⟩
end Go.Proofs.Ytibkaphfhdmjlaa.XK
