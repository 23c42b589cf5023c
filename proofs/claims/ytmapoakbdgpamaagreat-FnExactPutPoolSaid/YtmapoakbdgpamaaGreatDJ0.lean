/- What functions compute, and that they do; part 0 of J; by a program (dec.py). No condition. -/
import Derived.Test.YtmapoakbdgpamaaGreatXJ
set_option linter.all false
namespace Go.Proofs.YtmapoakbdgpamaaGreat.XJ
open Go.Proofs.YtmapoakbdgpamaaGreat.R
set_option maxRecDepth 100000
noncomputable def F_laws_szIntS (x : Qz0) : Option Int :=
  bif (decide ((Go.IntKind.wrap .i64 (x.2 - ((List.length x.1 : Nat) : Int))) < (0 : Int))) then some (-1 : Int) else some (Go.IntKind.wrap .i64 (x.2 - ((List.length x.1 : Nat) : Int)))
theorem ev117 : EV [] lpN 117 Tryz.f117 sg117 qz0 [(.int .i64)] F_laws_szIntS := fun x => by kernel_rfl
noncomputable def q117 : QF := ⟨117, F_laws_szIntS, okN (n := 0) Tryz.func117 (by kernel_rfl) (by kernel_rfl) trivial ev117⟩
noncomputable def F_laws_szKeyS (x : Qz1) : Option Int :=
  bif (decide ((Go.IntKind.wrap .i64 (x.2 - ((List.length x.1 : Nat) : Int))) < (0 : Int))) then some (-1 : Int) else some (Go.IntKind.wrap .i64 (x.2 - ((List.length x.1 : Nat) : Int)))
theorem ev275 : EV [] lpN 275 Tryz.f275 sg275 qz1 [(.int .i64)] F_laws_szKeyS := fun x => by kernel_rfl
noncomputable def q275 : QF := ⟨275, F_laws_szKeyS, okN (n := 0) Tryz.func275 (by kernel_rfl) (by kernel_rfl) trivial ev275⟩
abbrev T_laws_szKeySS_5 : Type := Qz2
noncomputable def S_laws_szKeySS_5 {R : Type} (k0 : Qz3 → Option R) (k1 : Int → Option R) (again : T_laws_szKeySS_5 → Option R) (t5 : T_laws_szKeySS_5) : Option R :=
  bif (decide (t5.2.2 < ((List.length t5.1 : Nat) : Int))) then if (0 : Int) ≤ t5.2.2 then if t5.2.2 < ((List.length t5.1 : Nat) : Int) then Option.bind (F_laws_szKeyS ((rd_s_LKey t5.1 t5.2.2), t5.2.1)) fun r1 => bif (decide (r1 < (0 : Int))) then k0 (r1, (-1 : Int)) else again (t5.1, r1, (Go.IntKind.wrap .i64 (t5.2.2 + (1 : Int)))) else none else none else k1 t5.2.1
noncomputable def L_laws_szKeySS_5 {R : Type} (k0 : Qz3 → Option R) (k1 : Int → Option R) (t : T_laws_szKeySS_5) : Option R := iter (S_laws_szKeySS_5 k0 k1) FUEL t
noncomputable def F_laws_szKeySS (x : Qz4) : Option Int :=
  bif (decide ((Go.IntKind.wrap .i64 (x.2 - ((List.length x.1 : Nat) : Int))) < (0 : Int))) then some (-1 : Int) else L_laws_szKeySS_5 (fun x2 => some x2.2) (fun x3 => some x3) (x.1, (Go.IntKind.wrap .i64 (x.2 - ((List.length x.1 : Nat) : Int))), (0 : Int))
noncomputable def f243Q : List QF := [q275]
def f243e5_0 (t : Qz2) : St := ⟨v_s_LKey t.1 :: vI t.2.1 :: dd 3 (vI t.2.2 :: dd 21 []), []⟩
noncomputable def f243g5 : Gk T_laws_szKeySS_5 := fun κ => S_laws_szKeySS_5 (fun t => κ none ⟨.dead :: vI t.1 :: dd 2 (vI t.2 :: dd 22 []), []⟩) (fun t => κ (some 0) ⟨.dead :: vI t :: dd 25 [], []⟩)
noncomputable def f243P : Lp := lpC 5 (unG qz2 f243e5_0) @f243g5 lpN
theorem f243C5 : LF f243Q f243P 243 5 Tryz.f243 0 f243e5_0 @f243g5 fun t => t := fun R κ again t => by kernel_rfl
theorem f243k5 : LK f243Q f243P 243 Tryz.f243 0 := loop_okG (u := (unG qz2 f243e5_0)) (by kernel_rfl) (unG_ok fun t => by kernel_rfl) (fun R κ s => by kernel_rfl) f243C5
theorem ev243 : EV f243Q f243P 243 Tryz.f243 sg243 qz4 [(.int .i64)] F_laws_szKeySS := fun x => by kernel_rfl
noncomputable def q243 : QF := ⟨243, F_laws_szKeySS, okN (n := 1) Tryz.func243 (by kernel_rfl) (by kernel_rfl) ⟨f243k5, trivial⟩ ev243⟩
noncomputable def F_laws_szNode (x : Qz4) : Option Int :=
  Option.bind (F_laws_szKeySS (x.1, x.2)) fun r1 => bif (decide (r1 < (0 : Int))) then some (-1 : Int) else some r1
theorem ev194 : EV [q243] lpN 194 Tryz.f194 sg194 qz4 [(.int .i64)] F_laws_szNode := fun x => by kernel_rfl
noncomputable def q194 : QF := ⟨194, F_laws_szNode, okN (n := 0) Tryz.func194 (by kernel_rfl) (by kernel_rfl) trivial ev194⟩
abbrev T_laws_szNodeS_5 : Type := Qz5
noncomputable def S_laws_szNodeS_5 {R : Type} (k0 : Qz3 → Option R) (k1 : Int → Option R) (again : T_laws_szNodeS_5 → Option R) (t5 : T_laws_szNodeS_5) : Option R :=
  bif (decide (t5.2.2 < ((List.length t5.1 : Nat) : Int))) then if (0 : Int) ≤ t5.2.2 then if t5.2.2 < ((List.length t5.1 : Nat) : Int) then Option.bind (F_laws_szNode ((rd_LNode t5.1 t5.2.2), t5.2.1)) fun r1 => bif (decide (r1 < (0 : Int))) then k0 (r1, (-1 : Int)) else again (t5.1, r1, (Go.IntKind.wrap .i64 (t5.2.2 + (1 : Int)))) else none else none else k1 t5.2.1
noncomputable def L_laws_szNodeS_5 {R : Type} (k0 : Qz3 → Option R) (k1 : Int → Option R) (t : T_laws_szNodeS_5) : Option R := iter (S_laws_szNodeS_5 k0 k1) FUEL t
noncomputable def F_laws_szNodeS (x : Qz6) : Option Int :=
  bif (decide ((Go.IntKind.wrap .i64 (x.2 - ((List.length x.1 : Nat) : Int))) < (0 : Int))) then some (-1 : Int) else L_laws_szNodeS_5 (fun x2 => some x2.2) (fun x3 => some x3) (x.1, (Go.IntKind.wrap .i64 (x.2 - ((List.length x.1 : Nat) : Int))), (0 : Int))
noncomputable def f118Q : List QF := [q194]
def f118e5_0 (t : Qz5) : St := ⟨v_LNode t.1 :: vI t.2.1 :: dd 3 (vI t.2.2 :: dd 21 []), []⟩
noncomputable def f118g5 : Gk T_laws_szNodeS_5 := fun κ => S_laws_szNodeS_5 (fun t => κ none ⟨.dead :: vI t.1 :: dd 2 (vI t.2 :: dd 22 []), []⟩) (fun t => κ (some 0) ⟨.dead :: vI t :: dd 25 [], []⟩)
noncomputable def f118P : Lp := lpC 5 (unG qz5 f118e5_0) @f118g5 lpN
theorem f118C5 : LF f118Q f118P 118 5 Tryz.f118 0 f118e5_0 @f118g5 fun t => t := fun R κ again t => by kernel_rfl
theorem f118k5 : LK f118Q f118P 118 Tryz.f118 0 := loop_okG (u := (unG qz5 f118e5_0)) (by kernel_rfl) (unG_ok fun t => by kernel_rfl) (fun R κ s => by kernel_rfl) f118C5
theorem ev118 : EV f118Q f118P 118 Tryz.f118 sg118 qz6 [(.int .i64)] F_laws_szNodeS := fun x => by kernel_rfl
noncomputable def q118 : QF := ⟨118, F_laws_szNodeS, okN (n := 1) Tryz.func118 (by kernel_rfl) (by kernel_rfl) ⟨f118k5, trivial⟩ ev118⟩
noncomputable def F_laws_szTree (x : Qz7) : Option Int :=
  Option.bind (F_laws_szIntS (x.1, x.2.2)) fun r1 => bif (decide (r1 < (0 : Int))) then some (-1 : Int) else Option.bind (F_laws_szNodeS (x.2.1, r1)) fun r2 => bif (decide (r2 < (0 : Int))) then some (-1 : Int) else some r2
theorem ev43 : EV [q117, q118] lpN 43 Tryz.f43 sg43 qz7 [(.int .i64)] F_laws_szTree := fun x => by kernel_rfl
noncomputable def q43 : QF := ⟨43, F_laws_szTree, okN (n := 0) Tryz.func43 (by kernel_rfl) (by kernel_rfl) trivial ev43⟩
noncomputable def F_laws_szAgeS (x : Qz8) : Option Int :=
  bif (decide ((Go.IntKind.wrap .i64 (x.2 - ((List.length x.1 : Nat) : Int))) < (0 : Int))) then some (-1 : Int) else some (Go.IntKind.wrap .i64 (x.2 - ((List.length x.1 : Nat) : Int)))
theorem ev44 : EV [] lpN 44 Tryz.f44 sg44 qz8 [(.int .i64)] F_laws_szAgeS := fun x => by kernel_rfl
noncomputable def q44 : QF := ⟨44, F_laws_szAgeS, okN (n := 0) Tryz.func44 (by kernel_rfl) (by kernel_rfl) trivial ev44⟩
noncomputable def F_laws_szCellS (x : Qz9) : Option Int :=
  bif (decide ((Go.IntKind.wrap .i64 (x.2 - ((List.length x.1 : Nat) : Int))) < (0 : Int))) then some (-1 : Int) else some (Go.IntKind.wrap .i64 (x.2 - ((List.length x.1 : Nat) : Int)))
theorem ev45 : EV [] lpN 45 Tryz.f45 sg45 qz9 [(.int .i64)] F_laws_szCellS := fun x => by kernel_rfl
noncomputable def q45 : QF := ⟨45, F_laws_szCellS, okN (n := 0) Tryz.func45 (by kernel_rfl) (by kernel_rfl) trivial ev45⟩
noncomputable def F_laws_szVol (x : Qz10) : Option Int :=
  bif (decide ((Go.IntKind.wrap .i64 (x.2.2.2.2 - ((ByteArray.size x.1 : Nat) : Int))) < (0 : Int))) then some (-1 : Int) else some (Go.IntKind.wrap .i64 (x.2.2.2.2 - ((ByteArray.size x.1 : Nat) : Int)))
theorem ev119 : EV [] lpN 119 Tryz.f119 sg119 qz10 [(.int .i64)] F_laws_szVol := fun x => by kernel_rfl
noncomputable def q119 : QF := ⟨119, F_laws_szVol, okN (n := 0) Tryz.func119 (by kernel_rfl) (by kernel_rfl) trivial ev119⟩
abbrev T_laws_szVolS_5 : Type := Qz11
noncomputable def S_laws_szVolS_5 {R : Type} (k0 : Qz3 → Option R) (k1 : Int → Option R) (again : T_laws_szVolS_5 → Option R) (t5 : T_laws_szVolS_5) : Option R :=
  bif (decide (t5.2.2 < ((List.length t5.1 : Nat) : Int))) then if (0 : Int) ≤ t5.2.2 then if t5.2.2 < ((List.length t5.1 : Nat) : Int) then Option.bind (F_laws_szVol ((rd_LVol t5.1 t5.2.2).1, (rd_LVol t5.1 t5.2.2).2.1, (rd_LVol t5.1 t5.2.2).2.2.1, (rd_LVol t5.1 t5.2.2).2.2.2, t5.2.1)) fun r1 => bif (decide (r1 < (0 : Int))) then k0 (r1, (-1 : Int)) else again (t5.1, r1, (Go.IntKind.wrap .i64 (t5.2.2 + (1 : Int)))) else none else none else k1 t5.2.1
noncomputable def L_laws_szVolS_5 {R : Type} (k0 : Qz3 → Option R) (k1 : Int → Option R) (t : T_laws_szVolS_5) : Option R := iter (S_laws_szVolS_5 k0 k1) FUEL t
noncomputable def F_laws_szVolS (x : Qz12) : Option Int :=
  bif (decide ((Go.IntKind.wrap .i64 (x.2 - ((List.length x.1 : Nat) : Int))) < (0 : Int))) then some (-1 : Int) else L_laws_szVolS_5 (fun x2 => some x2.2) (fun x3 => some x3) (x.1, (Go.IntKind.wrap .i64 (x.2 - ((List.length x.1 : Nat) : Int))), (0 : Int))
noncomputable def f46Q : List QF := [q119]
def f46e5_0 (t : Qz11) : St := ⟨v_LVol t.1 :: vI t.2.1 :: dd 3 (vI t.2.2 :: dd 21 []), []⟩
noncomputable def f46g5 : Gk T_laws_szVolS_5 := fun κ => S_laws_szVolS_5 (fun t => κ none ⟨.dead :: vI t.1 :: dd 2 (vI t.2 :: dd 22 []), []⟩) (fun t => κ (some 0) ⟨.dead :: vI t :: dd 25 [], []⟩)
noncomputable def f46P : Lp := lpC 5 (unG qz11 f46e5_0) @f46g5 lpN
theorem f46C5 : LF f46Q f46P 46 5 Tryz.f46 0 f46e5_0 @f46g5 fun t => t := fun R κ again t => by kernel_rfl
theorem f46k5 : LK f46Q f46P 46 Tryz.f46 0 := loop_okG (u := (unG qz11 f46e5_0)) (by kernel_rfl) (unG_ok fun t => by kernel_rfl) (fun R κ s => by kernel_rfl) f46C5
theorem ev46 : EV f46Q f46P 46 Tryz.f46 sg46 qz12 [(.int .i64)] F_laws_szVolS := fun x => by kernel_rfl
noncomputable def q46 : QF := ⟨46, F_laws_szVolS, okN (n := 1) Tryz.func46 (by kernel_rfl) (by kernel_rfl) ⟨f46k5, trivial⟩ ev46⟩
noncomputable def F_laws_szPool (x : Qz13) : Option Int :=
  Option.bind (F_laws_szTree (x.1, x.2.1, x.2.2.2.2.2.2)) fun r1 => bif (decide (r1 < (0 : Int))) then some (-1 : Int) else Option.bind (F_laws_szAgeS (x.2.2.1, r1)) fun r2 => bif (decide (r2 < (0 : Int))) then some (-1 : Int) else Option.bind (F_laws_szCellS (x.2.2.2.1, r2)) fun r3 => bif (decide (r3 < (0 : Int))) then some (-1 : Int) else Option.bind (F_laws_szVolS (x.2.2.2.2.1, r3)) fun r4 => bif (decide (r4 < (0 : Int))) then some (-1 : Int) else some r4
theorem ev10 : EV [q43, q44, q45, q46] lpN 10 Tryz.f10 sg10 qz13 [(.int .i64)] F_laws_szPool := fun x => by kernel_rfl
noncomputable def q10 : QF := ⟨10, F_laws_szPool, okN (n := 0) Tryz.func10 (by kernel_rfl) (by kernel_rfl) trivial ev10⟩
noncomputable def F_spec_l1In (x : Qz14) : Option Bool :=
  Option.bind (bif (decide (x.1 ≥ x.2.1)) then some (decide (x.1 ≤ x.2.2)) else some false) fun u1 => some u1
theorem ev107 : EV [] lpN 107 Tryz.f107 sg107 qz14 [.bool] F_spec_l1In := fun x => by kernel_rfl
noncomputable def q107 : QF := ⟨107, F_spec_l1In, okN (n := 0) Tryz.func107 (by kernel_rfl) (by kernel_rfl) trivial ev107⟩
abbrev T_spec_Drop_3 : Type := Qz15
noncomputable def S_spec_Drop_3 {R : Type} (k0 : List E_Key → Option R) (again : T_spec_Drop_3 → Option R) (t3 : T_spec_Drop_3) : Option R :=
  bif (decide (t3.2.1 < ((List.length t3.1 : Nat) : Int))) then if (0 : Int) ≤ t3.2.1 then if t3.2.1 < ((List.length t3.1 : Nat) : Int) then bif ((rd_Key t3.1 t3.2.1).2.2.1 != (0 : Int)) then if (0 : Int) ≤ t3.2.1 then if t3.2.1 < ((List.length t3.1 : Nat) : Int) then if (List.length t3.2.2 + List.length ([((rd_Key t3.1 t3.2.1).1, (rd_Key t3.1 t3.2.1).2.1, (rd_Key t3.1 t3.2.1).2.2.1, (rd_Key t3.1 t3.2.1).2.2.2.1, (rd_Key t3.1 t3.2.1).2.2.2.2)] : List E_Key)) * 40 < 140737488355328 then again (t3.1, (Go.IntKind.wrap .i64 (t3.2.1 + (1 : Int))), (t3.2.2 ++ ([((rd_Key t3.1 t3.2.1).1, (rd_Key t3.1 t3.2.1).2.1, (rd_Key t3.1 t3.2.1).2.2.1, (rd_Key t3.1 t3.2.1).2.2.2.1, (rd_Key t3.1 t3.2.1).2.2.2.2)] : List E_Key))) else none else none else none else again (t3.1, (Go.IntKind.wrap .i64 (t3.2.1 + (1 : Int))), t3.2.2) else none else none else k0 t3.2.2
noncomputable def L_spec_Drop_3 {R : Type} (k0 : List E_Key → Option R) (t : T_spec_Drop_3) : Option R := iter (S_spec_Drop_3 k0) FUEL t
noncomputable def F_spec_Drop (x : List E_Key) : Option (List E_Key) :=
  L_spec_Drop_3 (fun x1 => some x1) (x, (0 : Int), ([] : List E_Key))
noncomputable def f235Q : List QF := []
def f235e3_0 (t : Qz15) : St := ⟨v_Key t.1 :: dd 2 (.own 10000000 :: vI t.2.1 :: dd 21 []), [(10000000, .root true 106 ts_Key t.2.2)]⟩
noncomputable def f235g3 : Gk T_spec_Drop_3 := fun κ => S_spec_Drop_3 (fun t => κ (some 0) ⟨dd 3 (.own 10000000 :: dd 22 []), [(10000000, .root true 106 ts_Key t)]⟩)
noncomputable def f235P : Lp := lpC 3 (unG qz15 f235e3_0) @f235g3 lpN
theorem f235C3 : LF f235Q f235P 235 3 Tryz.f235 0 f235e3_0 @f235g3 fun t => t := fun R κ again t => by kernel_rfl
theorem f235k3 : LK f235Q f235P 235 Tryz.f235 0 := loop_okG (u := (unG qz15 f235e3_0)) (by kernel_rfl) (unG_ok fun t => by kernel_rfl) (fun R κ s => by kernel_rfl) f235C3
theorem ev235 : EV f235Q f235P 235 Tryz.f235 sg235 [(.sl 106 ts_Key)] [(.sl 106 ts_Key)] F_spec_Drop := fun x => by kernel_rfl
noncomputable def q235 : QF := ⟨235, F_spec_Drop, okN (n := 1) Tryz.func235 (by kernel_rfl) (by kernel_rfl) ⟨f235k3, trivial⟩ ev235⟩
noncomputable def F_spec_LessKey (x : Qz16) : Option Bool :=
  bif (x.1 != x.2.2.2.2.2.1) then some (decide (x.1 < x.2.2.2.2.2.1)) else some (decide (x.2.1 < x.2.2.2.2.2.2.1))
theorem ev266 : EV [] lpN 266 Tryz.f266 sg266 qz16 [.bool] F_spec_LessKey := fun x => by kernel_rfl
noncomputable def q266 : QF := ⟨266, F_spec_LessKey, okN (n := 0) Tryz.func266 (by kernel_rfl) (by kernel_rfl) trivial ev266⟩
noncomputable def F_spec_SameSpot (x : Qz16) : Option Bool :=
  Option.bind (bif (x.1 == x.2.2.2.2.2.1) then some (x.2.1 == x.2.2.2.2.2.2.1) else some false) fun u1 => some u1
theorem ev267 : EV [] lpN 267 Tryz.f267 sg267 qz16 [.bool] F_spec_SameSpot := fun x => by kernel_rfl
noncomputable def q267 : QF := ⟨267, F_spec_SameSpot, okN (n := 0) Tryz.func267 (by kernel_rfl) (by kernel_rfl) trivial ev267⟩
abbrev T_spec_SetPut_4 : Type := Qz17
noncomputable def S_spec_SetPut_4 {R : Type} (k0 : Qz18 → Option R) (again : T_spec_SetPut_4 → Option R) (t4 : T_spec_SetPut_4) : Option R :=
  bif (decide (t4.2.2.1 < ((List.length t4.1 : Nat) : Int))) then Option.bind (bif (!t4.2.1) then if (0 : Int) ≤ t4.2.2.1 then if t4.2.2.1 < ((List.length t4.1 : Nat) : Int) then Option.bind (F_spec_LessKey ((rd_Key t4.1 t4.2.2.1).1, (rd_Key t4.1 t4.2.2.1).2.1, (rd_Key t4.1 t4.2.2.1).2.2.1, (rd_Key t4.1 t4.2.2.1).2.2.2.1, (rd_Key t4.1 t4.2.2.1).2.2.2.2, t4.2.2.2.1, t4.2.2.2.2.1, t4.2.2.2.2.2.1, t4.2.2.2.2.2.2.1, t4.2.2.2.2.2.2.2.1)) fun r2 => some (!r2) else none else none else some false) fun u1 => bif u1 then if (List.length t4.2.2.2.2.2.2.2.2 + List.length ([(t4.2.2.2.1, t4.2.2.2.2.1, t4.2.2.2.2.2.1, t4.2.2.2.2.2.2.1, t4.2.2.2.2.2.2.2.1)] : List E_Key)) * 40 < 140737488355328 then if (0 : Int) ≤ t4.2.2.1 then if t4.2.2.1 < ((List.length t4.1 : Nat) : Int) then Option.bind (F_spec_SameSpot ((rd_Key t4.1 t4.2.2.1).1, (rd_Key t4.1 t4.2.2.1).2.1, (rd_Key t4.1 t4.2.2.1).2.2.1, (rd_Key t4.1 t4.2.2.1).2.2.2.1, (rd_Key t4.1 t4.2.2.1).2.2.2.2, t4.2.2.2.1, t4.2.2.2.2.1, t4.2.2.2.2.2.1, t4.2.2.2.2.2.2.1, t4.2.2.2.2.2.2.2.1)) fun r3 => bif (!r3) then if (0 : Int) ≤ t4.2.2.1 then if t4.2.2.1 < ((List.length t4.1 : Nat) : Int) then if (List.length (t4.2.2.2.2.2.2.2.2 ++ ([(t4.2.2.2.1, t4.2.2.2.2.1, t4.2.2.2.2.2.1, t4.2.2.2.2.2.2.1, t4.2.2.2.2.2.2.2.1)] : List E_Key)) + List.length ([((rd_Key t4.1 t4.2.2.1).1, (rd_Key t4.1 t4.2.2.1).2.1, (rd_Key t4.1 t4.2.2.1).2.2.1, (rd_Key t4.1 t4.2.2.1).2.2.2.1, (rd_Key t4.1 t4.2.2.1).2.2.2.2)] : List E_Key)) * 40 < 140737488355328 then again (t4.1, true, (Go.IntKind.wrap .i64 (t4.2.2.1 + (1 : Int))), t4.2.2.2.1, t4.2.2.2.2.1, t4.2.2.2.2.2.1, t4.2.2.2.2.2.2.1, t4.2.2.2.2.2.2.2.1, ((t4.2.2.2.2.2.2.2.2 ++ ([(t4.2.2.2.1, t4.2.2.2.2.1, t4.2.2.2.2.2.1, t4.2.2.2.2.2.2.1, t4.2.2.2.2.2.2.2.1)] : List E_Key)) ++ ([((rd_Key t4.1 t4.2.2.1).1, (rd_Key t4.1 t4.2.2.1).2.1, (rd_Key t4.1 t4.2.2.1).2.2.1, (rd_Key t4.1 t4.2.2.1).2.2.2.1, (rd_Key t4.1 t4.2.2.1).2.2.2.2)] : List E_Key))) else none else none else none else again (t4.1, true, (Go.IntKind.wrap .i64 (t4.2.2.1 + (1 : Int))), t4.2.2.2.1, t4.2.2.2.2.1, t4.2.2.2.2.2.1, t4.2.2.2.2.2.2.1, t4.2.2.2.2.2.2.2.1, (t4.2.2.2.2.2.2.2.2 ++ ([(t4.2.2.2.1, t4.2.2.2.2.1, t4.2.2.2.2.2.1, t4.2.2.2.2.2.2.1, t4.2.2.2.2.2.2.2.1)] : List E_Key))) else none else none else none else if (0 : Int) ≤ t4.2.2.1 then if t4.2.2.1 < ((List.length t4.1 : Nat) : Int) then Option.bind (F_spec_SameSpot ((rd_Key t4.1 t4.2.2.1).1, (rd_Key t4.1 t4.2.2.1).2.1, (rd_Key t4.1 t4.2.2.1).2.2.1, (rd_Key t4.1 t4.2.2.1).2.2.2.1, (rd_Key t4.1 t4.2.2.1).2.2.2.2, t4.2.2.2.1, t4.2.2.2.2.1, t4.2.2.2.2.2.1, t4.2.2.2.2.2.2.1, t4.2.2.2.2.2.2.2.1)) fun r4 => bif (!r4) then if (0 : Int) ≤ t4.2.2.1 then if t4.2.2.1 < ((List.length t4.1 : Nat) : Int) then if (List.length t4.2.2.2.2.2.2.2.2 + List.length ([((rd_Key t4.1 t4.2.2.1).1, (rd_Key t4.1 t4.2.2.1).2.1, (rd_Key t4.1 t4.2.2.1).2.2.1, (rd_Key t4.1 t4.2.2.1).2.2.2.1, (rd_Key t4.1 t4.2.2.1).2.2.2.2)] : List E_Key)) * 40 < 140737488355328 then again (t4.1, t4.2.1, (Go.IntKind.wrap .i64 (t4.2.2.1 + (1 : Int))), t4.2.2.2.1, t4.2.2.2.2.1, t4.2.2.2.2.2.1, t4.2.2.2.2.2.2.1, t4.2.2.2.2.2.2.2.1, (t4.2.2.2.2.2.2.2.2 ++ ([((rd_Key t4.1 t4.2.2.1).1, (rd_Key t4.1 t4.2.2.1).2.1, (rd_Key t4.1 t4.2.2.1).2.2.1, (rd_Key t4.1 t4.2.2.1).2.2.2.1, (rd_Key t4.1 t4.2.2.1).2.2.2.2)] : List E_Key))) else none else none else none else again (t4.1, t4.2.1, (Go.IntKind.wrap .i64 (t4.2.2.1 + (1 : Int))), t4.2.2.2.1, t4.2.2.2.2.1, t4.2.2.2.2.2.1, t4.2.2.2.2.2.2.1, t4.2.2.2.2.2.2.2.1, t4.2.2.2.2.2.2.2.2) else none else none else k0 (t4.2.1, t4.2.2.2.1, t4.2.2.2.2.1, t4.2.2.2.2.2.1, t4.2.2.2.2.2.2.1, t4.2.2.2.2.2.2.2.1, t4.2.2.2.2.2.2.2.2)
noncomputable def L_spec_SetPut_4 {R : Type} (k0 : Qz18 → Option R) (t : T_spec_SetPut_4) : Option R := iter (S_spec_SetPut_4 k0) FUEL t
noncomputable def F_spec_SetPut (x : Qz19) : Option (List E_Key) :=
  L_spec_SetPut_4 (fun x5 => bif (!x5.1) then if (List.length x5.2.2.2.2.2.2 + List.length ([(x5.2.1, x5.2.2.1, x5.2.2.2.1, x5.2.2.2.2.1, x5.2.2.2.2.2.1)] : List E_Key)) * 40 < 140737488355328 then some (x5.2.2.2.2.2.2 ++ ([(x5.2.1, x5.2.2.1, x5.2.2.2.1, x5.2.2.2.2.1, x5.2.2.2.2.2.1)] : List E_Key)) else none else some x5.2.2.2.2.2.2) (x.1, false, (0 : Int), x.2.1, x.2.2.1, x.2.2.2.1, x.2.2.2.2.1, x.2.2.2.2.2, ([] : List E_Key))
noncomputable def f236Q : List QF := [q266, q267]
def f236e4_0 (t : Qz17) : St := ⟨v_Key t.1 :: dd 2 (.box 3 0 :: .dead :: .own 10000000 :: vB t.2.1 :: vI t.2.2.1 :: dd 43 []), [(3, .box [vI t.2.2.2.1, vI t.2.2.2.2.1, vI t.2.2.2.2.2.1, vI t.2.2.2.2.2.2.1, vI t.2.2.2.2.2.2.2.1]), (10000000, .root true 106 ts_Key t.2.2.2.2.2.2.2.2)]⟩
noncomputable def f236g4 : Gk T_spec_SetPut_4 := fun κ => S_spec_SetPut_4 (fun t => κ (some 0) ⟨dd 3 (.box 3 0 :: .dead :: .own 10000000 :: vB t.1 :: dd 44 []), [(3, .box [vI t.2.1, vI t.2.2.1, vI t.2.2.2.1, vI t.2.2.2.2.1, vI t.2.2.2.2.2.1]), (10000000, .root true 106 ts_Key t.2.2.2.2.2.2)]⟩)
noncomputable def f236P : Lp := lpC 4 (unG qz17 f236e4_0) @f236g4 lpN
theorem f236C4 : LF f236Q f236P 236 4 Tryz.f236 0 f236e4_0 @f236g4 fun t => t := fun R κ again t => by kernel_rfl
theorem f236k4 : LK f236Q f236P 236 Tryz.f236 0 := loop_okG (u := (unG qz17 f236e4_0)) (by kernel_rfl) (unG_ok fun t => by kernel_rfl) (fun R κ s => by kernel_rfl) f236C4
theorem ev236 : EV f236Q f236P 236 Tryz.f236 sg236 qz19 [(.sl 106 ts_Key)] F_spec_SetPut := fun x => by kernel_rfl
noncomputable def q236 : QF := ⟨236, F_spec_SetPut, okN (n := 1) Tryz.func236 (by kernel_rfl) (by kernel_rfl) ⟨f236k4, trivial⟩ ev236⟩
abbrev T_spec_MergeSets_3 : Type := Qz15
noncomputable def S_spec_MergeSets_3 {R : Type} (k0 : List E_Key → Option R) (again : T_spec_MergeSets_3 → Option R) (t3 : T_spec_MergeSets_3) : Option R :=
  bif (decide (t3.2.1 < ((List.length t3.1 : Nat) : Int))) then if (0 : Int) ≤ t3.2.1 then if t3.2.1 < ((List.length t3.1 : Nat) : Int) then Option.bind (F_spec_SetPut (t3.2.2, (rd_Key t3.1 t3.2.1).1, (rd_Key t3.1 t3.2.1).2.1, (rd_Key t3.1 t3.2.1).2.2.1, (rd_Key t3.1 t3.2.1).2.2.2.1, (rd_Key t3.1 t3.2.1).2.2.2.2)) fun r1 => again (t3.1, (Go.IntKind.wrap .i64 (t3.2.1 + (1 : Int))), r1) else none else none else k0 t3.2.2
noncomputable def L_spec_MergeSets_3 {R : Type} (k0 : List E_Key → Option R) (t : T_spec_MergeSets_3) : Option R := iter (S_spec_MergeSets_3 k0) FUEL t
noncomputable def F_spec_MergeSets (x : Qz20) : Option (List E_Key) :=
  if (List.length ([] : List E_Key) + List.length x.1) * 40 < 140737488355328 then L_spec_MergeSets_3 (fun x2 => some x2) (x.2, (0 : Int), (([] : List E_Key) ++ x.1)) else none
noncomputable def f261Q : List QF := [q236]
def f261e3_0 (t : Qz15) : St := ⟨.dead :: v_Key t.1 :: dd 3 (.own 10000000 :: vI t.2.1 :: dd 16 []), [(10000000, .root true 106 ts_Key t.2.2)]⟩
noncomputable def f261g3 : Gk T_spec_MergeSets_3 := fun κ => S_spec_MergeSets_3 (fun t => κ (some 0) ⟨dd 5 (.own 10000000 :: dd 17 []), [(10000000, .root true 106 ts_Key t)]⟩)
noncomputable def f261P : Lp := lpC 3 (unG qz15 f261e3_0) @f261g3 lpN
theorem f261C3 : LF f261Q f261P 261 3 Tryz.f261 0 f261e3_0 @f261g3 fun t => t := fun R κ again t => by kernel_rfl
theorem f261k3 : LK f261Q f261P 261 Tryz.f261 0 := loop_okG (u := (unG qz15 f261e3_0)) (by kernel_rfl) (unG_ok fun t => by kernel_rfl) (fun R κ s => by kernel_rfl) f261C3
theorem ev261 : EV f261Q f261P 261 Tryz.f261 sg261 qz20 [(.sl 106 ts_Key)] F_spec_MergeSets := fun x => by kernel_rfl
noncomputable def q261 : QF := ⟨261, F_spec_MergeSets, okN (n := 1) Tryz.func261 (by kernel_rfl) (by kernel_rfl) ⟨f261k3, trivial⟩ ev261⟩
abbrev T_spec_NodeKeys_3 : Type := Qz21
noncomputable def S_spec_NodeKeys_3 {R : Type} (k0 : List E_Key → Option R) (again : T_spec_NodeKeys_3 → Option R) (t3 : T_spec_NodeKeys_3) : Option R :=
  bif (decide (t3.1 < ((List.length t3.2.1 : Nat) : Int))) then if (0 : Int) ≤ t3.1 then if t3.1 < ((List.length t3.2.1 : Nat) : Int) then Option.bind (F_spec_MergeSets (t3.2.2, (rd_s_Key t3.2.1 t3.1))) fun r1 => again ((Go.IntKind.wrap .i64 (t3.1 + (1 : Int))), t3.2.1, r1) else none else none else k0 t3.2.2
noncomputable def L_spec_NodeKeys_3 {R : Type} (k0 : List E_Key → Option R) (t : T_spec_NodeKeys_3) : Option R := iter (S_spec_NodeKeys_3 k0) FUEL t
noncomputable def F_spec_NodeKeys (x : List E_s_Key) : Option (List E_Key) :=
  L_spec_NodeKeys_3 (fun x2 => Option.bind (F_spec_Drop x2) fun r3 => some r3) ((0 : Int), x, ([] : List E_Key))
noncomputable def f230Q : List QF := [q235, q261]
def f230e3_0 (t : Qz21) : St := ⟨.dead :: .box 1 0 :: .dead :: .own 10000000 :: vI t.1 :: dd 17 [], [(1, .box [v_s_Key t.2.1]), (10000000, .root true 106 ts_Key t.2.2)]⟩
noncomputable def f230g3 : Gk T_spec_NodeKeys_3 := fun κ => S_spec_NodeKeys_3 (fun t => κ (some 0) ⟨dd 3 (.own 10000000 :: dd 18 []), [(10000000, .root true 106 ts_Key t)]⟩)
noncomputable def f230P : Lp := lpC 3 (unG qz21 f230e3_0) @f230g3 lpN
theorem f230C3 : LF f230Q f230P 230 3 Tryz.f230 0 f230e3_0 @f230g3 fun t => t := fun R κ again t => by kernel_rfl
theorem f230k3 : LK f230Q f230P 230 Tryz.f230 0 := loop_okG (u := (unG qz21 f230e3_0)) (by kernel_rfl) (unG_ok fun t => by kernel_rfl) (fun R κ s => by kernel_rfl) f230C3
theorem ev230 : EV f230Q f230P 230 Tryz.f230 sg230 [(.sl 100 ts_s_Key)] [(.sl 106 ts_Key)] F_spec_NodeKeys := fun x => by kernel_rfl
noncomputable def q230 : QF := ⟨230, F_spec_NodeKeys, okN (n := 1) Tryz.func230 (by kernel_rfl) (by kernel_rfl) ⟨f230k3, trivial⟩ ev230⟩
abbrev T_spec_TreeKeys_3 : Type := Qz22
noncomputable def S_spec_TreeKeys_3 {R : Type} (k0 : List E_Key → Option R) (again : T_spec_TreeKeys_3 → Option R) (t3 : T_spec_TreeKeys_3) : Option R :=
  bif (decide (t3.1 < ((List.length t3.2.2.1 : Nat) : Int))) then if (0 : Int) ≤ t3.1 then if t3.1 < ((List.length t3.2.2.1 : Nat) : Int) then Option.bind (F_spec_NodeKeys (rd_Node t3.2.2.1 t3.1)) fun r1 => if (List.length t3.2.2.2 + List.length r1) * 40 < 140737488355328 then again ((Go.IntKind.wrap .i64 (t3.1 + (1 : Int))), t3.2.1, t3.2.2.1, (t3.2.2.2 ++ r1)) else none else none else none else k0 t3.2.2.2
noncomputable def L_spec_TreeKeys_3 {R : Type} (k0 : List E_Key → Option R) (t : T_spec_TreeKeys_3) : Option R := iter (S_spec_TreeKeys_3 k0) FUEL t
noncomputable def F_spec_TreeKeys (x : Qz23) : Option (List E_Key) :=
  L_spec_TreeKeys_3 (fun x2 => some x2) ((0 : Int), x.1, x.2, ([] : List E_Key))
noncomputable def f188Q : List QF := [q230]
def f188e3_0 (t : Qz22) : St := ⟨.dead :: .box 1 0 :: .dead :: .own 10000000 :: vI t.1 :: dd 17 [], [(1, .box [v_i64 t.2.1, v_Node t.2.2.1]), (10000000, .root true 106 ts_Key t.2.2.2)]⟩
noncomputable def f188g3 : Gk T_spec_TreeKeys_3 := fun κ => S_spec_TreeKeys_3 (fun t => κ (some 0) ⟨dd 3 (.own 10000000 :: dd 18 []), [(10000000, .root true 106 ts_Key t)]⟩)
noncomputable def f188P : Lp := lpC 3 (unG qz22 f188e3_0) @f188g3 lpN
theorem f188C3 : LF f188Q f188P 188 3 Tryz.f188 0 f188e3_0 @f188g3 fun t => t := fun R κ again t => by kernel_rfl
theorem f188k3 : LK f188Q f188P 188 Tryz.f188 0 := loop_okG (u := (unG qz22 f188e3_0)) (by kernel_rfl) (unG_ok fun t => by kernel_rfl) (fun R κ s => by kernel_rfl) f188C3
theorem ev188 : EV f188Q f188P 188 Tryz.f188 sg188 qz23 [(.sl 106 ts_Key)] F_spec_TreeKeys := fun x => by kernel_rfl
noncomputable def q188 : QF := ⟨188, F_spec_TreeKeys, okN (n := 1) Tryz.func188 (by kernel_rfl) (by kernel_rfl) ⟨f188k3, trivial⟩ ev188⟩
noncomputable def F_spec_SpotOf (x : Qz3) : Option Int :=
  some (Go.IntKind.wrap .i64 ((Go.IntKind.wrap .i64 ((64 : Int) * x.1)) + x.2))
theorem ev264 : EV [] lpN 264 Tryz.f264 sg264 qz3 [(.int .i64)] F_spec_SpotOf := fun x => by kernel_rfl
noncomputable def q264 : QF := ⟨264, F_spec_SpotOf, okN (n := 0) Tryz.func264 (by kernel_rfl) (by kernel_rfl) trivial ev264⟩
noncomputable def F_spec_l6Spot (x : Qz24) : Option Int :=
  Option.bind (F_spec_SpotOf (x.1, x.2.1)) fun r1 => some r1
theorem ev237 : EV [q264] lpN 237 Tryz.f237 sg237 qz24 [(.int .i64)] F_spec_l6Spot := fun x => by kernel_rfl
noncomputable def q237 : QF := ⟨237, F_spec_l6Spot, okN (n := 0) Tryz.func237 (by kernel_rfl) (by kernel_rfl) trivial ev237⟩
noncomputable def F_spec_KeyOk (x : Qz24) : Option Bool :=
  Option.bind (F_spec_l1In (x.1, (0 : Int), (15 : Int))) fun r1 => Option.bind (bif (!r1) then some true else Option.bind (F_spec_l1In (x.2.1, (1 : Int), (60 : Int))) fun r3 => some (!r3)) fun u2 => Option.bind (bif u2 then some true else Option.bind (F_spec_l1In (x.2.2.1, (0 : Int), (2 : Int))) fun r5 => some (!r5)) fun u4 => bif u4 then some false else bif (x.2.2.1 == (1 : Int)) then Option.bind (F_spec_l1In (x.2.2.2.1, (0 : Int), (23 : Int))) fun r6 => Option.bind (bif r6 then Option.bind (F_spec_l1In (x.2.2.2.2, (0 : Int), (999 : Int))) fun r8 => some r8 else some false) fun u7 => some u7 else Option.bind (bif (x.2.2.2.1 == (0 : Int)) then some (x.2.2.2.2 == (0 : Int)) else some false) fun u9 => some u9
theorem ev202 : EV [q107] lpN 202 Tryz.f202 sg202 qz24 [.bool] F_spec_KeyOk := fun x => by kernel_rfl
noncomputable def q202 : QF := ⟨202, F_spec_KeyOk, okN (n := 0) Tryz.func202 (by kernel_rfl) (by kernel_rfl) trivial ev202⟩
abbrev T_spec_l4Rises_2 : Type := Qz25
noncomputable def S_spec_l4Rises_2 {R : Type} (k0 : Bool → Option R) (k1 : Unit → Option R) (again : T_spec_l4Rises_2 → Option R) (t2 : T_spec_l4Rises_2) : Option R :=
  bif (decide (t2.2 < ((List.length t2.1 : Nat) : Int))) then if (0 : Int) ≤ (Go.IntKind.wrap .i64 (t2.2 - (1 : Int))) then if (Go.IntKind.wrap .i64 (t2.2 - (1 : Int))) < ((List.length t2.1 : Nat) : Int) then if (0 : Int) ≤ t2.2 then if t2.2 < ((List.length t2.1 : Nat) : Int) then Option.bind (F_spec_LessKey ((rd_Key t2.1 (Go.IntKind.wrap .i64 (t2.2 - (1 : Int)))).1, (rd_Key t2.1 (Go.IntKind.wrap .i64 (t2.2 - (1 : Int)))).2.1, (rd_Key t2.1 (Go.IntKind.wrap .i64 (t2.2 - (1 : Int)))).2.2.1, (rd_Key t2.1 (Go.IntKind.wrap .i64 (t2.2 - (1 : Int)))).2.2.2.1, (rd_Key t2.1 (Go.IntKind.wrap .i64 (t2.2 - (1 : Int)))).2.2.2.2, (rd_Key t2.1 t2.2).1, (rd_Key t2.1 t2.2).2.1, (rd_Key t2.1 t2.2).2.2.1, (rd_Key t2.1 t2.2).2.2.2.1, (rd_Key t2.1 t2.2).2.2.2.2)) fun r1 => bif (!r1) then k0 false else again (t2.1, (Go.IntKind.wrap .i64 (t2.2 + (1 : Int)))) else none else none else none else none else k1 ()
noncomputable def L_spec_l4Rises_2 {R : Type} (k0 : Bool → Option R) (k1 : Unit → Option R) (t : T_spec_l4Rises_2) : Option R := iter (S_spec_l4Rises_2 k0 k1) FUEL t
noncomputable def F_spec_l4Rises (x : List E_Key) : Option Bool :=
  L_spec_l4Rises_2 (fun x2 => some x2) (fun x3 => some true) (x, (1 : Int))
noncomputable def f300Q : List QF := [q266]
def f300e2_0 (t : Qz25) : St := ⟨v_Key t.1 :: dd 2 (vI t.2 :: dd 17 []), []⟩
noncomputable def f300g2 : Gk T_spec_l4Rises_2 := fun κ => S_spec_l4Rises_2 (fun t => κ none ⟨dd 2 (vB t :: dd 18 []), []⟩) (fun t => κ (some 0) ⟨dd 21 [], []⟩)
noncomputable def f300P : Lp := lpC 2 (unG qz25 f300e2_0) @f300g2 lpN
theorem f300C2 : LF f300Q f300P 300 2 Tryz.f300 0 f300e2_0 @f300g2 fun t => t := fun R κ again t => by kernel_rfl
theorem f300k2 : LK f300Q f300P 300 Tryz.f300 0 := loop_okG (u := (unG qz25 f300e2_0)) (by kernel_rfl) (unG_ok fun t => by kernel_rfl) (fun R κ s => by kernel_rfl) f300C2
theorem ev300 : EV f300Q f300P 300 Tryz.f300 sg300 [(.sl 106 ts_Key)] [.bool] F_spec_l4Rises := fun x => by kernel_rfl
noncomputable def q300 : QF := ⟨300, F_spec_l4Rises, okN (n := 1) Tryz.func300 (by kernel_rfl) (by kernel_rfl) ⟨f300k2, trivial⟩ ev300⟩
abbrev T_spec_SetOk_2 : Type := Qz25
noncomputable def S_spec_SetOk_2 {R : Type} (k0 : Qz26 → Option R) (k1 : List E_Key → Option R) (again : T_spec_SetOk_2 → Option R) (t2 : T_spec_SetOk_2) : Option R :=
  bif (decide (t2.2 < ((List.length t2.1 : Nat) : Int))) then if (0 : Int) ≤ t2.2 then if t2.2 < ((List.length t2.1 : Nat) : Int) then Option.bind (F_spec_KeyOk ((rd_Key t2.1 t2.2).1, (rd_Key t2.1 t2.2).2.1, (rd_Key t2.1 t2.2).2.2.1, (rd_Key t2.1 t2.2).2.2.2.1, (rd_Key t2.1 t2.2).2.2.2.2)) fun r1 => bif (!r1) then k0 (t2.1, false) else again (t2.1, (Go.IntKind.wrap .i64 (t2.2 + (1 : Int)))) else none else none else k1 t2.1
noncomputable def L_spec_SetOk_2 {R : Type} (k0 : Qz26 → Option R) (k1 : List E_Key → Option R) (t : T_spec_SetOk_2) : Option R := iter (S_spec_SetOk_2 k0 k1) FUEL t
noncomputable def F_spec_SetOk (x : List E_Key) : Option Bool :=
  L_spec_SetOk_2 (fun x2 => some x2.2) (fun x3 => Option.bind (F_spec_l4Rises x3) fun r4 => Option.bind (bif r4 then some (decide (((List.length x3 : Nat) : Int) ≤ (60 : Int))) else some false) fun u5 => some u5) (x, (0 : Int))
noncomputable def f276Q : List QF := [q202, q300]
def f276e2_0 (t : Qz25) : St := ⟨v_Key t.1 :: dd 2 (vI t.2 :: dd 19 []), []⟩
noncomputable def f276g2 : Gk T_spec_SetOk_2 := fun κ => S_spec_SetOk_2 (fun t => κ none ⟨v_Key t.1 :: .dead :: vB t.2 :: dd 20 [], []⟩) (fun t => κ (some 0) ⟨v_Key t :: dd 22 [], []⟩)
noncomputable def f276P : Lp := lpC 2 (unG qz25 f276e2_0) @f276g2 lpN
theorem f276C2 : LF f276Q f276P 276 2 Tryz.f276 0 f276e2_0 @f276g2 fun t => t := fun R κ again t => by kernel_rfl
theorem f276k2 : LK f276Q f276P 276 Tryz.f276 0 := loop_okG (u := (unG qz25 f276e2_0)) (by kernel_rfl) (unG_ok fun t => by kernel_rfl) (fun R κ s => by kernel_rfl) f276C2
theorem ev276 : EV f276Q f276P 276 Tryz.f276 sg276 [(.sl 106 ts_Key)] [.bool] F_spec_SetOk := fun x => by kernel_rfl
noncomputable def q276 : QF := ⟨276, F_spec_SetOk, okN (n := 1) Tryz.func276 (by kernel_rfl) (by kernel_rfl) ⟨f276k2, trivial⟩ ev276⟩
abbrev T_spec_l5Count_3 : Type := Qz27
noncomputable def S_spec_l5Count_3 {R : Type} (k0 : Int → Option R) (again : T_spec_l5Count_3 → Option R) (t3 : T_spec_l5Count_3) : Option R :=
  bif (decide (t3.2.1 < ((List.length t3.2.2 : Nat) : Int))) then if (0 : Int) ≤ t3.2.1 then if t3.2.1 < ((List.length t3.2.2 : Nat) : Int) then again ((Go.IntKind.wrap .i64 (t3.1 + ((List.length (rd_s_Key t3.2.2 t3.2.1) : Nat) : Int))), (Go.IntKind.wrap .i64 (t3.2.1 + (1 : Int))), t3.2.2) else none else none else k0 t3.1
noncomputable def L_spec_l5Count_3 {R : Type} (k0 : Int → Option R) (t : T_spec_l5Count_3) : Option R := iter (S_spec_l5Count_3 k0) FUEL t
noncomputable def F_spec_l5Count (x : List E_s_Key) : Option Int :=
  L_spec_l5Count_3 (fun x1 => some x1) ((0 : Int), (0 : Int), x)
noncomputable def f277Q : List QF := []
def f277e3_0 (t : Qz27) : St := ⟨.dead :: .box 1 0 :: .dead :: vI t.1 :: vI t.2.1 :: dd 16 [], [(1, .box [v_s_Key t.2.2])]⟩
noncomputable def f277g3 : Gk T_spec_l5Count_3 := fun κ => S_spec_l5Count_3 (fun t => κ (some 0) ⟨dd 3 (vI t :: dd 17 []), []⟩)
noncomputable def f277P : Lp := lpC 3 (unG qz27 f277e3_0) @f277g3 lpN
theorem f277C3 : LF f277Q f277P 277 3 Tryz.f277 0 f277e3_0 @f277g3 fun t => t := fun R κ again t => by kernel_rfl
theorem f277k3 : LK f277Q f277P 277 Tryz.f277 0 := loop_okG (u := (unG qz27 f277e3_0)) (by kernel_rfl) (unG_ok fun t => by kernel_rfl) (fun R κ s => by kernel_rfl) f277C3
theorem ev277 : EV f277Q f277P 277 Tryz.f277 sg277 [(.sl 100 ts_s_Key)] [(.int .i64)] F_spec_l5Count := fun x => by kernel_rfl
noncomputable def q277 : QF := ⟨277, F_spec_l5Count, okN (n := 1) Tryz.func277 (by kernel_rfl) (by kernel_rfl) ⟨f277k3, trivial⟩ ev277⟩
abbrev T_spec_NodeOk_2 : Type := Qz28
noncomputable def S_spec_NodeOk_2 {R : Type} (k0 : Qz29 → Option R) (k1 : List E_s_Key → Option R) (again : T_spec_NodeOk_2 → Option R) (t2 : T_spec_NodeOk_2) : Option R :=
  bif (decide (t2.1 < ((List.length t2.2 : Nat) : Int))) then if (0 : Int) ≤ t2.1 then if t2.1 < ((List.length t2.2 : Nat) : Int) then Option.bind (F_spec_SetOk (rd_s_Key t2.2 t2.1)) fun r1 => Option.bind (bif (!r1) then some true else if (0 : Int) ≤ t2.1 then if t2.1 < ((List.length t2.2 : Nat) : Int) then some (((List.length (rd_s_Key t2.2 t2.1) : Nat) : Int) == (0 : Int)) else none else none) fun u2 => bif u2 then k0 (false, t2.2) else again ((Go.IntKind.wrap .i64 (t2.1 + (1 : Int))), t2.2) else none else none else k1 t2.2
noncomputable def L_spec_NodeOk_2 {R : Type} (k0 : Qz29 → Option R) (k1 : List E_s_Key → Option R) (t : T_spec_NodeOk_2) : Option R := iter (S_spec_NodeOk_2 k0 k1) FUEL t
noncomputable def F_spec_NodeOk (x : List E_s_Key) : Option Bool :=
  L_spec_NodeOk_2 (fun x3 => some x3.1) (fun x4 => Option.bind (bif (decide (((List.length x4 : Nat) : Int) ≤ (3 : Int))) then Option.bind (F_spec_l5Count x4) fun r6 => some (decide (r6 ≤ (8 : Int))) else some false) fun u5 => some u5) ((0 : Int), x)
noncomputable def f244Q : List QF := [q276, q277]
def f244e2_0 (t : Qz28) : St := ⟨.dead :: .box 1 0 :: .dead :: vI t.1 :: dd 32 [], [(1, .box [v_s_Key t.2])]⟩
noncomputable def f244g2 : Gk T_spec_NodeOk_2 := fun κ => S_spec_NodeOk_2 (fun t => κ none ⟨.dead :: .box 1 0 :: vB t.1 :: dd 33 [], [(1, .box [v_s_Key t.2])]⟩) (fun t => κ (some 0) ⟨.dead :: .box 1 0 :: dd 34 [], [(1, .box [v_s_Key t])]⟩)
noncomputable def f244P : Lp := lpC 2 (unG qz28 f244e2_0) @f244g2 lpN
theorem f244C2 : LF f244Q f244P 244 2 Tryz.f244 0 f244e2_0 @f244g2 fun t => t := fun R κ again t => by kernel_rfl
theorem f244k2 : LK f244Q f244P 244 Tryz.f244 0 := loop_okG (u := (unG qz28 f244e2_0)) (by kernel_rfl) (unG_ok fun t => by kernel_rfl) (fun R κ s => by kernel_rfl) f244C2
theorem ev244 : EV f244Q f244P 244 Tryz.f244 sg244 [(.sl 100 ts_s_Key)] [.bool] F_spec_NodeOk := fun x => by kernel_rfl
noncomputable def q244 : QF := ⟨244, F_spec_NodeOk, okN (n := 1) Tryz.func244 (by kernel_rfl) (by kernel_rfl) ⟨f244k2, trivial⟩ ev244⟩
abbrev T_spec_l6Node_8 : Type := Qz30
noncomputable def S_spec_l6Node_8 {R : Type} (k0 : Qz31 → Option R) (k1 : Qz32 → Option R) (again : T_spec_l6Node_8 → Option R) (t8 : T_spec_l6Node_8) : Option R :=
  if (0 : Int) ≤ t8.2.1 then if t8.2.1 < ((List.length t8.2.2.2.2.2 : Nat) : Int) then bif (decide (t8.2.2.1 < ((List.length (rd_s_Key t8.2.2.2.2.2 t8.2.1) : Nat) : Int))) then if (0 : Int) ≤ t8.2.1 then if t8.2.1 < ((List.length t8.2.2.2.2.2 : Nat) : Int) then if (0 : Int) ≤ t8.2.2.1 then if t8.2.2.1 < ((List.length (rd_s_Key t8.2.2.2.2.2 t8.2.1) : Nat) : Int) then Option.bind (F_spec_l6Spot ((rd_Key (rd_s_Key t8.2.2.2.2.2 t8.2.1) t8.2.2.1).1, (rd_Key (rd_s_Key t8.2.2.2.2.2 t8.2.1) t8.2.2.1).2.1, (rd_Key (rd_s_Key t8.2.2.2.2.2 t8.2.1) t8.2.2.1).2.2.1, (rd_Key (rd_s_Key t8.2.2.2.2.2 t8.2.1) t8.2.2.1).2.2.2.1, (rd_Key (rd_s_Key t8.2.2.2.2.2 t8.2.1) t8.2.2.1).2.2.2.2)) fun r5 => if (0 : Int) ≤ t8.1 then if t8.1 < ((List.length t8.2.2.2.1 : Nat) : Int) then Option.bind (bif (decide (r5 < (rd_i64 t8.2.2.2.1 t8.1))) then some true else Option.bind (bif (decide ((Go.IntKind.wrap .i64 (t8.1 + (1 : Int))) < ((List.length t8.2.2.2.1 : Nat) : Int))) then if (0 : Int) ≤ (Go.IntKind.wrap .i64 (t8.1 + (1 : Int))) then if (Go.IntKind.wrap .i64 (t8.1 + (1 : Int))) < ((List.length t8.2.2.2.1 : Nat) : Int) then some (decide (r5 ≥ (rd_i64 t8.2.2.2.1 (Go.IntKind.wrap .i64 (t8.1 + (1 : Int)))))) else none else none else some false) fun u7 => some u7) fun u6 => bif u6 then k0 (t8.1, false, t8.2.1, t8.2.2.2.1, t8.2.2.2.2.1, t8.2.2.2.2.2) else again (t8.1, t8.2.1, (Go.IntKind.wrap .i64 (t8.2.2.1 + (1 : Int))), t8.2.2.2.1, t8.2.2.2.2.1, t8.2.2.2.2.2) else none else none else none else none else none else none else k1 (t8.1, t8.2.1, t8.2.2.2.1, t8.2.2.2.2.1, t8.2.2.2.2.2) else none else none
noncomputable def L_spec_l6Node_8 {R : Type} (k0 : Qz31 → Option R) (k1 : Qz32 → Option R) (t : T_spec_l6Node_8) : Option R := iter (S_spec_l6Node_8 k0 k1) FUEL t
abbrev T_spec_l6Node_5 : Type := Qz32
noncomputable def S_spec_l6Node_5 {R : Type} (k0 : Bool → Option R) (k1 : Unit → Option R) (again : T_spec_l6Node_5 → Option R) (t5 : T_spec_l6Node_5) : Option R :=
  bif (decide (t5.2.1 < ((List.length t5.2.2.2.2 : Nat) : Int))) then L_spec_l6Node_8 (fun x8 => k0 x8.2.1) (fun x9 => again (x9.1, (Go.IntKind.wrap .i64 (x9.2.1 + (1 : Int))), x9.2.2.1, x9.2.2.2.1, x9.2.2.2.2)) (t5.1, t5.2.1, (0 : Int), t5.2.2.1, t5.2.2.2.1, t5.2.2.2.2) else k1 ()
noncomputable def L_spec_l6Node_5 {R : Type} (k0 : Bool → Option R) (k1 : Unit → Option R) (t : T_spec_l6Node_5) : Option R := iter (S_spec_l6Node_5 k0 k1) FUEL t
noncomputable def F_spec_l6Node (x : Qz33) : Option Bool :=
  if (0 : Int) ≤ x.2.2 then if x.2.2 < ((List.length x.2.1 : Nat) : Int) then Option.bind (F_spec_NodeOk (rd_Node x.2.1 x.2.2)) fun r1 => Option.bind (bif (!r1) then some true else Option.bind (bif (decide (x.2.2 > (0 : Int))) then Option.bind (F_spec_NodeKeys (rd_Node x.2.1 x.2.2)) fun r4 => some (((List.length r4 : Nat) : Int) == (0 : Int)) else some false) fun u3 => some u3) fun u2 => bif u2 then some false else L_spec_l6Node_5 (fun x10 => some x10) (fun x11 => some true) (x.2.2, (0 : Int), x.1, x.2.1, (rd_Node x.2.1 x.2.2)) else none else none
noncomputable def f195Q : List QF := [q230, q237, q244]
def f195e8_0 (t : Qz30) : St := ⟨.dead :: vI t.1 :: .box 2 0 :: dd 2 (.box 5 0 :: vI t.2.1 :: vI t.2.2.1 :: dd 70 []), [(2, .box [v_i64 t.2.2.2.1, v_Node t.2.2.2.2.1]), (5, .box [v_s_Key t.2.2.2.2.2])]⟩
noncomputable def f195g8 : Gk T_spec_l6Node_8 := fun κ => S_spec_l6Node_8 (fun t => κ none ⟨.dead :: vI t.1 :: .box 2 0 :: .dead :: vB t.2.1 :: .box 5 0 :: vI t.2.2.1 :: dd 71 [], [(2, .box [v_i64 t.2.2.2.1, v_Node t.2.2.2.2.1]), (5, .box [v_s_Key t.2.2.2.2.2])]⟩) (fun t => κ (some 2) ⟨.dead :: vI t.1 :: .box 2 0 :: dd 2 (.box 5 0 :: vI t.2.1 :: dd 71 []), [(2, .box [v_i64 t.2.2.1, v_Node t.2.2.2.1]), (5, .box [v_s_Key t.2.2.2.2])]⟩)
def f195e5_0 (t : Qz32) : St := ⟨.dead :: vI t.1 :: .box 2 0 :: dd 2 (.box 5 0 :: vI t.2.1 :: dd 71 []), [(2, .box [v_i64 t.2.2.1, v_Node t.2.2.2.1]), (5, .box [v_s_Key t.2.2.2.2])]⟩
noncomputable def f195g5 : Gk T_spec_l6Node_5 := fun κ => S_spec_l6Node_5 (fun t => κ none ⟨dd 4 (vB t :: dd 73 []), []⟩) (fun t => κ (some 0) ⟨dd 78 [], []⟩)
noncomputable def f195P : Lp := lpC 5 (unG qz32 f195e5_0) @f195g5 (lpC 8 (unG qz30 f195e8_0) @f195g8 lpN)
theorem f195C8 : LF f195Q f195P 195 8 Tryz.f195 1 f195e8_0 @f195g8 fun t => t := fun R κ again t => by kernel_rfl
theorem f195k8 : LK f195Q f195P 195 Tryz.f195 1 := loop_okG (u := (unG qz30 f195e8_0)) (by kernel_rfl) (unG_ok fun t => by kernel_rfl) (fun R κ s => by kernel_rfl) f195C8
theorem f195C5 : LF f195Q f195P 195 5 Tryz.f195 0 f195e5_0 @f195g5 fun t => t := fun R κ again t => by kernel_rfl
theorem f195k5 : LK f195Q f195P 195 Tryz.f195 0 := loop_okG (u := (unG qz32 f195e5_0)) (by kernel_rfl) (unG_ok fun t => by kernel_rfl) (fun R κ s => by kernel_rfl) f195C5
theorem ev195 : EV f195Q f195P 195 Tryz.f195 sg195 qz33 [.bool] F_spec_l6Node := fun x => by kernel_rfl
noncomputable def q195 : QF := ⟨195, F_spec_l6Node, okN (n := 2) Tryz.func195 (by kernel_rfl) (by kernel_rfl) ⟨f195k5, f195k8, trivial⟩ ev195⟩
abbrev T_spec_TreeOk_4 : Type := Qz34
noncomputable def S_spec_TreeOk_4 {R : Type} (k0 : Qz35 → Option R) (k1 : Qz23 → Option R) (again : T_spec_TreeOk_4 → Option R) (t4 : T_spec_TreeOk_4) : Option R :=
  bif (decide (t4.1 < ((List.length t4.2.2 : Nat) : Int))) then Option.bind (bif (decide (t4.1 > (0 : Int))) then if (0 : Int) ≤ (Go.IntKind.wrap .i64 (t4.1 - (1 : Int))) then if (Go.IntKind.wrap .i64 (t4.1 - (1 : Int))) < ((List.length t4.2.1 : Nat) : Int) then if (0 : Int) ≤ t4.1 then if t4.1 < ((List.length t4.2.1 : Nat) : Int) then some (decide ((rd_i64 t4.2.1 (Go.IntKind.wrap .i64 (t4.1 - (1 : Int)))) ≥ (rd_i64 t4.2.1 t4.1))) else none else none else none else none else some false) fun u4 => Option.bind (bif u4 then some true else Option.bind (F_spec_l6Node (t4.2.1, t4.2.2, t4.1)) fun r6 => some (!r6)) fun u5 => bif u5 then k0 (false, t4.2.1, t4.2.2) else again ((Go.IntKind.wrap .i64 (t4.1 + (1 : Int))), t4.2.1, t4.2.2) else k1 (t4.2.1, t4.2.2)
noncomputable def L_spec_TreeOk_4 {R : Type} (k0 : Qz35 → Option R) (k1 : Qz23 → Option R) (t : T_spec_TreeOk_4) : Option R := iter (S_spec_TreeOk_4 k0 k1) FUEL t
noncomputable def F_spec_TreeOk (x : Qz23) : Option Bool :=
  Option.bind (F_spec_l1In (((List.length x.2 : Nat) : Int), (1 : Int), (20 : Int))) fun r1 => Option.bind (bif (!r1) then some true else some (((List.length x.1 : Nat) : Int) != ((List.length x.2 : Nat) : Int))) fun u2 => Option.bind (bif u2 then some true else if (0 : Int) ≤ (0 : Int) then if (0 : Int) < ((List.length x.1 : Nat) : Int) then some ((rd_i64 x.1 (0 : Int)) != (0 : Int)) else none else none) fun u3 => bif u3 then some false else L_spec_TreeOk_4 (fun x7 => some x7.1) (fun x8 => Option.bind (F_spec_TreeKeys (x8.1, x8.2)) fun r9 => some (decide (((List.length r9 : Nat) : Int) ≤ (60 : Int)))) ((0 : Int), x.1, x.2)
noncomputable def f120Q : List QF := [q107, q188, q195]
def f120e4_0 (t : Qz34) : St := ⟨.dead :: .box 1 0 :: .dead :: vI t.1 :: dd 54 [], [(1, .box [v_i64 t.2.1, v_Node t.2.2])]⟩
noncomputable def f120g4 : Gk T_spec_TreeOk_4 := fun κ => S_spec_TreeOk_4 (fun t => κ none ⟨.dead :: .box 1 0 :: vB t.1 :: dd 55 [], [(1, .box [v_i64 t.2.1, v_Node t.2.2])]⟩) (fun t => κ (some 0) ⟨.dead :: .box 1 0 :: dd 56 [], [(1, .box [v_i64 t.1, v_Node t.2])]⟩)
noncomputable def f120P : Lp := lpC 4 (unG qz34 f120e4_0) @f120g4 lpN
theorem f120C4 : LF f120Q f120P 120 4 Tryz.f120 0 f120e4_0 @f120g4 fun t => t := fun R κ again t => by kernel_rfl
theorem f120k4 : LK f120Q f120P 120 Tryz.f120 0 := loop_okG (u := (unG qz34 f120e4_0)) (by kernel_rfl) (unG_ok fun t => by kernel_rfl) (fun R κ s => by kernel_rfl) f120C4
theorem ev120 : EV f120Q f120P 120 Tryz.f120 sg120 qz23 [.bool] F_spec_TreeOk := fun x => by kernel_rfl
noncomputable def q120 : QF := ⟨120, F_spec_TreeOk, okN (n := 1) Tryz.func120 (by kernel_rfl) (by kernel_rfl) ⟨f120k4, trivial⟩ ev120⟩
abbrev T_spec_AgeAt_2 : Type := Qz36
noncomputable def S_spec_AgeAt_2 {R : Type} (k0 : Int → Option R) (k1 : Unit → Option R) (again : T_spec_AgeAt_2 → Option R) (t2 : T_spec_AgeAt_2) : Option R :=
  bif (decide (t2.2.2 < ((List.length t2.1 : Nat) : Int))) then if (0 : Int) ≤ t2.2.2 then if t2.2.2 < ((List.length t2.1 : Nat) : Int) then bif ((rd_Age t2.1 t2.2.2).1 == t2.2.1) then k0 t2.2.2 else again (t2.1, t2.2.1, (Go.IntKind.wrap .i64 (t2.2.2 + (1 : Int)))) else none else none else k1 ()
noncomputable def L_spec_AgeAt_2 {R : Type} (k0 : Int → Option R) (k1 : Unit → Option R) (t : T_spec_AgeAt_2) : Option R := iter (S_spec_AgeAt_2 k0 k1) FUEL t
noncomputable def F_spec_AgeAt (x : Qz37) : Option Int :=
  L_spec_AgeAt_2 (fun x1 => some x1) (fun x2 => some (-1 : Int)) (x.1, x.2, (0 : Int))
noncomputable def f196Q : List QF := []
def f196e2_0 (t : Qz36) : St := ⟨v_Age t.1 :: vI t.2.1 :: dd 3 (vI t.2.2 :: dd 14 []), []⟩
noncomputable def f196g2 : Gk T_spec_AgeAt_2 := fun κ => S_spec_AgeAt_2 (fun t => κ none ⟨dd 4 (vI t :: dd 15 []), []⟩) (fun t => κ (some 0) ⟨dd 20 [], []⟩)
noncomputable def f196P : Lp := lpC 2 (unG qz36 f196e2_0) @f196g2 lpN
theorem f196C2 : LF f196Q f196P 196 2 Tryz.f196 0 f196e2_0 @f196g2 fun t => t := fun R κ again t => by kernel_rfl
theorem f196k2 : LK f196Q f196P 196 Tryz.f196 0 := loop_okG (u := (unG qz36 f196e2_0)) (by kernel_rfl) (unG_ok fun t => by kernel_rfl) (fun R κ s => by kernel_rfl) f196C2
theorem ev196 : EV f196Q f196P 196 Tryz.f196 sg196 qz37 [(.int .i64)] F_spec_AgeAt := fun x => by kernel_rfl
noncomputable def q196 : QF := ⟨196, F_spec_AgeAt, okN (n := 1) Tryz.func196 (by kernel_rfl) (by kernel_rfl) ⟨f196k2, trivial⟩ ev196⟩
abbrev T_spec_AgesOk_2 : Type := Qz37
noncomputable def S_spec_AgesOk_2 {R : Type} (k0 : Qz38 → Option R) (k1 : List E_Age → Option R) (again : T_spec_AgesOk_2 → Option R) (t2 : T_spec_AgesOk_2) : Option R :=
  bif (decide (t2.2 < ((List.length t2.1 : Nat) : Int))) then if (0 : Int) ≤ t2.2 then if t2.2 < ((List.length t2.1 : Nat) : Int) then Option.bind (F_spec_l1In ((rd_Age t2.1 t2.2).1, (1 : Int), (60 : Int))) fun r1 => Option.bind (bif (!r1) then some true else Option.bind (bif (decide (t2.2 > (0 : Int))) then if (0 : Int) ≤ (Go.IntKind.wrap .i64 (t2.2 - (1 : Int))) then if (Go.IntKind.wrap .i64 (t2.2 - (1 : Int))) < ((List.length t2.1 : Nat) : Int) then if (0 : Int) ≤ t2.2 then if t2.2 < ((List.length t2.1 : Nat) : Int) then some (decide ((rd_Age t2.1 (Go.IntKind.wrap .i64 (t2.2 - (1 : Int)))).1 ≥ (rd_Age t2.1 t2.2).1)) else none else none else none else none else some false) fun u3 => some u3) fun u2 => bif u2 then k0 (t2.1, false) else if (0 : Int) ≤ t2.2 then if t2.2 < ((List.length t2.1 : Nat) : Int) then Option.bind (bif ((rd_Age t2.1 t2.2).2 != (0 : Int)) then if (0 : Int) ≤ (0 : Int) then if (0 : Int) ≤ t2.2 then if t2.2 ≤ ((List.length t2.1 : Nat) : Int) then if (0 : Int) ≤ t2.2 then if t2.2 < ((List.length t2.1 : Nat) : Int) then Option.bind (F_spec_AgeAt ((List.drop (Int.toNat (0 : Int)) (List.take (Int.toNat t2.2) t2.1)), (rd_Age t2.1 t2.2).2)) fun r5 => some (decide (r5 < (0 : Int))) else none else none else none else none else none else some false) fun u4 => bif u4 then k0 (t2.1, false) else again (t2.1, (Go.IntKind.wrap .i64 (t2.2 + (1 : Int)))) else none else none else none else none else k1 t2.1
noncomputable def L_spec_AgesOk_2 {R : Type} (k0 : Qz38 → Option R) (k1 : List E_Age → Option R) (t : T_spec_AgesOk_2) : Option R := iter (S_spec_AgesOk_2 k0 k1) FUEL t
noncomputable def F_spec_AgesOk (x : List E_Age) : Option Bool :=
  L_spec_AgesOk_2 (fun x6 => some x6.2) (fun x7 => some (decide (((List.length x7 : Nat) : Int) ≤ (16 : Int)))) (x, (0 : Int))
noncomputable def f121Q : List QF := [q107, q196]
def f121e2_0 (t : Qz37) : St := ⟨v_Age t.1 :: dd 2 (vI t.2 :: dd 52 []), []⟩
noncomputable def f121g2 : Gk T_spec_AgesOk_2 := fun κ => S_spec_AgesOk_2 (fun t => κ none ⟨v_Age t.1 :: .dead :: vB t.2 :: dd 53 [], []⟩) (fun t => κ (some 0) ⟨v_Age t :: dd 55 [], []⟩)
noncomputable def f121P : Lp := lpC 2 (unG qz37 f121e2_0) @f121g2 lpN
theorem f121C2 : LF f121Q f121P 121 2 Tryz.f121 0 f121e2_0 @f121g2 fun t => t := fun R κ again t => by kernel_rfl
theorem f121k2 : LK f121Q f121P 121 Tryz.f121 0 := loop_okG (u := (unG qz37 f121e2_0)) (by kernel_rfl) (unG_ok fun t => by kernel_rfl) (fun R κ s => by kernel_rfl) f121C2
theorem ev121 : EV f121Q f121P 121 Tryz.f121 sg121 [(.sl 89 ts_Age)] [.bool] F_spec_AgesOk := fun x => by kernel_rfl
noncomputable def q121 : QF := ⟨121, F_spec_AgesOk, okN (n := 1) Tryz.func121 (by kernel_rfl) (by kernel_rfl) ⟨f121k2, trivial⟩ ev121⟩
noncomputable def F_spec_l1Word (x : Int) : Option Bool :=
  Option.bind (F_spec_l1In (x, (0 : Int), (65535 : Int))) fun r1 => some r1
theorem ev197 : EV [q107] lpN 197 Tryz.f197 sg197 [(.int .i64)] [.bool] F_spec_l1Word := fun x => by kernel_rfl
noncomputable def q197 : QF := ⟨197, F_spec_l1Word, okN (n := 0) Tryz.func197 (by kernel_rfl) (by kernel_rfl) trivial ev197⟩
abbrev T_spec_CellsOk_2 : Type := Qz39
noncomputable def S_spec_CellsOk_2 {R : Type} (k0 : Qz40 → Option R) (k1 : List E_Cell → Option R) (again : T_spec_CellsOk_2 → Option R) (t2 : T_spec_CellsOk_2) : Option R :=
  bif (decide (t2.2 < ((List.length t2.1 : Nat) : Int))) then if (0 : Int) ≤ t2.2 then if t2.2 < ((List.length t2.1 : Nat) : Int) then Option.bind (F_spec_l1In ((rd_Cell t2.1 t2.2).1, (0 : Int), (999 : Int))) fun r1 => Option.bind (bif (!r1) then some true else if (0 : Int) ≤ t2.2 then if t2.2 < ((List.length t2.1 : Nat) : Int) then Option.bind (F_spec_l1Word ((rd_Cell t2.1 t2.2).2.2)) fun r3 => some (!r3) else none else none) fun u2 => Option.bind (bif u2 then some true else if (0 : Int) ≤ t2.2 then if t2.2 < ((List.length t2.1 : Nat) : Int) then Option.bind (bif (!((rd_Cell t2.1 t2.2).2.1)) then if (0 : Int) ≤ t2.2 then if t2.2 < ((List.length t2.1 : Nat) : Int) then some ((rd_Cell t2.1 t2.2).2.2 != (0 : Int)) else none else none else some false) fun u5 => some u5 else none else none) fun u4 => bif u4 then k0 (t2.1, false) else again (t2.1, (Go.IntKind.wrap .i64 (t2.2 + (1 : Int)))) else none else none else k1 t2.1
noncomputable def L_spec_CellsOk_2 {R : Type} (k0 : Qz40 → Option R) (k1 : List E_Cell → Option R) (t : T_spec_CellsOk_2) : Option R := iter (S_spec_CellsOk_2 k0 k1) FUEL t
noncomputable def F_spec_CellsOk (x : List E_Cell) : Option Bool :=
  L_spec_CellsOk_2 (fun x6 => some x6.2) (fun x7 => some (((List.length x7 : Nat) : Int) == (24 : Int))) (x, (0 : Int))
noncomputable def f122Q : List QF := [q107, q197]
def f122e2_0 (t : Qz39) : St := ⟨v_Cell t.1 :: dd 2 (vI t.2 :: dd 41 []), []⟩
noncomputable def f122g2 : Gk T_spec_CellsOk_2 := fun κ => S_spec_CellsOk_2 (fun t => κ none ⟨v_Cell t.1 :: .dead :: vB t.2 :: dd 42 [], []⟩) (fun t => κ (some 0) ⟨v_Cell t :: dd 44 [], []⟩)
noncomputable def f122P : Lp := lpC 2 (unG qz39 f122e2_0) @f122g2 lpN
theorem f122C2 : LF f122Q f122P 122 2 Tryz.f122 0 f122e2_0 @f122g2 fun t => t := fun R κ again t => by kernel_rfl
theorem f122k2 : LK f122Q f122P 122 Tryz.f122 0 := loop_okG (u := (unG qz39 f122e2_0)) (by kernel_rfl) (unG_ok fun t => by kernel_rfl) (fun R κ s => by kernel_rfl) f122C2
theorem ev122 : EV f122Q f122P 122 Tryz.f122 sg122 [(.sl 95 ts_Cell)] [.bool] F_spec_CellsOk := fun x => by kernel_rfl
noncomputable def q122 : QF := ⟨122, F_spec_CellsOk, okN (n := 1) Tryz.func122 (by kernel_rfl) (by kernel_rfl) ⟨f122k2, trivial⟩ ev122⟩
abbrev T_spec_NameOk_2 : Type := Qz41
noncomputable def S_spec_NameOk_2 {R : Type} (k0 : Qz42 → Option R) (k1 : ByteArray → Option R) (again : T_spec_NameOk_2 → Option R) (t2 : T_spec_NameOk_2) : Option R :=
  bif (decide (t2.2 < ((ByteArray.size t2.1 : Nat) : Int))) then if (0 : Int) ≤ t2.2 then if h1 : Int.toNat t2.2 < ByteArray.size t2.1 then Option.bind (F_spec_l1In ((Go.IntKind.wrap .i64 ((UInt8.toNat (ByteArray.get t2.1 (Int.toNat t2.2) h1) : Nat) : Int)), (97 : Int), (122 : Int))) fun r2 => Option.bind (bif (!r2) then if (0 : Int) ≤ t2.2 then if h4 : Int.toNat t2.2 < ByteArray.size t2.1 then Option.bind (F_spec_l1In ((Go.IntKind.wrap .i64 ((UInt8.toNat (ByteArray.get t2.1 (Int.toNat t2.2) h4) : Nat) : Int)), (48 : Int), (57 : Int))) fun r5 => some (!r5) else none else none else some false) fun u3 => bif u3 then k0 (t2.1, false) else again (t2.1, (Go.IntKind.wrap .i64 (t2.2 + (1 : Int)))) else none else none else k1 t2.1
noncomputable def L_spec_NameOk_2 {R : Type} (k0 : Qz42 → Option R) (k1 : ByteArray → Option R) (t : T_spec_NameOk_2) : Option R := iter (S_spec_NameOk_2 k0 k1) FUEL t
noncomputable def F_spec_NameOk (x : ByteArray) : Option Bool :=
  L_spec_NameOk_2 (fun x6 => some x6.2) (fun x7 => Option.bind (F_spec_l1In (((ByteArray.size x7 : Nat) : Int), (1 : Int), (6 : Int))) fun r8 => some r8) (x, (0 : Int))
noncomputable def f198Q : List QF := [q107]
def f198e2_0 (t : Qz41) : St := ⟨vS t.1 :: dd 2 (vI t.2 :: dd 23 []), []⟩
noncomputable def f198g2 : Gk T_spec_NameOk_2 := fun κ => S_spec_NameOk_2 (fun t => κ none ⟨vS t.1 :: .dead :: vB t.2 :: dd 24 [], []⟩) (fun t => κ (some 0) ⟨vS t :: dd 26 [], []⟩)
noncomputable def f198P : Lp := lpC 2 (unG qz41 f198e2_0) @f198g2 lpN
theorem f198C2 : LF f198Q f198P 198 2 Tryz.f198 0 f198e2_0 @f198g2 fun t => t := fun R κ again t => by kernel_rfl
theorem f198k2 : LK f198Q f198P 198 Tryz.f198 0 := loop_okG (u := (unG qz41 f198e2_0)) (by kernel_rfl) (unG_ok fun t => by kernel_rfl) (fun R κ s => by kernel_rfl) f198C2
theorem ev198 : EV f198Q f198P 198 Tryz.f198 sg198 [.str] [.bool] F_spec_NameOk := fun x => by kernel_rfl
noncomputable def q198 : QF := ⟨198, F_spec_NameOk, okN (n := 1) Tryz.func198 (by kernel_rfl) (by kernel_rfl) ⟨f198k2, trivial⟩ ev198⟩
abbrev T_spec_KidsOf_3 : Type := Qz43
noncomputable def S_spec_KidsOf_3 {R : Type} (k0 : List E_i64 → Option R) (again : T_spec_KidsOf_3 → Option R) (t3 : T_spec_KidsOf_3) : Option R :=
  bif (decide (t3.2.2.1 < ((List.length t3.1 : Nat) : Int))) then if (0 : Int) ≤ t3.2.2.1 then if t3.2.2.1 < ((List.length t3.1 : Nat) : Int) then Option.bind (bif ((rd_Age t3.1 t3.2.2.1).2 == t3.2.1) then some (t3.2.1 != (0 : Int)) else some false) fun u1 => bif u1 then if (0 : Int) ≤ t3.2.2.1 then if t3.2.2.1 < ((List.length t3.1 : Nat) : Int) then if (List.length t3.2.2.2 + List.length ([(rd_Age t3.1 t3.2.2.1).1] : List E_i64)) * 8 < 140737488355328 then again (t3.1, t3.2.1, (Go.IntKind.wrap .i64 (t3.2.2.1 + (1 : Int))), (t3.2.2.2 ++ ([(rd_Age t3.1 t3.2.2.1).1] : List E_i64))) else none else none else none else again (t3.1, t3.2.1, (Go.IntKind.wrap .i64 (t3.2.2.1 + (1 : Int))), t3.2.2.2) else none else none else k0 t3.2.2.2
noncomputable def L_spec_KidsOf_3 {R : Type} (k0 : List E_i64 → Option R) (t : T_spec_KidsOf_3) : Option R := iter (S_spec_KidsOf_3 k0) FUEL t
noncomputable def F_spec_KidsOf (x : Qz37) : Option (List E_i64) :=
  L_spec_KidsOf_3 (fun x2 => some x2) (x.1, x.2, (0 : Int), ([] : List E_i64))
noncomputable def f199Q : List QF := []
def f199e3_0 (t : Qz43) : St := ⟨v_Age t.1 :: vI t.2.1 :: dd 3 (.own 10000000 :: vI t.2.2.1 :: dd 27 []), [(10000000, .root true 3 ts_i64 t.2.2.2)]⟩
noncomputable def f199g3 : Gk T_spec_KidsOf_3 := fun κ => S_spec_KidsOf_3 (fun t => κ (some 0) ⟨dd 5 (.own 10000000 :: dd 28 []), [(10000000, .root true 3 ts_i64 t)]⟩)
noncomputable def f199P : Lp := lpC 3 (unG qz43 f199e3_0) @f199g3 lpN
theorem f199C3 : LF f199Q f199P 199 3 Tryz.f199 0 f199e3_0 @f199g3 fun t => t := fun R κ again t => by kernel_rfl
theorem f199k3 : LK f199Q f199P 199 Tryz.f199 0 := loop_okG (u := (unG qz43 f199e3_0)) (by kernel_rfl) (unG_ok fun t => by kernel_rfl) (fun R κ s => by kernel_rfl) f199C3
theorem ev199 : EV f199Q f199P 199 Tryz.f199 sg199 qz37 [(.sl 3 ts_i64)] F_spec_KidsOf := fun x => by kernel_rfl
noncomputable def q199 : QF := ⟨199, F_spec_KidsOf, okN (n := 1) Tryz.func199 (by kernel_rfl) (by kernel_rfl) ⟨f199k3, trivial⟩ ev199⟩
abbrev T_spec_l10Vols_8 : Type := Qz44
noncomputable def S_spec_l10Vols_8 {R : Type} (k0 : Qz45 → Option R) (k1 : Qz46 → Option R) (again : T_spec_l10Vols_8 → Option R) (t8 : T_spec_l10Vols_8) : Option R :=
  bif (decide (t8.2.1 < t8.1)) then if (0 : Int) ≤ t8.2.1 then if t8.2.1 < ((List.length t8.2.2.2.2.2.2.1 : Nat) : Int) then bif ((rd_Vol t8.2.2.2.2.2.2.1 t8.2.1).2.1 == t8.2.2.2.2.2.2.2.2.2.1) then k0 (false, t8.1, t8.2.2.1, t8.2.2.2.1, t8.2.2.2.2.1, t8.2.2.2.2.2.1, t8.2.2.2.2.2.2.1, t8.2.2.2.2.2.2.2.1) else again (t8.1, (Go.IntKind.wrap .i64 (t8.2.1 + (1 : Int))), t8.2.2.1, t8.2.2.2.1, t8.2.2.2.2.1, t8.2.2.2.2.2.1, t8.2.2.2.2.2.2.1, t8.2.2.2.2.2.2.2.1, t8.2.2.2.2.2.2.2.2.1, t8.2.2.2.2.2.2.2.2.2.1, t8.2.2.2.2.2.2.2.2.2.2.1, t8.2.2.2.2.2.2.2.2.2.2.2) else none else none else k1 (t8.1, t8.2.2.1, t8.2.2.2.1, t8.2.2.2.2.1, t8.2.2.2.2.2.1, t8.2.2.2.2.2.2.1, t8.2.2.2.2.2.2.2.1)
noncomputable def L_spec_l10Vols_8 {R : Type} (k0 : Qz45 → Option R) (k1 : Qz46 → Option R) (t : T_spec_l10Vols_8) : Option R := iter (S_spec_l10Vols_8 k0 k1) FUEL t
abbrev T_spec_l10Vols_2 : Type := Qz46
noncomputable def S_spec_l10Vols_2 {R : Type} (k0 : Qz47 → Option R) (k1 : Qz48 → Option R) (again : T_spec_l10Vols_2 → Option R) (t2 : T_spec_l10Vols_2) : Option R :=
  bif (decide (t2.1 < ((List.length t2.2.2.2.2.2.1 : Nat) : Int))) then if (0 : Int) ≤ t2.1 then if t2.1 < ((List.length t2.2.2.2.2.2.1 : Nat) : Int) then Option.bind (F_spec_NameOk ((rd_Vol t2.2.2.2.2.2.1 t2.1).1)) fun r1 => Option.bind (bif (!r1) then some true else Option.bind (F_spec_l1In ((rd_Vol t2.2.2.2.2.2.1 t2.1).2.2.1, (1 : Int), (12 : Int))) fun r3 => some (!r3)) fun u2 => Option.bind (bif u2 then some true else Option.bind (F_spec_AgeAt (t2.2.2.2.1, (rd_Vol t2.2.2.2.2.2.1 t2.1).2.1)) fun r5 => some (decide (r5 < (0 : Int)))) fun u4 => Option.bind (bif u4 then some true else Option.bind (F_spec_KidsOf (t2.2.2.2.1, (rd_Vol t2.2.2.2.2.2.1 t2.1).2.1)) fun r7 => some (decide (((List.length r7 : Nat) : Int) > (0 : Int)))) fun u6 => Option.bind (bif u6 then some true else Option.bind (bif (decide (t2.1 > (0 : Int))) then if (0 : Int) ≤ (Go.IntKind.wrap .i64 (t2.1 - (1 : Int))) then if (Go.IntKind.wrap .i64 (t2.1 - (1 : Int))) < ((List.length t2.2.2.2.2.2.1 : Nat) : Int) then some (!Go.Op.bytesLess (ByteArray.toList ((rd_Vol t2.2.2.2.2.2.1 (Go.IntKind.wrap .i64 (t2.1 - (1 : Int)))).1)) (ByteArray.toList ((rd_Vol t2.2.2.2.2.2.1 t2.1).1))) else none else none else some false) fun u9 => some u9) fun u8 => bif u8 then k0 (false, t2.2.1, t2.2.2.1, t2.2.2.2.1, t2.2.2.2.2.1, t2.2.2.2.2.2.1, t2.2.2.2.2.2.2) else L_spec_l10Vols_8 (fun x10 => k0 (x10.1, x10.2.2.1, x10.2.2.2.1, x10.2.2.2.2.1, x10.2.2.2.2.2.1, x10.2.2.2.2.2.2.1, x10.2.2.2.2.2.2.2)) (fun x11 => again ((Go.IntKind.wrap .i64 (x11.1 + (1 : Int))), x11.2.1, x11.2.2.1, x11.2.2.2.1, x11.2.2.2.2.1, x11.2.2.2.2.2.1, x11.2.2.2.2.2.2)) (t2.1, (0 : Int), t2.2.1, t2.2.2.1, t2.2.2.2.1, t2.2.2.2.2.1, t2.2.2.2.2.2.1, t2.2.2.2.2.2.2, (rd_Vol t2.2.2.2.2.2.1 t2.1).1, (rd_Vol t2.2.2.2.2.2.1 t2.1).2.1, (rd_Vol t2.2.2.2.2.2.1 t2.1).2.2.1, (rd_Vol t2.2.2.2.2.2.1 t2.1).2.2.2) else none else none else k1 (t2.2.1, t2.2.2.1, t2.2.2.2.1, t2.2.2.2.2.1, t2.2.2.2.2.2.1, t2.2.2.2.2.2.2)
noncomputable def L_spec_l10Vols_2 {R : Type} (k0 : Qz47 → Option R) (k1 : Qz48 → Option R) (t : T_spec_l10Vols_2) : Option R := iter (S_spec_l10Vols_2 k0 k1) FUEL t
noncomputable def F_spec_l10Vols (x : Qz48) : Option Bool :=
  L_spec_l10Vols_2 (fun x12 => some x12.1) (fun x13 => some (decide (((List.length x13.2.2.2.2.1 : Nat) : Int) ≤ (6 : Int)))) ((0 : Int), x.1, x.2.1, x.2.2.1, x.2.2.2.1, x.2.2.2.2.1, x.2.2.2.2.2)
noncomputable def f123Q : List QF := [q107, q196, q198, q199]
def f123e8_0 (t : Qz44) : St := ⟨.dead :: .box 1 0 :: .dead :: vI t.1 :: .box 4 0 :: vI t.2.1 :: dd 73 [], [(1, .box [v_i64 t.2.2.1, v_Node t.2.2.2.1, v_Age t.2.2.2.2.1, v_Cell t.2.2.2.2.2.1, v_Vol t.2.2.2.2.2.2.1, vI t.2.2.2.2.2.2.2.1]), (4, .box [vS t.2.2.2.2.2.2.2.2.1, vI t.2.2.2.2.2.2.2.2.2.1, vI t.2.2.2.2.2.2.2.2.2.2.1, vB t.2.2.2.2.2.2.2.2.2.2.2])]⟩
noncomputable def f123g8 : Gk T_spec_l10Vols_8 := fun κ => S_spec_l10Vols_8 (fun t => κ none ⟨.dead :: .box 1 0 :: vB t.1 :: vI t.2.1 :: dd 75 [], [(1, .box [v_i64 t.2.2.1, v_Node t.2.2.2.1, v_Age t.2.2.2.2.1, v_Cell t.2.2.2.2.2.1, v_Vol t.2.2.2.2.2.2.1, vI t.2.2.2.2.2.2.2])]⟩) (fun t => κ (some 2) ⟨.dead :: .box 1 0 :: .dead :: vI t.1 :: dd 75 [], [(1, .box [v_i64 t.2.1, v_Node t.2.2.1, v_Age t.2.2.2.1, v_Cell t.2.2.2.2.1, v_Vol t.2.2.2.2.2.1, vI t.2.2.2.2.2.2])]⟩)
def f123e2_0 (t : Qz46) : St := ⟨.dead :: .box 1 0 :: .dead :: vI t.1 :: dd 75 [], [(1, .box [v_i64 t.2.1, v_Node t.2.2.1, v_Age t.2.2.2.1, v_Cell t.2.2.2.2.1, v_Vol t.2.2.2.2.2.1, vI t.2.2.2.2.2.2])]⟩
noncomputable def f123g2 : Gk T_spec_l10Vols_2 := fun κ => S_spec_l10Vols_2 (fun t => κ none ⟨.dead :: .box 1 0 :: vB t.1 :: dd 76 [], [(1, .box [v_i64 t.2.1, v_Node t.2.2.1, v_Age t.2.2.2.1, v_Cell t.2.2.2.2.1, v_Vol t.2.2.2.2.2.1, vI t.2.2.2.2.2.2])]⟩) (fun t => κ (some 0) ⟨.dead :: .box 1 0 :: dd 77 [], [(1, .box [v_i64 t.1, v_Node t.2.1, v_Age t.2.2.1, v_Cell t.2.2.2.1, v_Vol t.2.2.2.2.1, vI t.2.2.2.2.2])]⟩)
noncomputable def f123P : Lp := lpC 2 (unG qz46 f123e2_0) @f123g2 (lpC 8 (unG qz44 f123e8_0) @f123g8 lpN)
theorem f123C8 : LF f123Q f123P 123 8 Tryz.f123 1 f123e8_0 @f123g8 fun t => t := fun R κ again t => by kernel_rfl
theorem f123k8 : LK f123Q f123P 123 Tryz.f123 1 := loop_okG (u := (unG qz44 f123e8_0)) (by kernel_rfl) (unG_ok fun t => by kernel_rfl) (fun R κ s => by kernel_rfl) f123C8
theorem f123C2 : LF f123Q f123P 123 2 Tryz.f123 0 f123e2_0 @f123g2 fun t => t := fun R κ again t => by kernel_rfl
theorem f123k2 : LK f123Q f123P 123 Tryz.f123 0 := loop_okG (u := (unG qz46 f123e2_0)) (by kernel_rfl) (unG_ok fun t => by kernel_rfl) (fun R κ s => by kernel_rfl) f123C2
theorem ev123 : EV f123Q f123P 123 Tryz.f123 sg123 qz48 [.bool] F_spec_l10Vols := fun x => by kernel_rfl
noncomputable def q123 : QF := ⟨123, F_spec_l10Vols, okN (n := 2) Tryz.func123 (by kernel_rfl) (by kernel_rfl) ⟨f123k2, f123k8, trivial⟩ ev123⟩
noncomputable def F_spec_CellAt (x : Qz49) : Option Qz50 :=
  Option.bind (F_spec_l1In (x.2.1, (0 : Int), (Go.IntKind.wrap .i64 (((List.length x.1 : Nat) : Int) - (1 : Int))))) fun r1 => Option.bind (bif (!r1) then some true else if (0 : Int) ≤ x.2.1 then if x.2.1 < ((List.length x.1 : Nat) : Int) then some (!((rd_Cell x.1 x.2.1).2.1)) else none else none) fun u2 => Option.bind (bif u2 then some true else if (0 : Int) ≤ x.2.1 then if x.2.1 < ((List.length x.1 : Nat) : Int) then some ((rd_Cell x.1 x.2.1).1 != x.2.2) else none else none) fun u3 => bif u3 then some ((0 : Int), false) else if (0 : Int) ≤ x.2.1 then if x.2.1 < ((List.length x.1 : Nat) : Int) then some ((rd_Cell x.1 x.2.1).2.2, true) else none else none
theorem ev200 : EV [q107] lpN 200 Tryz.f200 sg200 qz49 qz50 F_spec_CellAt := fun x => by kernel_rfl
noncomputable def q200 : QF := ⟨200, F_spec_CellAt, okN (n := 0) Tryz.func200 (by kernel_rfl) (by kernel_rfl) trivial ev200⟩
abbrev T_spec_UsedCells_3 : Type := Qz49
noncomputable def S_spec_UsedCells_3 {R : Type} (k0 : Int → Option R) (again : T_spec_UsedCells_3 → Option R) (t3 : T_spec_UsedCells_3) : Option R :=
  bif (decide (t3.2.2 < ((List.length t3.1 : Nat) : Int))) then if (0 : Int) ≤ t3.2.2 then if t3.2.2 < ((List.length t3.1 : Nat) : Int) then bif (rd_Cell t3.1 t3.2.2).2.1 then again (t3.1, (Go.IntKind.wrap .i64 (t3.2.1 + (1 : Int))), (Go.IntKind.wrap .i64 (t3.2.2 + (1 : Int)))) else again (t3.1, t3.2.1, (Go.IntKind.wrap .i64 (t3.2.2 + (1 : Int)))) else none else none else k0 t3.2.1
noncomputable def L_spec_UsedCells_3 {R : Type} (k0 : Int → Option R) (t : T_spec_UsedCells_3) : Option R := iter (S_spec_UsedCells_3 k0) FUEL t
noncomputable def F_spec_UsedCells (x : List E_Cell) : Option Int :=
  L_spec_UsedCells_3 (fun x1 => some x1) (x, (0 : Int), (0 : Int))
noncomputable def f201Q : List QF := []
def f201e3_0 (t : Qz49) : St := ⟨v_Cell t.1 :: dd 2 (vI t.2.1 :: vI t.2.2 :: dd 14 []), []⟩
noncomputable def f201g3 : Gk T_spec_UsedCells_3 := fun κ => S_spec_UsedCells_3 (fun t => κ (some 0) ⟨dd 3 (vI t :: dd 15 []), []⟩)
noncomputable def f201P : Lp := lpC 3 (unG qz49 f201e3_0) @f201g3 lpN
theorem f201C3 : LF f201Q f201P 201 3 Tryz.f201 0 f201e3_0 @f201g3 fun t => t := fun R κ again t => by kernel_rfl
theorem f201k3 : LK f201Q f201P 201 Tryz.f201 0 := loop_okG (u := (unG qz49 f201e3_0)) (by kernel_rfl) (unG_ok fun t => by kernel_rfl) (fun R κ s => by kernel_rfl) f201C3
theorem ev201 : EV f201Q f201P 201 Tryz.f201 sg201 [(.sl 95 ts_Cell)] [(.int .i64)] F_spec_UsedCells := fun x => by kernel_rfl
noncomputable def q201 : QF := ⟨201, F_spec_UsedCells, okN (n := 1) Tryz.func201 (by kernel_rfl) (by kernel_rfl) ⟨f201k3, trivial⟩ ev201⟩
abbrev T_spec_l10Keys_14 : Type := Qz51
noncomputable def S_spec_l10Keys_14 {R : Type} (k0 : Qz52 → Option R) (k1 : Qz53 → Option R) (again : T_spec_l10Keys_14 → Option R) (t14 : T_spec_l10Keys_14) : Option R :=
  bif (decide (t14.2.2.1 < t14.2.1)) then if (0 : Int) ≤ t14.2.2.1 then if t14.2.2.1 < ((List.length t14.2.2.2.2.2.2.2.2.2 : Nat) : Int) then Option.bind (bif ((rd_Key t14.2.2.2.2.2.2.2.2.2 t14.2.2.1).2.2.1 == (1 : Int)) then if (0 : Int) ≤ t14.2.2.1 then if t14.2.2.1 < ((List.length t14.2.2.2.2.2.2.2.2.2 : Nat) : Int) then if (0 : Int) ≤ t14.2.1 then if t14.2.1 < ((List.length t14.2.2.2.2.2.2.2.2.2 : Nat) : Int) then some ((rd_Key t14.2.2.2.2.2.2.2.2.2 t14.2.2.1).2.2.2.1 == (rd_Key t14.2.2.2.2.2.2.2.2.2 t14.2.1).2.2.2.1) else none else none else none else none else some false) fun u4 => bif u4 then k0 (false, t14.1, t14.2.1, t14.2.2.2.1, t14.2.2.2.2.1, t14.2.2.2.2.2.1, t14.2.2.2.2.2.2.1, t14.2.2.2.2.2.2.2.1, t14.2.2.2.2.2.2.2.2.1, t14.2.2.2.2.2.2.2.2.2) else again (t14.1, t14.2.1, (Go.IntKind.wrap .i64 (t14.2.2.1 + (1 : Int))), t14.2.2.2.1, t14.2.2.2.2.1, t14.2.2.2.2.2.1, t14.2.2.2.2.2.2.1, t14.2.2.2.2.2.2.2.1, t14.2.2.2.2.2.2.2.2.1, t14.2.2.2.2.2.2.2.2.2) else none else none else k1 (t14.1, t14.2.1, t14.2.2.2.1, t14.2.2.2.2.1, t14.2.2.2.2.2.1, t14.2.2.2.2.2.2.1, t14.2.2.2.2.2.2.2.1, t14.2.2.2.2.2.2.2.2.1, t14.2.2.2.2.2.2.2.2.2)
noncomputable def L_spec_l10Keys_14 {R : Type} (k0 : Qz52 → Option R) (k1 : Qz53 → Option R) (t : T_spec_l10Keys_14) : Option R := iter (S_spec_l10Keys_14 k0 k1) FUEL t
abbrev T_spec_l10Keys_4 : Type := Qz53
noncomputable def S_spec_l10Keys_4 {R : Type} (k0 : Qz45 → Option R) (k1 : Qz46 → Option R) (again : T_spec_l10Keys_4 → Option R) (t4 : T_spec_l10Keys_4) : Option R :=
  bif (decide (t4.2.1 < ((List.length t4.2.2.2.2.2.2.2.2 : Nat) : Int))) then if (0 : Int) ≤ t4.2.1 then if t4.2.1 < ((List.length t4.2.2.2.2.2.2.2.2 : Nat) : Int) then Option.bind (F_spec_AgeAt (t4.2.2.2.2.1, (rd_Key t4.2.2.2.2.2.2.2.2 t4.2.1).2.1)) fun r2 => bif (decide (r2 < (0 : Int))) then k0 (false, t4.1, t4.2.2.1, t4.2.2.2.1, t4.2.2.2.2.1, t4.2.2.2.2.2.1, t4.2.2.2.2.2.2.1, t4.2.2.2.2.2.2.2.1) else if (0 : Int) ≤ t4.2.1 then if t4.2.1 < ((List.length t4.2.2.2.2.2.2.2.2 : Nat) : Int) then bif ((rd_Key t4.2.2.2.2.2.2.2.2 t4.2.1).2.2.1 != (1 : Int)) then again (t4.1, (Go.IntKind.wrap .i64 (t4.2.1 + (1 : Int))), t4.2.2.1, t4.2.2.2.1, t4.2.2.2.2.1, t4.2.2.2.2.2.1, t4.2.2.2.2.2.2.1, t4.2.2.2.2.2.2.2.1, t4.2.2.2.2.2.2.2.2) else if (0 : Int) ≤ t4.2.1 then if t4.2.1 < ((List.length t4.2.2.2.2.2.2.2.2 : Nat) : Int) then if (0 : Int) ≤ t4.2.1 then if t4.2.1 < ((List.length t4.2.2.2.2.2.2.2.2 : Nat) : Int) then Option.bind (F_spec_CellAt (t4.2.2.2.2.2.1, (rd_Key t4.2.2.2.2.2.2.2.2 t4.2.1).2.2.2.1, (rd_Key t4.2.2.2.2.2.2.2.2 t4.2.1).2.2.2.2)) fun r3 => bif (!r3.2) then k0 (false, (Go.IntKind.wrap .i64 (t4.1 + (1 : Int))), t4.2.2.1, t4.2.2.2.1, t4.2.2.2.2.1, t4.2.2.2.2.2.1, t4.2.2.2.2.2.2.1, t4.2.2.2.2.2.2.2.1) else L_spec_l10Keys_14 (fun x5 => k0 (x5.1, x5.2.1, x5.2.2.2.1, x5.2.2.2.2.1, x5.2.2.2.2.2.1, x5.2.2.2.2.2.2.1, x5.2.2.2.2.2.2.2.1, x5.2.2.2.2.2.2.2.2.1)) (fun x6 => again (x6.1, (Go.IntKind.wrap .i64 (x6.2.1 + (1 : Int))), x6.2.2.1, x6.2.2.2.1, x6.2.2.2.2.1, x6.2.2.2.2.2.1, x6.2.2.2.2.2.2.1, x6.2.2.2.2.2.2.2.1, x6.2.2.2.2.2.2.2.2)) ((Go.IntKind.wrap .i64 (t4.1 + (1 : Int))), t4.2.1, (0 : Int), t4.2.2.1, t4.2.2.2.1, t4.2.2.2.2.1, t4.2.2.2.2.2.1, t4.2.2.2.2.2.2.1, t4.2.2.2.2.2.2.2.1, t4.2.2.2.2.2.2.2.2) else none else none else none else none else none else none else none else none else k1 (t4.1, t4.2.2.1, t4.2.2.2.1, t4.2.2.2.2.1, t4.2.2.2.2.2.1, t4.2.2.2.2.2.2.1, t4.2.2.2.2.2.2.2.1)
noncomputable def L_spec_l10Keys_4 {R : Type} (k0 : Qz45 → Option R) (k1 : Qz46 → Option R) (t : T_spec_l10Keys_4) : Option R := iter (S_spec_l10Keys_4 k0 k1) FUEL t
noncomputable def F_spec_l10Keys (x : Qz48) : Option Bool :=
  Option.bind (F_spec_TreeKeys (x.1, x.2.1)) fun r1 => L_spec_l10Keys_4 (fun x7 => some x7.1) (fun x8 => Option.bind (F_spec_UsedCells x8.2.2.2.2.1) fun r9 => some (x8.1 == r9)) ((0 : Int), (0 : Int), x.1, x.2.1, x.2.2.1, x.2.2.2.1, x.2.2.2.2.1, x.2.2.2.2.2, r1)
noncomputable def f124Q : List QF := [q188, q196, q200, q201]
def f124e14_0 (t : Qz51) : St := ⟨.dead :: .box 1 0 :: .dead :: .own 10000000 :: vI t.1 :: vI t.2.1 :: dd 2 (vI t.2.2.1 :: dd 73 []), [(1, .box [v_i64 t.2.2.2.1, v_Node t.2.2.2.2.1, v_Age t.2.2.2.2.2.1, v_Cell t.2.2.2.2.2.2.1, v_Vol t.2.2.2.2.2.2.2.1, vI t.2.2.2.2.2.2.2.2.1]), (10000000, .root true 106 ts_Key t.2.2.2.2.2.2.2.2.2)]⟩
noncomputable def f124g14 : Gk T_spec_l10Keys_14 := fun κ => S_spec_l10Keys_14 (fun t => κ none ⟨.dead :: .box 1 0 :: vB t.1 :: .own 10000000 :: vI t.2.1 :: vI t.2.2.1 :: dd 76 [], [(1, .box [v_i64 t.2.2.2.1, v_Node t.2.2.2.2.1, v_Age t.2.2.2.2.2.1, v_Cell t.2.2.2.2.2.2.1, v_Vol t.2.2.2.2.2.2.2.1, vI t.2.2.2.2.2.2.2.2.1]), (10000000, .root true 106 ts_Key t.2.2.2.2.2.2.2.2.2)]⟩) (fun t => κ (some 2) ⟨.dead :: .box 1 0 :: .dead :: .own 10000000 :: vI t.1 :: vI t.2.1 :: dd 76 [], [(1, .box [v_i64 t.2.2.1, v_Node t.2.2.2.1, v_Age t.2.2.2.2.1, v_Cell t.2.2.2.2.2.1, v_Vol t.2.2.2.2.2.2.1, vI t.2.2.2.2.2.2.2.1]), (10000000, .root true 106 ts_Key t.2.2.2.2.2.2.2.2)]⟩)
def f124e4_0 (t : Qz53) : St := ⟨.dead :: .box 1 0 :: .dead :: .own 10000000 :: vI t.1 :: vI t.2.1 :: dd 76 [], [(1, .box [v_i64 t.2.2.1, v_Node t.2.2.2.1, v_Age t.2.2.2.2.1, v_Cell t.2.2.2.2.2.1, v_Vol t.2.2.2.2.2.2.1, vI t.2.2.2.2.2.2.2.1]), (10000000, .root true 106 ts_Key t.2.2.2.2.2.2.2.2)]⟩
noncomputable def f124g4 : Gk T_spec_l10Keys_4 := fun κ => S_spec_l10Keys_4 (fun t => κ none ⟨.dead :: .box 1 0 :: vB t.1 :: .dead :: vI t.2.1 :: dd 77 [], [(1, .box [v_i64 t.2.2.1, v_Node t.2.2.2.1, v_Age t.2.2.2.2.1, v_Cell t.2.2.2.2.2.1, v_Vol t.2.2.2.2.2.2.1, vI t.2.2.2.2.2.2.2])]⟩) (fun t => κ (some 0) ⟨.dead :: .box 1 0 :: dd 2 (vI t.1 :: dd 77 []), [(1, .box [v_i64 t.2.1, v_Node t.2.2.1, v_Age t.2.2.2.1, v_Cell t.2.2.2.2.1, v_Vol t.2.2.2.2.2.1, vI t.2.2.2.2.2.2])]⟩)
noncomputable def f124P : Lp := lpC 4 (unG qz53 f124e4_0) @f124g4 (lpC 14 (unG qz51 f124e14_0) @f124g14 lpN)
theorem f124C14 : LF f124Q f124P 124 14 Tryz.f124 1 f124e14_0 @f124g14 fun t => t := fun R κ again t => by kernel_rfl
theorem f124k14 : LK f124Q f124P 124 Tryz.f124 1 := loop_okG (u := (unG qz51 f124e14_0)) (by kernel_rfl) (unG_ok fun t => by kernel_rfl) (fun R κ s => by kernel_rfl) f124C14
theorem f124C4 : LF f124Q f124P 124 4 Tryz.f124 0 f124e4_0 @f124g4 fun t => t := fun R κ again t => by kernel_rfl
theorem f124k4 : LK f124Q f124P 124 Tryz.f124 0 := loop_okG (u := (unG qz53 f124e4_0)) (by kernel_rfl) (unG_ok fun t => by kernel_rfl) (fun R κ s => by kernel_rfl) f124C4
theorem ev124 : EV f124Q f124P 124 Tryz.f124 sg124 qz48 [.bool] F_spec_l10Keys := fun x => by kernel_rfl
noncomputable def q124 : QF := ⟨124, F_spec_l10Keys, okN (n := 2) Tryz.func124 (by kernel_rfl) (by kernel_rfl) ⟨f124k4, f124k14, trivial⟩ ev124⟩
abbrev T_spec_PoolOk_2 : Type := Qz46
noncomputable def S_spec_PoolOk_2 {R : Type} (k0 : Qz47 → Option R) (k1 : Qz48 → Option R) (again : T_spec_PoolOk_2 → Option R) (t2 : T_spec_PoolOk_2) : Option R :=
  bif (decide (t2.1 < ((List.length t2.2.2.2.1 : Nat) : Int))) then if (0 : Int) ≤ t2.1 then if t2.1 < ((List.length t2.2.2.2.1 : Nat) : Int) then bif (decide ((rd_Age t2.2.2.2.1 t2.1).1 ≥ t2.2.2.2.2.2.2)) then k0 (false, t2.2.1, t2.2.2.1, t2.2.2.2.1, t2.2.2.2.2.1, t2.2.2.2.2.2.1, t2.2.2.2.2.2.2) else again ((Go.IntKind.wrap .i64 (t2.1 + (1 : Int))), t2.2.1, t2.2.2.1, t2.2.2.2.1, t2.2.2.2.2.1, t2.2.2.2.2.2.1, t2.2.2.2.2.2.2) else none else none else k1 (t2.2.1, t2.2.2.1, t2.2.2.2.1, t2.2.2.2.2.1, t2.2.2.2.2.2.1, t2.2.2.2.2.2.2)
noncomputable def L_spec_PoolOk_2 {R : Type} (k0 : Qz47 → Option R) (k1 : Qz48 → Option R) (t : T_spec_PoolOk_2) : Option R := iter (S_spec_PoolOk_2 k0 k1) FUEL t
noncomputable def F_spec_PoolOk (x : Qz48) : Option Bool :=
  L_spec_PoolOk_2 (fun x1 => some x1.1) (fun x2 => Option.bind (F_spec_TreeOk (x2.1, x2.2.1)) fun r3 => Option.bind (bif r3 then Option.bind (F_spec_AgesOk x2.2.2.1) fun r5 => some r5 else some false) fun u4 => Option.bind (bif u4 then Option.bind (F_spec_CellsOk x2.2.2.2.1) fun r7 => some r7 else some false) fun u6 => Option.bind (bif u6 then Option.bind (F_spec_l1In (x2.2.2.2.2.2, (1 : Int), (61 : Int))) fun r9 => some r9 else some false) fun u8 => Option.bind (bif u8 then Option.bind (F_spec_l10Vols (x2.1, x2.2.1, x2.2.2.1, x2.2.2.2.1, x2.2.2.2.2.1, x2.2.2.2.2.2)) fun r11 => some r11 else some false) fun u10 => Option.bind (bif u10 then Option.bind (F_spec_l10Keys (x2.1, x2.2.1, x2.2.2.1, x2.2.2.2.1, x2.2.2.2.2.1, x2.2.2.2.2.2)) fun r13 => some r13 else some false) fun u12 => some u12) ((0 : Int), x.1, x.2.1, x.2.2.1, x.2.2.2.1, x.2.2.2.2.1, x.2.2.2.2.2)
noncomputable def f47Q : List QF := [q107, q120, q121, q122, q123, q124]
def f47e2_0 (t : Qz46) : St := ⟨.dead :: .box 1 0 :: .dead :: vI t.1 :: dd 42 [], [(1, .box [v_i64 t.2.1, v_Node t.2.2.1, v_Age t.2.2.2.1, v_Cell t.2.2.2.2.1, v_Vol t.2.2.2.2.2.1, vI t.2.2.2.2.2.2])]⟩
noncomputable def f47g2 : Gk T_spec_PoolOk_2 := fun κ => S_spec_PoolOk_2 (fun t => κ none ⟨.dead :: .box 1 0 :: vB t.1 :: dd 43 [], [(1, .box [v_i64 t.2.1, v_Node t.2.2.1, v_Age t.2.2.2.1, v_Cell t.2.2.2.2.1, v_Vol t.2.2.2.2.2.1, vI t.2.2.2.2.2.2])]⟩) (fun t => κ (some 0) ⟨.dead :: .box 1 0 :: dd 44 [], [(1, .box [v_i64 t.1, v_Node t.2.1, v_Age t.2.2.1, v_Cell t.2.2.2.1, v_Vol t.2.2.2.2.1, vI t.2.2.2.2.2])]⟩)
noncomputable def f47P : Lp := lpC 2 (unG qz46 f47e2_0) @f47g2 lpN
theorem f47C2 : LF f47Q f47P 47 2 Tryz.f47 0 f47e2_0 @f47g2 fun t => t := fun R κ again t => by kernel_rfl
theorem f47k2 : LK f47Q f47P 47 Tryz.f47 0 := loop_okG (u := (unG qz46 f47e2_0)) (by kernel_rfl) (unG_ok fun t => by kernel_rfl) (fun R κ s => by kernel_rfl) f47C2
theorem ev47 : EV f47Q f47P 47 Tryz.f47 sg47 qz48 [.bool] F_spec_PoolOk := fun x => by kernel_rfl
noncomputable def q47 : QF := ⟨47, F_spec_PoolOk, okN (n := 1) Tryz.func47 (by kernel_rfl) (by kernel_rfl) ⟨f47k2, trivial⟩ ev47⟩
noncomputable def F_spec_PutW (x : Qz54) : Option (List E_u8) :=
  if (List.length ([] : List E_u8) + List.length x.1) * 1 < 140737488355328 then if (List.length (([] : List E_u8) ++ x.1) + List.length ([(Go.IntKind.wrap .u8 (Int.fdiv x.2 (2 ^ (min (Int.toNat (8 : Int)) (Go.IntKind.bits .i64))))), (Go.IntKind.wrap .u8 x.2)] : List E_u8)) * 1 < 140737488355328 then some ((([] : List E_u8) ++ x.1) ++ ([(Go.IntKind.wrap .u8 (Int.fdiv x.2 (2 ^ (min (Int.toNat (8 : Int)) (Go.IntKind.bits .i64))))), (Go.IntKind.wrap .u8 x.2)] : List E_u8)) else none else none
theorem ev48 : EV [] lpN 48 Tryz.f48 sg48 qz54 [(.sl 5 ts_u8)] F_spec_PutW := fun x => by kernel_rfl
noncomputable def q48 : QF := ⟨48, F_spec_PutW, okN (n := 0) Tryz.func48 (by kernel_rfl) (by kernel_rfl) trivial ev48⟩
noncomputable def F_spec_PutText (x : Qz55) : Option (List E_u8) :=
  bif (decide (((ByteArray.size x.2 : Nat) : Int) > (60 : Int))) then if (List.length ([] : List E_u8) + List.length x.1) * 1 < 140737488355328 then some (([] : List E_u8) ++ x.1) else none else Option.bind (F_spec_PutW (x.1, ((ByteArray.size x.2 : Nat) : Int))) fun r1 => if (List.length r1 + List.length (bytesL x.2)) * 1 < 140737488355328 then some (r1 ++ (bytesL x.2)) else none
theorem ev49 : EV [q48] lpN 49 Tryz.f49 sg49 qz55 [(.sl 5 ts_u8)] F_spec_PutText := fun x => by kernel_rfl
noncomputable def q49 : QF := ⟨49, F_spec_PutText, okN (n := 0) Tryz.func49 (by kernel_rfl) (by kernel_rfl) trivial ev49⟩
noncomputable def F_spec_l16Bit (x : Bool) : Option Int :=
  bif x then some (1 : Int) else some (0 : Int)
theorem ev50 : EV [] lpN 50 Tryz.f50 sg50 [.bool] [(.int .u8)] F_spec_l16Bit := fun x => by kernel_rfl
noncomputable def q50 : QF := ⟨50, F_spec_l16Bit, okN (n := 0) Tryz.func50 (by kernel_rfl) (by kernel_rfl) trivial ev50⟩
noncomputable def F_spec_PutKey (x : Qz56) : Option (List E_u8) :=
  if (List.length ([] : List E_u8) + List.length x.1) * 1 < 140737488355328 then Option.bind (F_spec_KeyOk (x.2.1, x.2.2.1, x.2.2.2.1, x.2.2.2.2.1, x.2.2.2.2.2)) fun r1 => bif (!r1) then some (([] : List E_u8) ++ x.1) else if (List.length (([] : List E_u8) ++ x.1) + List.length ([(Go.IntKind.wrap .u8 x.2.1), (Go.IntKind.wrap .u8 x.2.2.1), (Go.IntKind.wrap .u8 x.2.2.2.1), (Go.IntKind.wrap .u8 x.2.2.2.2.1)] : List E_u8)) * 1 < 140737488355328 then Option.bind (F_spec_PutW (((([] : List E_u8) ++ x.1) ++ ([(Go.IntKind.wrap .u8 x.2.1), (Go.IntKind.wrap .u8 x.2.2.1), (Go.IntKind.wrap .u8 x.2.2.2.1), (Go.IntKind.wrap .u8 x.2.2.2.2.1)] : List E_u8)), x.2.2.2.2.2)) fun r2 => some r2 else none else none
theorem ev125 : EV [q48, q202] lpN 125 Tryz.f125 sg125 qz56 [(.sl 5 ts_u8)] F_spec_PutKey := fun x => by kernel_rfl
noncomputable def q125 : QF := ⟨125, F_spec_PutKey, okN (n := 0) Tryz.func125 (by kernel_rfl) (by kernel_rfl) trivial ev125⟩
abbrev T_spec_l16Set_3 : Type := Qz57
noncomputable def S_spec_l16Set_3 {R : Type} (k0 : List E_u8 → Option R) (again : T_spec_l16Set_3 → Option R) (t3 : T_spec_l16Set_3) : Option R :=
  bif (decide (t3.2.1 < ((List.length t3.1 : Nat) : Int))) then if (0 : Int) ≤ t3.2.1 then if t3.2.1 < ((List.length t3.1 : Nat) : Int) then Option.bind (F_spec_PutKey (t3.2.2, (rd_Key t3.1 t3.2.1).1, (rd_Key t3.1 t3.2.1).2.1, (rd_Key t3.1 t3.2.1).2.2.1, (rd_Key t3.1 t3.2.1).2.2.2.1, (rd_Key t3.1 t3.2.1).2.2.2.2)) fun r1 => again (t3.1, (Go.IntKind.wrap .i64 (t3.2.1 + (1 : Int))), r1) else none else none else k0 t3.2.2
noncomputable def L_spec_l16Set_3 {R : Type} (k0 : List E_u8 → Option R) (t : T_spec_l16Set_3) : Option R := iter (S_spec_l16Set_3 k0) FUEL t
noncomputable def F_spec_l16Set (x : Qz58) : Option (List E_u8) :=
  if (List.length x.1 + List.length ([(Go.IntKind.wrap .u8 ((List.length x.2 : Nat) : Int))] : List E_u8)) * 1 < 140737488355328 then L_spec_l16Set_3 (fun x2 => some x2) (x.2, (0 : Int), (x.1 ++ ([(Go.IntKind.wrap .u8 ((List.length x.2 : Nat) : Int))] : List E_u8))) else none
noncomputable def f51Q : List QF := [q125]
def f51e3_0 (t : Qz57) : St := ⟨.own 10000000 :: v_Key t.1 :: dd 3 (vI t.2.1 :: dd 19 []), [(10000000, .root true 5 ts_u8 t.2.2)]⟩
noncomputable def f51g3 : Gk T_spec_l16Set_3 := fun κ => S_spec_l16Set_3 (fun t => κ (some 0) ⟨.own 10000000 :: dd 24 [], [(10000000, .root true 5 ts_u8 t)]⟩)
noncomputable def f51P : Lp := lpC 3 (unG qz57 f51e3_0) @f51g3 lpN
theorem f51C3 : LF f51Q f51P 51 3 Tryz.f51 0 f51e3_0 @f51g3 fun t => t := fun R κ again t => by kernel_rfl
theorem f51k3 : LK f51Q f51P 51 Tryz.f51 0 := loop_okG (u := (unG qz57 f51e3_0)) (by kernel_rfl) (unG_ok fun t => by kernel_rfl) (fun R κ s => by kernel_rfl) f51C3
theorem ev51 : EV f51Q f51P 51 Tryz.f51 sg51 qz58 [(.sl 5 ts_u8)] F_spec_l16Set := fun x => by kernel_rfl
noncomputable def q51 : QF := ⟨51, F_spec_l16Set, okN (n := 1) Tryz.func51 (by kernel_rfl) (by kernel_rfl) ⟨f51k3, trivial⟩ ev51⟩
abbrev T_spec_PutPool_6 : Type := Qz59
noncomputable def S_spec_PutPool_6 {R : Type} (k0 : Qz60 → Option R) (again : T_spec_PutPool_6 → Option R) (t6 : T_spec_PutPool_6) : Option R :=
  bif (decide (t6.1 < ((List.length t6.2.2.2.1 : Nat) : Int))) then if (0 : Int) ≤ t6.1 then if t6.1 < ((List.length t6.2.2.2.1 : Nat) : Int) then if (0 : Int) ≤ t6.1 then if t6.1 < ((List.length t6.2.2.2.1 : Nat) : Int) then if (List.length t6.2.2.2.2.2.2.2 + List.length ([(Go.IntKind.wrap .u8 ((rd_Age t6.2.2.2.1 t6.1).1)), (Go.IntKind.wrap .u8 ((rd_Age t6.2.2.2.1 t6.1).2))] : List E_u8)) * 1 < 140737488355328 then again ((Go.IntKind.wrap .i64 (t6.1 + (1 : Int))), t6.2.1, t6.2.2.1, t6.2.2.2.1, t6.2.2.2.2.1, t6.2.2.2.2.2.1, t6.2.2.2.2.2.2.1, (t6.2.2.2.2.2.2.2 ++ ([(Go.IntKind.wrap .u8 ((rd_Age t6.2.2.2.1 t6.1).1)), (Go.IntKind.wrap .u8 ((rd_Age t6.2.2.2.1 t6.1).2))] : List E_u8))) else none else none else none else none else none else k0 (t6.2.1, t6.2.2.1, t6.2.2.2.1, t6.2.2.2.2.1, t6.2.2.2.2.2.1, t6.2.2.2.2.2.2.1, t6.2.2.2.2.2.2.2)
noncomputable def L_spec_PutPool_6 {R : Type} (k0 : Qz60 → Option R) (t : T_spec_PutPool_6) : Option R := iter (S_spec_PutPool_6 k0) FUEL t
abbrev T_spec_PutPool_11 : Type := Qz59
noncomputable def S_spec_PutPool_11 {R : Type} (k0 : Qz60 → Option R) (again : T_spec_PutPool_11 → Option R) (t11 : T_spec_PutPool_11) : Option R :=
  bif (decide (t11.1 < ((List.length t11.2.2.2.2.2.1 : Nat) : Int))) then if (0 : Int) ≤ t11.1 then if t11.1 < ((List.length t11.2.2.2.2.2.1 : Nat) : Int) then Option.bind (F_spec_PutText (t11.2.2.2.2.2.2.2, (rd_Vol t11.2.2.2.2.2.1 t11.1).1)) fun r4 => Option.bind (F_spec_l16Bit ((rd_Vol t11.2.2.2.2.2.1 t11.1).2.2.2)) fun r5 => if (List.length r4 + List.length ([(Go.IntKind.wrap .u8 ((rd_Vol t11.2.2.2.2.2.1 t11.1).2.1)), (Go.IntKind.wrap .u8 ((rd_Vol t11.2.2.2.2.2.1 t11.1).2.2.1)), r5] : List E_u8)) * 1 < 140737488355328 then again ((Go.IntKind.wrap .i64 (t11.1 + (1 : Int))), t11.2.1, t11.2.2.1, t11.2.2.2.1, t11.2.2.2.2.1, t11.2.2.2.2.2.1, t11.2.2.2.2.2.2.1, (r4 ++ ([(Go.IntKind.wrap .u8 ((rd_Vol t11.2.2.2.2.2.1 t11.1).2.1)), (Go.IntKind.wrap .u8 ((rd_Vol t11.2.2.2.2.2.1 t11.1).2.2.1)), r5] : List E_u8))) else none else none else none else k0 (t11.2.1, t11.2.2.1, t11.2.2.2.1, t11.2.2.2.2.1, t11.2.2.2.2.2.1, t11.2.2.2.2.2.2.1, t11.2.2.2.2.2.2.2)
noncomputable def L_spec_PutPool_11 {R : Type} (k0 : Qz60 → Option R) (t : T_spec_PutPool_11) : Option R := iter (S_spec_PutPool_11 k0) FUEL t
abbrev T_spec_PutPool_16 : Type := Qz59
noncomputable def S_spec_PutPool_16 {R : Type} (k0 : Qz60 → Option R) (again : T_spec_PutPool_16 → Option R) (t16 : T_spec_PutPool_16) : Option R :=
  bif (decide (t16.1 < ((List.length t16.2.2.2.2.1 : Nat) : Int))) then if (0 : Int) ≤ t16.1 then if t16.1 < ((List.length t16.2.2.2.2.1 : Nat) : Int) then Option.bind (F_spec_PutW (t16.2.2.2.2.2.2.2, (rd_Cell t16.2.2.2.2.1 t16.1).1)) fun r7 => if (0 : Int) ≤ t16.1 then if t16.1 < ((List.length t16.2.2.2.2.1 : Nat) : Int) then Option.bind (F_spec_l16Bit ((rd_Cell t16.2.2.2.2.1 t16.1).2.1)) fun r8 => if (List.length r7 + List.length ([r8] : List E_u8)) * 1 < 140737488355328 then if (0 : Int) ≤ t16.1 then if t16.1 < ((List.length t16.2.2.2.2.1 : Nat) : Int) then Option.bind (F_spec_PutW ((r7 ++ ([r8] : List E_u8)), (rd_Cell t16.2.2.2.2.1 t16.1).2.2)) fun r9 => again ((Go.IntKind.wrap .i64 (t16.1 + (1 : Int))), t16.2.1, t16.2.2.1, t16.2.2.2.1, t16.2.2.2.2.1, t16.2.2.2.2.2.1, t16.2.2.2.2.2.2.1, r9) else none else none else none else none else none else none else none else k0 (t16.2.1, t16.2.2.1, t16.2.2.2.1, t16.2.2.2.2.1, t16.2.2.2.2.2.1, t16.2.2.2.2.2.2.1, t16.2.2.2.2.2.2.2)
noncomputable def L_spec_PutPool_16 {R : Type} (k0 : Qz60 → Option R) (t : T_spec_PutPool_16) : Option R := iter (S_spec_PutPool_16 k0) FUEL t
abbrev T_spec_PutPool_25 : Type := Qz61
noncomputable def S_spec_PutPool_25 {R : Type} (k0 : Qz59 → Option R) (again : T_spec_PutPool_25 → Option R) (t25 : T_spec_PutPool_25) : Option R :=
  if (0 : Int) ≤ t25.1 then if t25.1 < ((List.length t25.2.2.2.1 : Nat) : Int) then bif (decide (t25.2.1 < ((List.length (rd_Node t25.2.2.2.1 t25.1) : Nat) : Int))) then if (0 : Int) ≤ t25.1 then if t25.1 < ((List.length t25.2.2.2.1 : Nat) : Int) then if (0 : Int) ≤ t25.2.1 then if t25.2.1 < ((List.length (rd_Node t25.2.2.2.1 t25.1) : Nat) : Int) then Option.bind (F_spec_l16Set (t25.2.2.2.2.2.2.2.2, (rd_s_Key (rd_Node t25.2.2.2.1 t25.1) t25.2.1))) fun r12 => again (t25.1, (Go.IntKind.wrap .i64 (t25.2.1 + (1 : Int))), t25.2.2.1, t25.2.2.2.1, t25.2.2.2.2.1, t25.2.2.2.2.2.1, t25.2.2.2.2.2.2.1, t25.2.2.2.2.2.2.2.1, r12) else none else none else none else none else k0 (t25.1, t25.2.2.1, t25.2.2.2.1, t25.2.2.2.2.1, t25.2.2.2.2.2.1, t25.2.2.2.2.2.2.1, t25.2.2.2.2.2.2.2.1, t25.2.2.2.2.2.2.2.2) else none else none
noncomputable def L_spec_PutPool_25 {R : Type} (k0 : Qz59 → Option R) (t : T_spec_PutPool_25) : Option R := iter (S_spec_PutPool_25 k0) FUEL t
abbrev T_spec_PutPool_21 : Type := Qz59
noncomputable def S_spec_PutPool_21 {R : Type} (k0 : List E_u8 → Option R) (again : T_spec_PutPool_21 → Option R) (t21 : T_spec_PutPool_21) : Option R :=
  bif (decide (t21.1 < ((List.length t21.2.2.1 : Nat) : Int))) then if (0 : Int) ≤ t21.1 then if t21.1 < ((List.length t21.2.1 : Nat) : Int) then Option.bind (F_spec_PutW (t21.2.2.2.2.2.2.2, (rd_i64 t21.2.1 t21.1))) fun r11 => if (0 : Int) ≤ t21.1 then if t21.1 < ((List.length t21.2.2.1 : Nat) : Int) then if (List.length r11 + List.length ([(Go.IntKind.wrap .u8 ((List.length (rd_Node t21.2.2.1 t21.1) : Nat) : Int))] : List E_u8)) * 1 < 140737488355328 then L_spec_PutPool_25 (fun x13 => again ((Go.IntKind.wrap .i64 (x13.1 + (1 : Int))), x13.2.1, x13.2.2.1, x13.2.2.2.1, x13.2.2.2.2.1, x13.2.2.2.2.2.1, x13.2.2.2.2.2.2.1, x13.2.2.2.2.2.2.2)) (t21.1, (0 : Int), t21.2.1, t21.2.2.1, t21.2.2.2.1, t21.2.2.2.2.1, t21.2.2.2.2.2.1, t21.2.2.2.2.2.2.1, (r11 ++ ([(Go.IntKind.wrap .u8 ((List.length (rd_Node t21.2.2.1 t21.1) : Nat) : Int))] : List E_u8))) else none else none else none else none else none else k0 t21.2.2.2.2.2.2.2
noncomputable def L_spec_PutPool_21 {R : Type} (k0 : List E_u8 → Option R) (t : T_spec_PutPool_21) : Option R := iter (S_spec_PutPool_21 k0) FUEL t
noncomputable def F_spec_PutPool (x : Qz48) : Option (List E_u8) :=
  Option.bind (F_spec_PoolOk (x.1, x.2.1, x.2.2.1, x.2.2.2.1, x.2.2.2.2.1, x.2.2.2.2.2)) fun r1 => bif (!r1) then some ([] : List E_u8) else Option.bind (F_spec_PutW (([] : List E_u8), x.2.2.2.2.2)) fun r2 => if (List.length r2 + List.length ([(Go.IntKind.wrap .u8 ((List.length x.2.2.1 : Nat) : Int))] : List E_u8)) * 1 < 140737488355328 then L_spec_PutPool_6 (fun x3 => if (List.length x3.2.2.2.2.2.2 + List.length ([(Go.IntKind.wrap .u8 ((List.length x3.2.2.2.2.1 : Nat) : Int))] : List E_u8)) * 1 < 140737488355328 then L_spec_PutPool_11 (fun x6 => L_spec_PutPool_16 (fun x10 => if (List.length x10.2.2.2.2.2.2 + List.length ([(Go.IntKind.wrap .u8 ((List.length x10.2.1 : Nat) : Int))] : List E_u8)) * 1 < 140737488355328 then L_spec_PutPool_21 (fun x14 => some x14) ((0 : Int), x10.1, x10.2.1, x10.2.2.1, x10.2.2.2.1, x10.2.2.2.2.1, x10.2.2.2.2.2.1, (x10.2.2.2.2.2.2 ++ ([(Go.IntKind.wrap .u8 ((List.length x10.2.1 : Nat) : Int))] : List E_u8))) else none) ((0 : Int), x6.1, x6.2.1, x6.2.2.1, x6.2.2.2.1, x6.2.2.2.2.1, x6.2.2.2.2.2.1, x6.2.2.2.2.2.2)) ((0 : Int), x3.1, x3.2.1, x3.2.2.1, x3.2.2.2.1, x3.2.2.2.2.1, x3.2.2.2.2.2.1, (x3.2.2.2.2.2.2 ++ ([(Go.IntKind.wrap .u8 ((List.length x3.2.2.2.2.1 : Nat) : Int))] : List E_u8))) else none) ((0 : Int), x.1, x.2.1, x.2.2.1, x.2.2.2.1, x.2.2.2.2.1, x.2.2.2.2.2, (r2 ++ ([(Go.IntKind.wrap .u8 ((List.length x.2.2.1 : Nat) : Int))] : List E_u8))) else none
noncomputable def f11Q : List QF := [q47, q48, q49, q50, q51]
def f11e6_0 (t : Qz59) : St := ⟨.dead :: .box 1 0 :: .dead :: .own 10000000 :: vI t.1 :: dd 169 [], [(1, .box [v_i64 t.2.1, v_Node t.2.2.1, v_Age t.2.2.2.1, v_Cell t.2.2.2.2.1, v_Vol t.2.2.2.2.2.1, vI t.2.2.2.2.2.2.1]), (10000000, .root true 5 ts_u8 t.2.2.2.2.2.2.2)]⟩
noncomputable def f11g6 : Gk T_spec_PutPool_6 := fun κ => S_spec_PutPool_6 (fun t => κ (some 0) ⟨.dead :: .box 1 0 :: .dead :: .own 10000000 :: dd 170 [], [(1, .box [v_i64 t.1, v_Node t.2.1, v_Age t.2.2.1, v_Cell t.2.2.2.1, v_Vol t.2.2.2.2.1, vI t.2.2.2.2.2.1]), (10000000, .root true 5 ts_u8 t.2.2.2.2.2.2)]⟩)
def f11e11_0 (t : Qz59) : St := ⟨.dead :: .box 1 0 :: .dead :: .own 10000000 :: .dead :: vI t.1 :: dd 168 [], [(1, .box [v_i64 t.2.1, v_Node t.2.2.1, v_Age t.2.2.2.1, v_Cell t.2.2.2.2.1, v_Vol t.2.2.2.2.2.1, vI t.2.2.2.2.2.2.1]), (10000000, .root true 5 ts_u8 t.2.2.2.2.2.2.2)]⟩
noncomputable def f11g11 : Gk T_spec_PutPool_11 := fun κ => S_spec_PutPool_11 (fun t => κ (some 2) ⟨.dead :: .box 1 0 :: .dead :: .own 10000000 :: dd 170 [], [(1, .box [v_i64 t.1, v_Node t.2.1, v_Age t.2.2.1, v_Cell t.2.2.2.1, v_Vol t.2.2.2.2.1, vI t.2.2.2.2.2.1]), (10000000, .root true 5 ts_u8 t.2.2.2.2.2.2)]⟩)
def f11e16_0 (t : Qz59) : St := ⟨.dead :: .box 1 0 :: .dead :: .own 10000000 :: dd 3 (vI t.1 :: dd 166 []), [(1, .box [v_i64 t.2.1, v_Node t.2.2.1, v_Age t.2.2.2.1, v_Cell t.2.2.2.2.1, v_Vol t.2.2.2.2.2.1, vI t.2.2.2.2.2.2.1]), (10000000, .root true 5 ts_u8 t.2.2.2.2.2.2.2)]⟩
noncomputable def f11g16 : Gk T_spec_PutPool_16 := fun κ => S_spec_PutPool_16 (fun t => κ (some 4) ⟨.dead :: .box 1 0 :: .dead :: .own 10000000 :: dd 170 [], [(1, .box [v_i64 t.1, v_Node t.2.1, v_Age t.2.2.1, v_Cell t.2.2.2.1, v_Vol t.2.2.2.2.1, vI t.2.2.2.2.2.1]), (10000000, .root true 5 ts_u8 t.2.2.2.2.2.2)]⟩)
def f11e25_0 (t : Qz61) : St := ⟨.dead :: .box 1 0 :: .dead :: .own 10000000 :: dd 4 (vI t.1 :: vI t.2.1 :: dd 164 []), [(1, .box [v_i64 t.2.2.1, v_Node t.2.2.2.1, v_Age t.2.2.2.2.1, v_Cell t.2.2.2.2.2.1, v_Vol t.2.2.2.2.2.2.1, vI t.2.2.2.2.2.2.2.1]), (10000000, .root true 5 ts_u8 t.2.2.2.2.2.2.2.2)]⟩
noncomputable def f11g25 : Gk T_spec_PutPool_25 := fun κ => S_spec_PutPool_25 (fun t => κ (some 8) ⟨.dead :: .box 1 0 :: .dead :: .own 10000000 :: dd 4 (vI t.1 :: dd 165 []), [(1, .box [v_i64 t.2.1, v_Node t.2.2.1, v_Age t.2.2.2.1, v_Cell t.2.2.2.2.1, v_Vol t.2.2.2.2.2.1, vI t.2.2.2.2.2.2.1]), (10000000, .root true 5 ts_u8 t.2.2.2.2.2.2.2)]⟩)
def f11e21_0 (t : Qz59) : St := ⟨.dead :: .box 1 0 :: .dead :: .own 10000000 :: dd 4 (vI t.1 :: dd 165 []), [(1, .box [v_i64 t.2.1, v_Node t.2.2.1, v_Age t.2.2.2.1, v_Cell t.2.2.2.2.1, v_Vol t.2.2.2.2.2.1, vI t.2.2.2.2.2.2.1]), (10000000, .root true 5 ts_u8 t.2.2.2.2.2.2.2)]⟩
noncomputable def f11g21 : Gk T_spec_PutPool_21 := fun κ => S_spec_PutPool_21 (fun t => κ (some 6) ⟨dd 3 (.own 10000000 :: dd 170 []), [(10000000, .root true 5 ts_u8 t)]⟩)
noncomputable def f11P : Lp := lpC 21 (unG qz59 f11e21_0) @f11g21 (lpC 25 (unG qz61 f11e25_0) @f11g25 (lpC 16 (unG qz59 f11e16_0) @f11g16 (lpC 11 (unG qz59 f11e11_0) @f11g11 (lpC 6 (unG qz59 f11e6_0) @f11g6 lpN))))
theorem f11C6 : LF f11Q f11P 11 6 Tryz.f11 0 f11e6_0 @f11g6 fun t => t := fun R κ again t => by kernel_rfl
theorem f11k6 : LK f11Q f11P 11 Tryz.f11 0 := loop_okG (u := (unG qz59 f11e6_0)) (by kernel_rfl) (unG_ok fun t => by kernel_rfl) (fun R κ s => by kernel_rfl) f11C6
theorem f11C11 : LF f11Q f11P 11 11 Tryz.f11 1 f11e11_0 @f11g11 fun t => t := fun R κ again t => by kernel_rfl
theorem f11k11 : LK f11Q f11P 11 Tryz.f11 1 := loop_okG (u := (unG qz59 f11e11_0)) (by kernel_rfl) (unG_ok fun t => by kernel_rfl) (fun R κ s => by kernel_rfl) f11C11
theorem f11C16 : LF f11Q f11P 11 16 Tryz.f11 2 f11e16_0 @f11g16 fun t => t := fun R κ again t => by kernel_rfl
theorem f11k16 : LK f11Q f11P 11 Tryz.f11 2 := loop_okG (u := (unG qz59 f11e16_0)) (by kernel_rfl) (unG_ok fun t => by kernel_rfl) (fun R κ s => by kernel_rfl) f11C16
theorem f11C25 : LF f11Q f11P 11 25 Tryz.f11 4 f11e25_0 @f11g25 fun t => t := fun R κ again t => by kernel_rfl
theorem f11k25 : LK f11Q f11P 11 Tryz.f11 4 := loop_okG (u := (unG qz61 f11e25_0)) (by kernel_rfl) (unG_ok fun t => by kernel_rfl) (fun R κ s => by kernel_rfl) f11C25
theorem f11C21 : LF f11Q f11P 11 21 Tryz.f11 3 f11e21_0 @f11g21 fun t => t := fun R κ again t => by kernel_rfl
theorem f11k21 : LK f11Q f11P 11 Tryz.f11 3 := loop_okG (u := (unG qz59 f11e21_0)) (by kernel_rfl) (unG_ok fun t => by kernel_rfl) (fun R κ s => by kernel_rfl) f11C21
theorem ev11 : EV f11Q f11P 11 Tryz.f11 sg11 qz48 [(.sl 5 ts_u8)] F_spec_PutPool := fun x => by kernel_rfl
noncomputable def q11 : QF := ⟨11, F_spec_PutPool, okN (n := 5) Tryz.func11 (by kernel_rfl) (by kernel_rfl) ⟨f11k6, f11k11, f11k16, f11k21, f11k25, trivial⟩ ev11⟩
abbrev T_laws_toIntS_3 : Type := Qz62
noncomputable def S_laws_toIntS_3 {R : Type} (k0 : List E_i64 → Option R) (again : T_laws_toIntS_3 → Option R) (t3 : T_laws_toIntS_3) : Option R :=
  bif (decide (t3.2.1 < ((List.length t3.1 : Nat) : Int))) then if (0 : Int) ≤ t3.2.1 then if t3.2.1 < ((List.length t3.1 : Nat) : Int) then if (0 : Int) ≤ t3.2.1 then if t3.2.1 < ((List.length t3.2.2 : Nat) : Int) then again (t3.1, (Go.IntKind.wrap .i64 (t3.2.1 + (1 : Int))), (List.set t3.2.2 (Int.toNat t3.2.1) (rd_i64 t3.1 t3.2.1))) else none else none else none else none else k0 t3.2.2
noncomputable def L_laws_toIntS_3 {R : Type} (k0 : List E_i64 → Option R) (t : T_laws_toIntS_3) : Option R := iter (S_laws_toIntS_3 k0) FUEL t
noncomputable def F_laws_toIntS (x : List E_i64) : Option (List E_i64) :=
  if (0 : Int) ≤ ((List.length x : Nat) : Int) then if ((List.length x : Nat) : Int) ≤ ((List.length x : Nat) : Int) then if ((List.length x : Nat) : Int) * ((8 : Nat) : Int) ≤ 140737488351232 then L_laws_toIntS_3 (fun x1 => some x1) (x, (0 : Int), (List.replicate (Int.toNat ((List.length x : Nat) : Int)) z_i64)) else none else none else none
noncomputable def f126Q : List QF := []
def f126e3_0 (t : Qz62) : St := ⟨v_i64 t.1 :: dd 2 (.own 10000000 :: vI t.2.1 :: dd 17 []), [(10000000, .root true 3 ts_i64 t.2.2)]⟩
noncomputable def f126g3 : Gk T_laws_toIntS_3 := fun κ => S_laws_toIntS_3 (fun t => κ (some 0) ⟨dd 3 (.own 10000000 :: dd 18 []), [(10000000, .root true 3 ts_i64 t)]⟩)
noncomputable def f126P : Lp := lpC 3 (unG qz62 f126e3_0) @f126g3 lpN
theorem f126C3 : LF f126Q f126P 126 3 Tryz.f126 0 f126e3_0 @f126g3 fun t => t := fun R κ again t => by kernel_rfl
theorem f126k3 : LK f126Q f126P 126 Tryz.f126 0 := loop_okG (u := (unG qz62 f126e3_0)) (by kernel_rfl) (unG_ok fun t => by kernel_rfl) (fun R κ s => by kernel_rfl) f126C3
theorem ev126 : EV f126Q f126P 126 Tryz.f126 sg126 [(.sl 3 ts_i64)] [(.sl 3 ts_i64)] F_laws_toIntS := fun x => by kernel_rfl
noncomputable def q126 : QF := ⟨126, F_laws_toIntS, okN (n := 1) Tryz.func126 (by kernel_rfl) (by kernel_rfl) ⟨f126k3, trivial⟩ ev126⟩
noncomputable def F_laws_toKey (x : Qz24) : Option Qz24 :=
  some (x.1, x.2.1, x.2.2.1, x.2.2.2.1, x.2.2.2.2)
theorem ev301 : EV [] lpN 301 Tryz.f301 sg301 qz24 qz24 F_laws_toKey := fun x => by kernel_rfl
noncomputable def q301 : QF := ⟨301, F_laws_toKey, okN (n := 0) Tryz.func301 (by kernel_rfl) (by kernel_rfl) trivial ev301⟩
abbrev T_laws_toKeyS_3 : Type := Qz63
noncomputable def S_laws_toKeyS_3 {R : Type} (k0 : List E_Key → Option R) (again : T_laws_toKeyS_3 → Option R) (t3 : T_laws_toKeyS_3) : Option R :=
  bif (decide (t3.2.1 < ((List.length t3.1 : Nat) : Int))) then if (0 : Int) ≤ t3.2.1 then if t3.2.1 < ((List.length t3.1 : Nat) : Int) then Option.bind (F_laws_toKey ((rd_LKey t3.1 t3.2.1).1, (rd_LKey t3.1 t3.2.1).2.1, (rd_LKey t3.1 t3.2.1).2.2.1, (rd_LKey t3.1 t3.2.1).2.2.2.1, (rd_LKey t3.1 t3.2.1).2.2.2.2)) fun r1 => if (0 : Int) ≤ t3.2.1 then if t3.2.1 < ((List.length t3.2.2 : Nat) : Int) then again (t3.1, (Go.IntKind.wrap .i64 (t3.2.1 + (1 : Int))), (List.set t3.2.2 (Int.toNat t3.2.1) (r1.1, r1.2.1, r1.2.2.1, r1.2.2.2.1, r1.2.2.2.2))) else none else none else none else none else k0 t3.2.2
noncomputable def L_laws_toKeyS_3 {R : Type} (k0 : List E_Key → Option R) (t : T_laws_toKeyS_3) : Option R := iter (S_laws_toKeyS_3 k0) FUEL t
noncomputable def F_laws_toKeyS (x : List E_LKey) : Option (List E_Key) :=
  if (0 : Int) ≤ ((List.length x : Nat) : Int) then if ((List.length x : Nat) : Int) ≤ ((List.length x : Nat) : Int) then if ((List.length x : Nat) : Int) * ((40 : Nat) : Int) ≤ 140737488351232 then L_laws_toKeyS_3 (fun x2 => some x2) (x, (0 : Int), (List.replicate (Int.toNat ((List.length x : Nat) : Int)) z_Key)) else none else none else none
noncomputable def f278Q : List QF := [q301]
def f278e3_0 (t : Qz63) : St := ⟨v_LKey t.1 :: dd 2 (.own 10000000 :: vI t.2.1 :: dd 18 []), [(10000000, .root true 106 ts_Key t.2.2)]⟩
noncomputable def f278g3 : Gk T_laws_toKeyS_3 := fun κ => S_laws_toKeyS_3 (fun t => κ (some 0) ⟨dd 3 (.own 10000000 :: dd 19 []), [(10000000, .root true 106 ts_Key t)]⟩)
noncomputable def f278P : Lp := lpC 3 (unG qz63 f278e3_0) @f278g3 lpN
theorem f278C3 : LF f278Q f278P 278 3 Tryz.f278 0 f278e3_0 @f278g3 fun t => t := fun R κ again t => by kernel_rfl
theorem f278k3 : LK f278Q f278P 278 Tryz.f278 0 := loop_okG (u := (unG qz63 f278e3_0)) (by kernel_rfl) (unG_ok fun t => by kernel_rfl) (fun R κ s => by kernel_rfl) f278C3
theorem ev278 : EV f278Q f278P 278 Tryz.f278 sg278 [(.sl 279 ts_LKey)] [(.sl 106 ts_Key)] F_laws_toKeyS := fun x => by kernel_rfl
noncomputable def q278 : QF := ⟨278, F_laws_toKeyS, okN (n := 1) Tryz.func278 (by kernel_rfl) (by kernel_rfl) ⟨f278k3, trivial⟩ ev278⟩
abbrev T_laws_toKeySS_3 : Type := Qz64
noncomputable def S_laws_toKeySS_3 {R : Type} (k0 : List E_s_Key → Option R) (again : T_laws_toKeySS_3 → Option R) (t3 : T_laws_toKeySS_3) : Option R :=
  bif (decide (t3.2.1 < ((List.length t3.1 : Nat) : Int))) then if (0 : Int) ≤ t3.2.1 then if t3.2.1 < ((List.length t3.1 : Nat) : Int) then Option.bind (F_laws_toKeyS (rd_s_LKey t3.1 t3.2.1)) fun r1 => if (0 : Int) ≤ t3.2.1 then if t3.2.1 < ((List.length t3.2.2 : Nat) : Int) then again (t3.1, (Go.IntKind.wrap .i64 (t3.2.1 + (1 : Int))), (List.set t3.2.2 (Int.toNat t3.2.1) r1)) else none else none else none else none else k0 t3.2.2
noncomputable def L_laws_toKeySS_3 {R : Type} (k0 : List E_s_Key → Option R) (t : T_laws_toKeySS_3) : Option R := iter (S_laws_toKeySS_3 k0) FUEL t
noncomputable def F_laws_toKeySS (x : List E_s_LKey) : Option (List E_s_Key) :=
  if (0 : Int) ≤ ((List.length x : Nat) : Int) then if ((List.length x : Nat) : Int) ≤ ((List.length x : Nat) : Int) then if ((List.length x : Nat) : Int) * ((24 : Nat) : Int) ≤ 140737488351232 then L_laws_toKeySS_3 (fun x2 => some x2) (x, (0 : Int), (List.replicate (Int.toNat ((List.length x : Nat) : Int)) z_s_Key)) else none else none else none
noncomputable def f245Q : List QF := [q278]
def f245e3_0 (t : Qz64) : St := ⟨v_s_LKey t.1 :: dd 2 (.own 10000000 :: vI t.2.1 :: dd 18 []), [(10000000, .deep false 0 100 ts_s_Key t.2.2)]⟩
noncomputable def f245g3 : Gk T_laws_toKeySS_3 := fun κ => S_laws_toKeySS_3 (fun t => κ (some 0) ⟨dd 3 (.own 10000000 :: dd 19 []), [(10000000, .deep false 0 100 ts_s_Key t)]⟩)
noncomputable def f245P : Lp := lpC 3 (unG qz64 f245e3_0) @f245g3 lpN
theorem f245C3 : LF f245Q f245P 245 3 Tryz.f245 0 f245e3_0 @f245g3 fun t => t := fun R κ again t => by kernel_rfl
theorem f245k3 : LK f245Q f245P 245 Tryz.f245 0 := loop_okG (u := (unG qz64 f245e3_0)) (by kernel_rfl) (unG_ok fun t => by kernel_rfl) (fun R κ s => by kernel_rfl) f245C3
theorem ev245 : EV f245Q f245P 245 Tryz.f245 sg245 [(.sl 267 ts_s_LKey)] [(.sl 100 ts_s_Key)] F_laws_toKeySS := fun x => by kernel_rfl
noncomputable def q245 : QF := ⟨245, F_laws_toKeySS, okN (n := 1) Tryz.func245 (by kernel_rfl) (by kernel_rfl) ⟨f245k3, trivial⟩ ev245⟩
noncomputable def F_laws_toNode (x : List E_s_LKey) : Option (List E_s_Key) :=
  Option.bind (F_laws_toKeySS x) fun r1 => some r1
theorem ev203 : EV [q245] lpN 203 Tryz.f203 sg203 [(.sl 267 ts_s_LKey)] [(.sl 100 ts_s_Key)] F_laws_toNode := fun x => by kernel_rfl
noncomputable def q203 : QF := ⟨203, F_laws_toNode, okN (n := 0) Tryz.func203 (by kernel_rfl) (by kernel_rfl) trivial ev203⟩
abbrev T_laws_toNodeS_3 : Type := Qz65
noncomputable def S_laws_toNodeS_3 {R : Type} (k0 : List E_Node → Option R) (again : T_laws_toNodeS_3 → Option R) (t3 : T_laws_toNodeS_3) : Option R :=
  bif (decide (t3.2.1 < ((List.length t3.1 : Nat) : Int))) then if (0 : Int) ≤ t3.2.1 then if t3.2.1 < ((List.length t3.1 : Nat) : Int) then Option.bind (F_laws_toNode (rd_LNode t3.1 t3.2.1)) fun r1 => if (0 : Int) ≤ t3.2.1 then if t3.2.1 < ((List.length t3.2.2 : Nat) : Int) then again (t3.1, (Go.IntKind.wrap .i64 (t3.2.1 + (1 : Int))), (List.set t3.2.2 (Int.toNat t3.2.1) r1)) else none else none else none else none else k0 t3.2.2
noncomputable def L_laws_toNodeS_3 {R : Type} (k0 : List E_Node → Option R) (t : T_laws_toNodeS_3) : Option R := iter (S_laws_toNodeS_3 k0) FUEL t
noncomputable def F_laws_toNodeS (x : List E_LNode) : Option (List E_Node) :=
  if (0 : Int) ≤ ((List.length x : Nat) : Int) then if ((List.length x : Nat) : Int) ≤ ((List.length x : Nat) : Int) then if ((List.length x : Nat) : Int) * ((24 : Nat) : Int) ≤ 140737488351232 then L_laws_toNodeS_3 (fun x2 => some x2) (x, (0 : Int), (List.replicate (Int.toNat ((List.length x : Nat) : Int)) z_Node)) else none else none else none
noncomputable def f127Q : List QF := [q203]
def f127e3_0 (t : Qz65) : St := ⟨v_LNode t.1 :: dd 2 (.own 10000000 :: vI t.2.1 :: dd 18 []), [(10000000, .deep false 0 98 ts_Node t.2.2)]⟩
noncomputable def f127g3 : Gk T_laws_toNodeS_3 := fun κ => S_laws_toNodeS_3 (fun t => κ (some 0) ⟨dd 3 (.own 10000000 :: dd 19 []), [(10000000, .deep false 0 98 ts_Node t)]⟩)
noncomputable def f127P : Lp := lpC 3 (unG qz65 f127e3_0) @f127g3 lpN
theorem f127C3 : LF f127Q f127P 127 3 Tryz.f127 0 f127e3_0 @f127g3 fun t => t := fun R κ again t => by kernel_rfl
theorem f127k3 : LK f127Q f127P 127 Tryz.f127 0 := loop_okG (u := (unG qz65 f127e3_0)) (by kernel_rfl) (unG_ok fun t => by kernel_rfl) (fun R κ s => by kernel_rfl) f127C3
theorem ev127 : EV f127Q f127P 127 Tryz.f127 sg127 [(.sl 216 ts_LNode)] [(.sl 98 ts_Node)] F_laws_toNodeS := fun x => by kernel_rfl
noncomputable def q127 : QF := ⟨127, F_laws_toNodeS, okN (n := 1) Tryz.func127 (by kernel_rfl) (by kernel_rfl) ⟨f127k3, trivial⟩ ev127⟩
noncomputable def F_laws_toTree (x : Qz66) : Option Qz23 :=
  Option.bind (F_laws_toIntS x.1) fun r1 => Option.bind (F_laws_toNodeS x.2) fun r2 => some (r1, r2)
theorem ev52 : EV [q126, q127] lpN 52 Tryz.f52 sg52 qz66 qz23 F_laws_toTree := fun x => by kernel_rfl
noncomputable def q52 : QF := ⟨52, F_laws_toTree, okN (n := 0) Tryz.func52 (by kernel_rfl) (by kernel_rfl) trivial ev52⟩
noncomputable def F_laws_toAge (x : Qz3) : Option Qz3 :=
  some (x.1, x.2)
theorem ev128 : EV [] lpN 128 Tryz.f128 sg128 qz3 qz3 F_laws_toAge := fun x => by kernel_rfl
noncomputable def q128 : QF := ⟨128, F_laws_toAge, okN (n := 0) Tryz.func128 (by kernel_rfl) (by kernel_rfl) trivial ev128⟩
abbrev T_laws_toAgeS_3 : Type := Qz67
noncomputable def S_laws_toAgeS_3 {R : Type} (k0 : List E_Age → Option R) (again : T_laws_toAgeS_3 → Option R) (t3 : T_laws_toAgeS_3) : Option R :=
  bif (decide (t3.2.1 < ((List.length t3.1 : Nat) : Int))) then if (0 : Int) ≤ t3.2.1 then if t3.2.1 < ((List.length t3.1 : Nat) : Int) then Option.bind (F_laws_toAge ((rd_LAge t3.1 t3.2.1).1, (rd_LAge t3.1 t3.2.1).2)) fun r1 => if (0 : Int) ≤ t3.2.1 then if t3.2.1 < ((List.length t3.2.2 : Nat) : Int) then again (t3.1, (Go.IntKind.wrap .i64 (t3.2.1 + (1 : Int))), (List.set t3.2.2 (Int.toNat t3.2.1) (r1.1, r1.2))) else none else none else none else none else k0 t3.2.2
noncomputable def L_laws_toAgeS_3 {R : Type} (k0 : List E_Age → Option R) (t : T_laws_toAgeS_3) : Option R := iter (S_laws_toAgeS_3 k0) FUEL t
noncomputable def F_laws_toAgeS (x : List E_LAge) : Option (List E_Age) :=
  if (0 : Int) ≤ ((List.length x : Nat) : Int) then if ((List.length x : Nat) : Int) ≤ ((List.length x : Nat) : Int) then if ((List.length x : Nat) : Int) * ((16 : Nat) : Int) ≤ 140737488351232 then L_laws_toAgeS_3 (fun x2 => some x2) (x, (0 : Int), (List.replicate (Int.toNat ((List.length x : Nat) : Int)) z_Age)) else none else none else none
noncomputable def f53Q : List QF := [q128]
def f53e3_0 (t : Qz67) : St := ⟨v_LAge t.1 :: dd 2 (.own 10000000 :: vI t.2.1 :: dd 18 []), [(10000000, .root true 89 ts_Age t.2.2)]⟩
noncomputable def f53g3 : Gk T_laws_toAgeS_3 := fun κ => S_laws_toAgeS_3 (fun t => κ (some 0) ⟨dd 3 (.own 10000000 :: dd 19 []), [(10000000, .root true 89 ts_Age t)]⟩)
noncomputable def f53P : Lp := lpC 3 (unG qz67 f53e3_0) @f53g3 lpN
theorem f53C3 : LF f53Q f53P 53 3 Tryz.f53 0 f53e3_0 @f53g3 fun t => t := fun R κ again t => by kernel_rfl
theorem f53k3 : LK f53Q f53P 53 Tryz.f53 0 := loop_okG (u := (unG qz67 f53e3_0)) (by kernel_rfl) (unG_ok fun t => by kernel_rfl) (fun R κ s => by kernel_rfl) f53C3
theorem ev53 : EV f53Q f53P 53 Tryz.f53 sg53 [(.sl 166 ts_LAge)] [(.sl 89 ts_Age)] F_laws_toAgeS := fun x => by kernel_rfl
noncomputable def q53 : QF := ⟨53, F_laws_toAgeS, okN (n := 1) Tryz.func53 (by kernel_rfl) (by kernel_rfl) ⟨f53k3, trivial⟩ ev53⟩
noncomputable def F_laws_toCell (x : Qz68) : Option Qz68 :=
  some (x.1, x.2.1, x.2.2)
theorem ev129 : EV [] lpN 129 Tryz.f129 sg129 qz68 qz68 F_laws_toCell := fun x => by kernel_rfl
noncomputable def q129 : QF := ⟨129, F_laws_toCell, okN (n := 0) Tryz.func129 (by kernel_rfl) (by kernel_rfl) trivial ev129⟩
abbrev T_laws_toCellS_3 : Type := Qz69
noncomputable def S_laws_toCellS_3 {R : Type} (k0 : List E_Cell → Option R) (again : T_laws_toCellS_3 → Option R) (t3 : T_laws_toCellS_3) : Option R :=
  bif (decide (t3.2.1 < ((List.length t3.1 : Nat) : Int))) then if (0 : Int) ≤ t3.2.1 then if t3.2.1 < ((List.length t3.1 : Nat) : Int) then Option.bind (F_laws_toCell ((rd_LCell t3.1 t3.2.1).1, (rd_LCell t3.1 t3.2.1).2.1, (rd_LCell t3.1 t3.2.1).2.2)) fun r1 => if (0 : Int) ≤ t3.2.1 then if t3.2.1 < ((List.length t3.2.2 : Nat) : Int) then again (t3.1, (Go.IntKind.wrap .i64 (t3.2.1 + (1 : Int))), (List.set t3.2.2 (Int.toNat t3.2.1) (r1.1, r1.2.1, r1.2.2))) else none else none else none else none else k0 t3.2.2
noncomputable def L_laws_toCellS_3 {R : Type} (k0 : List E_Cell → Option R) (t : T_laws_toCellS_3) : Option R := iter (S_laws_toCellS_3 k0) FUEL t
noncomputable def F_laws_toCellS (x : List E_LCell) : Option (List E_Cell) :=
  if (0 : Int) ≤ ((List.length x : Nat) : Int) then if ((List.length x : Nat) : Int) ≤ ((List.length x : Nat) : Int) then if ((List.length x : Nat) : Int) * ((24 : Nat) : Int) ≤ 140737488351232 then L_laws_toCellS_3 (fun x2 => some x2) (x, (0 : Int), (List.replicate (Int.toNat ((List.length x : Nat) : Int)) z_Cell)) else none else none else none
noncomputable def f54Q : List QF := [q129]
def f54e3_0 (t : Qz69) : St := ⟨v_LCell t.1 :: dd 2 (.own 10000000 :: vI t.2.1 :: dd 18 []), [(10000000, .root true 95 ts_Cell t.2.2)]⟩
noncomputable def f54g3 : Gk T_laws_toCellS_3 := fun κ => S_laws_toCellS_3 (fun t => κ (some 0) ⟨dd 3 (.own 10000000 :: dd 19 []), [(10000000, .root true 95 ts_Cell t)]⟩)
noncomputable def f54P : Lp := lpC 3 (unG qz69 f54e3_0) @f54g3 lpN
theorem f54C3 : LF f54Q f54P 54 3 Tryz.f54 0 f54e3_0 @f54g3 fun t => t := fun R κ again t => by kernel_rfl
theorem f54k3 : LK f54Q f54P 54 Tryz.f54 0 := loop_okG (u := (unG qz69 f54e3_0)) (by kernel_rfl) (unG_ok fun t => by kernel_rfl) (fun R κ s => by kernel_rfl) f54C3
theorem ev54 : EV f54Q f54P 54 Tryz.f54 sg54 [(.sl 168 ts_LCell)] [(.sl 95 ts_Cell)] F_laws_toCellS := fun x => by kernel_rfl
noncomputable def q54 : QF := ⟨54, F_laws_toCellS, okN (n := 1) Tryz.func54 (by kernel_rfl) (by kernel_rfl) ⟨f54k3, trivial⟩ ev54⟩
noncomputable def F_laws_toVol (x : Qz70) : Option Qz70 :=
  some (x.1, x.2.1, x.2.2.1, x.2.2.2)
theorem ev130 : EV [] lpN 130 Tryz.f130 sg130 qz70 qz70 F_laws_toVol := fun x => by kernel_rfl
noncomputable def q130 : QF := ⟨130, F_laws_toVol, okN (n := 0) Tryz.func130 (by kernel_rfl) (by kernel_rfl) trivial ev130⟩
abbrev T_laws_toVolS_3 : Type := Qz71
noncomputable def S_laws_toVolS_3 {R : Type} (k0 : List E_Vol → Option R) (again : T_laws_toVolS_3 → Option R) (t3 : T_laws_toVolS_3) : Option R :=
  bif (decide (t3.2.1 < ((List.length t3.1 : Nat) : Int))) then if (0 : Int) ≤ t3.2.1 then if t3.2.1 < ((List.length t3.1 : Nat) : Int) then Option.bind (F_laws_toVol ((rd_LVol t3.1 t3.2.1).1, (rd_LVol t3.1 t3.2.1).2.1, (rd_LVol t3.1 t3.2.1).2.2.1, (rd_LVol t3.1 t3.2.1).2.2.2)) fun r1 => if (0 : Int) ≤ t3.2.1 then if t3.2.1 < ((List.length t3.2.2 : Nat) : Int) then again (t3.1, (Go.IntKind.wrap .i64 (t3.2.1 + (1 : Int))), (List.set t3.2.2 (Int.toNat t3.2.1) (r1.1, r1.2.1, r1.2.2.1, r1.2.2.2))) else none else none else none else none else k0 t3.2.2
noncomputable def L_laws_toVolS_3 {R : Type} (k0 : List E_Vol → Option R) (t : T_laws_toVolS_3) : Option R := iter (S_laws_toVolS_3 k0) FUEL t
noncomputable def F_laws_toVolS (x : List E_LVol) : Option (List E_Vol) :=
  if (0 : Int) ≤ ((List.length x : Nat) : Int) then if ((List.length x : Nat) : Int) ≤ ((List.length x : Nat) : Int) then if ((List.length x : Nat) : Int) * ((40 : Nat) : Int) ≤ 140737488351232 then L_laws_toVolS_3 (fun x2 => some x2) (x, (0 : Int), (List.replicate (Int.toNat ((List.length x : Nat) : Int)) z_Vol)) else none else none else none
noncomputable def f55Q : List QF := [q130]
def f55e3_0 (t : Qz71) : St := ⟨v_LVol t.1 :: dd 2 (.own 10000000 :: vI t.2.1 :: dd 18 []), [(10000000, .root true 91 ts_Vol t.2.2)]⟩
noncomputable def f55g3 : Gk T_laws_toVolS_3 := fun κ => S_laws_toVolS_3 (fun t => κ (some 0) ⟨dd 3 (.own 10000000 :: dd 19 []), [(10000000, .root true 91 ts_Vol t)]⟩)
noncomputable def f55P : Lp := lpC 3 (unG qz71 f55e3_0) @f55g3 lpN
theorem f55C3 : LF f55Q f55P 55 3 Tryz.f55 0 f55e3_0 @f55g3 fun t => t := fun R κ again t => by kernel_rfl
theorem f55k3 : LK f55Q f55P 55 Tryz.f55 0 := loop_okG (u := (unG qz71 f55e3_0)) (by kernel_rfl) (unG_ok fun t => by kernel_rfl) (fun R κ s => by kernel_rfl) f55C3
theorem ev55 : EV f55Q f55P 55 Tryz.f55 sg55 [(.sl 158 ts_LVol)] [(.sl 91 ts_Vol)] F_laws_toVolS := fun x => by kernel_rfl
noncomputable def q55 : QF := ⟨55, F_laws_toVolS, okN (n := 1) Tryz.func55 (by kernel_rfl) (by kernel_rfl) ⟨f55k3, trivial⟩ ev55⟩
noncomputable def F_laws_toPool (x : Qz72) : Option Qz48 :=
  Option.bind (F_laws_toTree (x.1, x.2.1)) fun r1 => Option.bind (F_laws_toAgeS x.2.2.1) fun r2 => Option.bind (F_laws_toCellS x.2.2.2.1) fun r3 => Option.bind (F_laws_toVolS x.2.2.2.2.1) fun r4 => some (r1.1, r1.2, r2, r3, r4, x.2.2.2.2.2)
theorem ev12 : EV [q52, q53, q54, q55] lpN 12 Tryz.f12 sg12 qz72 qz48 F_laws_toPool := fun x => by kernel_rfl
noncomputable def q12 : QF := ⟨12, F_laws_toPool, okN (n := 0) Tryz.func12 (by kernel_rfl) (by kernel_rfl) trivial ev12⟩
noncomputable def F_impl_within (x : Qz14) : Option Bool :=
  Option.bind (bif (decide (x.1 ≥ x.2.1)) then some (decide (x.1 ≤ x.2.2)) else some false) fun u1 => some u1
theorem ev134 : EV [] lpN 134 Tryz.f134 sg134 qz14 [.bool] F_impl_within := fun x => by kernel_rfl
noncomputable def q134 : QF := ⟨134, F_impl_within, okN (n := 0) Tryz.func134 (by kernel_rfl) (by kernel_rfl) trivial ev134⟩
noncomputable def F_impl_KeyOk (x : Qz24) : Option Bool :=
  Option.bind (F_impl_within (x.1, (0 : Int), (15 : Int))) fun r1 => Option.bind (bif (!r1) then some true else Option.bind (F_impl_within (x.2.1, (1 : Int), (60 : Int))) fun r3 => some (!r3)) fun u2 => Option.bind (bif u2 then some true else Option.bind (F_impl_within (x.2.2.1, (0 : Int), (2 : Int))) fun r5 => some (!r5)) fun u4 => bif u4 then some false else bif (x.2.2.1 != (1 : Int)) then Option.bind (bif (x.2.2.2.1 == (0 : Int)) then some (x.2.2.2.2 == (0 : Int)) else some false) fun u6 => some u6 else Option.bind (F_impl_within (x.2.2.2.1, (0 : Int), (23 : Int))) fun r7 => Option.bind (bif r7 then Option.bind (F_impl_within (x.2.2.2.2, (0 : Int), (999 : Int))) fun r9 => some r9 else some false) fun u8 => some u8
theorem ev138 : EV [q134] lpN 138 Tryz.f138 sg138 qz24 [.bool] F_impl_KeyOk := fun x => by kernel_rfl
noncomputable def q138 : QF := ⟨138, F_impl_KeyOk, okN (n := 0) Tryz.func138 (by kernel_rfl) (by kernel_rfl) trivial ev138⟩
noncomputable def F_impl_LessKey (x : Qz16) : Option Bool :=
  Option.bind (bif (decide (x.1 < x.2.2.2.2.2.1)) then some true else Option.bind (bif (x.1 == x.2.2.2.2.2.1) then some (decide (x.2.1 < x.2.2.2.2.2.2.1)) else some false) fun u2 => some u2) fun u1 => some u1
theorem ev279 : EV [] lpN 279 Tryz.f279 sg279 qz16 [.bool] F_impl_LessKey := fun x => by kernel_rfl
noncomputable def q279 : QF := ⟨279, F_impl_LessKey, okN (n := 0) Tryz.func279 (by kernel_rfl) (by kernel_rfl) trivial ev279⟩
abbrev T_impl_SetOk_2 : Type := Qz73
noncomputable def S_impl_SetOk_2 {R : Type} (k0 : Qz26 → Option R) (k1 : List E_Key → Option R) (again : T_impl_SetOk_2 → Option R) (t2 : T_impl_SetOk_2) : Option R :=
  bif (decide (t2.2.2.2 < t2.2.2.1)) then if (0 : Int) ≤ t2.2.2.2 then if t2.2.2.2 < ((List.length t2.2.1 : Nat) : Int) then Option.bind (F_impl_KeyOk ((rd_Key t2.2.1 t2.2.2.2).1, (rd_Key t2.2.1 t2.2.2.2).2.1, (rd_Key t2.2.1 t2.2.2.2).2.2.1, (rd_Key t2.2.1 t2.2.2.2).2.2.2.1, (rd_Key t2.2.1 t2.2.2.2).2.2.2.2)) fun r1 => Option.bind (bif (!r1) then some true else Option.bind (bif (decide (t2.2.2.2 > (0 : Int))) then if (0 : Int) ≤ (Go.IntKind.wrap .i64 (t2.2.2.2 - (1 : Int))) then if (Go.IntKind.wrap .i64 (t2.2.2.2 - (1 : Int))) < ((List.length t2.1 : Nat) : Int) then Option.bind (F_impl_LessKey ((rd_Key t2.1 (Go.IntKind.wrap .i64 (t2.2.2.2 - (1 : Int)))).1, (rd_Key t2.1 (Go.IntKind.wrap .i64 (t2.2.2.2 - (1 : Int)))).2.1, (rd_Key t2.1 (Go.IntKind.wrap .i64 (t2.2.2.2 - (1 : Int)))).2.2.1, (rd_Key t2.1 (Go.IntKind.wrap .i64 (t2.2.2.2 - (1 : Int)))).2.2.2.1, (rd_Key t2.1 (Go.IntKind.wrap .i64 (t2.2.2.2 - (1 : Int)))).2.2.2.2, (rd_Key t2.2.1 t2.2.2.2).1, (rd_Key t2.2.1 t2.2.2.2).2.1, (rd_Key t2.2.1 t2.2.2.2).2.2.1, (rd_Key t2.2.1 t2.2.2.2).2.2.2.1, (rd_Key t2.2.1 t2.2.2.2).2.2.2.2)) fun r4 => some (!r4) else none else none else some false) fun u3 => some u3) fun u2 => bif u2 then k0 (t2.1, false) else again (t2.1, t2.2.1, t2.2.2.1, (Go.IntKind.wrap .i64 (t2.2.2.2 + (1 : Int)))) else none else none else k1 t2.1
noncomputable def L_impl_SetOk_2 {R : Type} (k0 : Qz26 → Option R) (k1 : List E_Key → Option R) (t : T_impl_SetOk_2) : Option R := iter (S_impl_SetOk_2 k0 k1) FUEL t
noncomputable def F_impl_SetOk (x : List E_Key) : Option Bool :=
  L_impl_SetOk_2 (fun x5 => some x5.2) (fun x6 => some (decide (((List.length x6 : Nat) : Int) ≤ (60 : Int)))) (x, x, ((List.length x : Nat) : Int), (0 : Int))
noncomputable def f246Q : List QF := [q138, q279]
def f246e2_0 (t : Qz73) : St := ⟨v_Key t.1 :: dd 4 (v_Key t.2.1 :: vI t.2.2.1 :: vI t.2.2.2 :: dd 25 []), []⟩
noncomputable def f246g2 : Gk T_impl_SetOk_2 := fun κ => S_impl_SetOk_2 (fun t => κ none ⟨v_Key t.1 :: .dead :: vB t.2 :: dd 30 [], []⟩) (fun t => κ (some 0) ⟨v_Key t :: dd 32 [], []⟩)
noncomputable def f246P : Lp := lpC 2 (unG qz73 f246e2_0) @f246g2 lpN
theorem f246C2 : LF f246Q f246P 246 2 Tryz.f246 0 f246e2_0 @f246g2 fun t => t := fun R κ again t => by kernel_rfl
theorem f246k2 : LK f246Q f246P 246 Tryz.f246 0 := loop_okG (u := (unG qz73 f246e2_0)) (by kernel_rfl) (unG_ok fun t => by kernel_rfl) (fun R κ s => by kernel_rfl) f246C2
theorem ev246 : EV f246Q f246P 246 Tryz.f246 sg246 [(.sl 106 ts_Key)] [.bool] F_impl_SetOk := fun x => by kernel_rfl
noncomputable def q246 : QF := ⟨246, F_impl_SetOk, okN (n := 1) Tryz.func246 (by kernel_rfl) (by kernel_rfl) ⟨f246k2, trivial⟩ ev246⟩
abbrev T_impl_NodeOk_3 : Type := Qz74
noncomputable def S_impl_NodeOk_3 {R : Type} (k0 : Qz75 → Option R) (k1 : Qz28 → Option R) (again : T_impl_NodeOk_3 → Option R) (t3 : T_impl_NodeOk_3) : Option R :=
  bif (decide (t3.2.2.2.1 < t3.2.2.1)) then if (0 : Int) ≤ t3.2.2.2.1 then if t3.2.2.2.1 < ((List.length t3.2.1 : Nat) : Int) then Option.bind (F_impl_SetOk (rd_s_Key t3.2.1 t3.2.2.2.1)) fun r1 => Option.bind (bif (!r1) then some true else some (((List.length (rd_s_Key t3.2.1 t3.2.2.2.1) : Nat) : Int) == (0 : Int))) fun u2 => bif u2 then k0 (false, t3.1, t3.2.2.2.2) else again ((Go.IntKind.wrap .i64 (t3.1 + ((List.length (rd_s_Key t3.2.1 t3.2.2.2.1) : Nat) : Int))), t3.2.1, t3.2.2.1, (Go.IntKind.wrap .i64 (t3.2.2.2.1 + (1 : Int))), t3.2.2.2.2) else none else none else k1 (t3.1, t3.2.2.2.2)
noncomputable def L_impl_NodeOk_3 {R : Type} (k0 : Qz75 → Option R) (k1 : Qz28 → Option R) (t : T_impl_NodeOk_3) : Option R := iter (S_impl_NodeOk_3 k0 k1) FUEL t
noncomputable def F_impl_NodeOk (x : List E_s_Key) : Option Bool :=
  L_impl_NodeOk_3 (fun x3 => some x3.1) (fun x4 => Option.bind (bif (decide (((List.length x4.2 : Nat) : Int) ≤ (3 : Int))) then some (decide (x4.1 ≤ (8 : Int))) else some false) fun u5 => some u5) ((0 : Int), x, ((List.length x : Nat) : Int), (0 : Int), x)
noncomputable def f204Q : List QF := [q246]
def f204e3_0 (t : Qz74) : St := ⟨.dead :: .box 1 0 :: .dead :: vI t.1 :: dd 3 (v_s_Key t.2.1 :: vI t.2.2.1 :: vI t.2.2.2.1 :: dd 24 []), [(1, .box [v_s_Key t.2.2.2.2])]⟩
noncomputable def f204g3 : Gk T_impl_NodeOk_3 := fun κ => S_impl_NodeOk_3 (fun t => κ none ⟨.dead :: .box 1 0 :: vB t.1 :: vI t.2.1 :: dd 30 [], [(1, .box [v_s_Key t.2.2])]⟩) (fun t => κ (some 0) ⟨.dead :: .box 1 0 :: .dead :: vI t.1 :: dd 30 [], [(1, .box [v_s_Key t.2])]⟩)
noncomputable def f204P : Lp := lpC 3 (unG qz74 f204e3_0) @f204g3 lpN
theorem f204C3 : LF f204Q f204P 204 3 Tryz.f204 0 f204e3_0 @f204g3 fun t => t := fun R κ again t => by kernel_rfl
theorem f204k3 : LK f204Q f204P 204 Tryz.f204 0 := loop_okG (u := (unG qz74 f204e3_0)) (by kernel_rfl) (unG_ok fun t => by kernel_rfl) (fun R κ s => by kernel_rfl) f204C3
theorem ev204 : EV f204Q f204P 204 Tryz.f204 sg204 [(.sl 100 ts_s_Key)] [.bool] F_impl_NodeOk := fun x => by kernel_rfl
noncomputable def q204 : QF := ⟨204, F_impl_NodeOk, okN (n := 1) Tryz.func204 (by kernel_rfl) (by kernel_rfl) ⟨f204k3, trivial⟩ ev204⟩
noncomputable def F_impl_SpotOf (x : Qz3) : Option Int :=
  some (Go.IntKind.wrap .i64 ((Go.IntKind.wrap .i64 ((64 : Int) * x.1)) + x.2))
theorem ev247 : EV [] lpN 247 Tryz.f247 sg247 qz3 [(.int .i64)] F_impl_SpotOf := fun x => by kernel_rfl
noncomputable def q247 : QF := ⟨247, F_impl_SpotOf, okN (n := 0) Tryz.func247 (by kernel_rfl) (by kernel_rfl) trivial ev247⟩
abbrev T_impl_inBounds_5 : Type := Qz76
noncomputable def S_impl_inBounds_5 {R : Type} (k0 : Qz77 → Option R) (k1 : Qz78 → Option R) (again : T_impl_inBounds_5 → Option R) (t5 : T_impl_inBounds_5) : Option R :=
  bif (decide (t5.2.2.2.2.2.2.1 < t5.2.2.2.2.2.1)) then if (0 : Int) ≤ t5.2.2.2.2.2.2.1 then if t5.2.2.2.2.2.2.1 < ((List.length t5.2.2.2.2.1 : Nat) : Int) then Option.bind (F_impl_SpotOf ((rd_Key t5.2.2.2.2.1 t5.2.2.2.2.2.2.1).1, (rd_Key t5.2.2.2.2.1 t5.2.2.2.2.2.2.1).2.1)) fun r1 => if (0 : Int) ≤ t5.1 then if t5.1 < ((List.length t5.2.2.2.2.2.2.2.1 : Nat) : Int) then Option.bind (bif (decide (r1 < (rd_i64 t5.2.2.2.2.2.2.2.1 t5.1))) then some true else Option.bind (bif (decide ((Go.IntKind.wrap .i64 (t5.1 + (1 : Int))) < ((List.length t5.2.2.2.2.2.2.2.1 : Nat) : Int))) then if (0 : Int) ≤ (Go.IntKind.wrap .i64 (t5.1 + (1 : Int))) then if (Go.IntKind.wrap .i64 (t5.1 + (1 : Int))) < ((List.length t5.2.2.2.2.2.2.2.1 : Nat) : Int) then some (decide (r1 ≥ (rd_i64 t5.2.2.2.2.2.2.2.1 (Go.IntKind.wrap .i64 (t5.1 + (1 : Int)))))) else none else none else some false) fun u3 => some u3) fun u2 => bif u2 then k0 (t5.1, false, t5.2.1, t5.2.2.1, t5.2.2.2.1, t5.2.2.2.2.2.2.2.1, t5.2.2.2.2.2.2.2.2) else again (t5.1, t5.2.1, t5.2.2.1, t5.2.2.2.1, t5.2.2.2.2.1, t5.2.2.2.2.2.1, (Go.IntKind.wrap .i64 (t5.2.2.2.2.2.2.1 + (1 : Int))), t5.2.2.2.2.2.2.2.1, t5.2.2.2.2.2.2.2.2) else none else none else none else none else k1 (t5.1, t5.2.1, t5.2.2.1, t5.2.2.2.1, t5.2.2.2.2.2.2.2.1, t5.2.2.2.2.2.2.2.2)
noncomputable def L_impl_inBounds_5 {R : Type} (k0 : Qz77 → Option R) (k1 : Qz78 → Option R) (t : T_impl_inBounds_5) : Option R := iter (S_impl_inBounds_5 k0 k1) FUEL t
abbrev T_impl_inBounds_2 : Type := Qz78
noncomputable def S_impl_inBounds_2 {R : Type} (k0 : Bool → Option R) (k1 : Unit → Option R) (again : T_impl_inBounds_2 → Option R) (t2 : T_impl_inBounds_2) : Option R :=
  bif (decide (t2.2.2.2.1 < t2.2.2.1)) then if (0 : Int) ≤ t2.2.2.2.1 then if t2.2.2.2.1 < ((List.length t2.2.1 : Nat) : Int) then L_impl_inBounds_5 (fun x4 => k0 x4.2.1) (fun x5 => again (x5.1, x5.2.1, x5.2.2.1, (Go.IntKind.wrap .i64 (x5.2.2.2.1 + (1 : Int))), x5.2.2.2.2.1, x5.2.2.2.2.2)) (t2.1, t2.2.1, t2.2.2.1, t2.2.2.2.1, (rd_s_Key t2.2.1 t2.2.2.2.1), ((List.length (rd_s_Key t2.2.1 t2.2.2.2.1) : Nat) : Int), (0 : Int), t2.2.2.2.2.1, t2.2.2.2.2.2) else none else none else k1 ()
noncomputable def L_impl_inBounds_2 {R : Type} (k0 : Bool → Option R) (k1 : Unit → Option R) (t : T_impl_inBounds_2) : Option R := iter (S_impl_inBounds_2 k0 k1) FUEL t
noncomputable def F_impl_inBounds (x : Qz33) : Option Bool :=
  if (0 : Int) ≤ x.2.2 then if x.2.2 < ((List.length x.2.1 : Nat) : Int) then L_impl_inBounds_2 (fun x6 => some x6) (fun x7 => some true) (x.2.2, (rd_Node x.2.1 x.2.2), ((List.length (rd_Node x.2.1 x.2.2) : Nat) : Int), (0 : Int), x.1, x.2.1) else none else none
noncomputable def f205Q : List QF := [q247]
def f205e5_0 (t : Qz76) : St := ⟨.dead :: vI t.1 :: .box 2 0 :: dd 12 (v_s_Key t.2.1 :: vI t.2.2.1 :: vI t.2.2.2.1 :: dd 3 (v_Key t.2.2.2.2.1 :: vI t.2.2.2.2.2.1 :: vI t.2.2.2.2.2.2.1 :: dd 35 [])), [(2, .box [v_i64 t.2.2.2.2.2.2.2.1, v_Node t.2.2.2.2.2.2.2.2])]⟩
noncomputable def f205g5 : Gk T_impl_inBounds_5 := fun κ => S_impl_inBounds_5 (fun t => κ none ⟨.dead :: vI t.1 :: .box 2 0 :: .dead :: vB t.2.1 :: dd 10 (v_s_Key t.2.2.1 :: vI t.2.2.2.1 :: vI t.2.2.2.2.1 :: dd 41 []), [(2, .box [v_i64 t.2.2.2.2.2.1, v_Node t.2.2.2.2.2.2])]⟩) (fun t => κ (some 2) ⟨.dead :: vI t.1 :: .box 2 0 :: dd 12 (v_s_Key t.2.1 :: vI t.2.2.1 :: vI t.2.2.2.1 :: dd 41 []), [(2, .box [v_i64 t.2.2.2.2.1, v_Node t.2.2.2.2.2])]⟩)
def f205e2_0 (t : Qz78) : St := ⟨.dead :: vI t.1 :: .box 2 0 :: dd 12 (v_s_Key t.2.1 :: vI t.2.2.1 :: vI t.2.2.2.1 :: dd 41 []), [(2, .box [v_i64 t.2.2.2.2.1, v_Node t.2.2.2.2.2])]⟩
noncomputable def f205g2 : Gk T_impl_inBounds_2 := fun κ => S_impl_inBounds_2 (fun t => κ none ⟨dd 4 (vB t :: dd 54 []), []⟩) (fun t => κ (some 0) ⟨dd 59 [], []⟩)
noncomputable def f205P : Lp := lpC 2 (unG qz78 f205e2_0) @f205g2 (lpC 5 (unG qz76 f205e5_0) @f205g5 lpN)
theorem f205C5 : LF f205Q f205P 205 5 Tryz.f205 1 f205e5_0 @f205g5 fun t => t := fun R κ again t => by kernel_rfl
theorem f205k5 : LK f205Q f205P 205 Tryz.f205 1 := loop_okG (u := (unG qz76 f205e5_0)) (by kernel_rfl) (unG_ok fun t => by kernel_rfl) (fun R κ s => by kernel_rfl) f205C5
theorem f205C2 : LF f205Q f205P 205 2 Tryz.f205 0 f205e2_0 @f205g2 fun t => t := fun R κ again t => by kernel_rfl
theorem f205k2 : LK f205Q f205P 205 Tryz.f205 0 := loop_okG (u := (unG qz78 f205e2_0)) (by kernel_rfl) (unG_ok fun t => by kernel_rfl) (fun R κ s => by kernel_rfl) f205C2
theorem ev205 : EV f205Q f205P 205 Tryz.f205 sg205 qz33 [.bool] F_impl_inBounds := fun x => by kernel_rfl
noncomputable def q205 : QF := ⟨205, F_impl_inBounds, okN (n := 2) Tryz.func205 (by kernel_rfl) (by kernel_rfl) ⟨f205k2, f205k5, trivial⟩ ev205⟩
noncomputable def F_impl_copyKeys (x : List E_Key) : Option (List E_Key) :=
  if (List.length ([] : List E_Key) + List.length x) * 40 < 140737488355328 then some (([] : List E_Key) ++ x) else none
theorem ev280 : EV [] lpN 280 Tryz.f280 sg280 [(.sl 106 ts_Key)] [(.sl 106 ts_Key)] F_impl_copyKeys := fun x => by kernel_rfl
noncomputable def q280 : QF := ⟨280, F_impl_copyKeys, okN (n := 0) Tryz.func280 (by kernel_rfl) (by kernel_rfl) trivial ev280⟩
noncomputable def F_impl_SameSpot (x : Qz16) : Option Bool :=
  Option.bind (bif (x.1 == x.2.2.2.2.2.1) then some (x.2.1 == x.2.2.2.2.2.2.1) else some false) fun u1 => some u1
theorem ev302 : EV [] lpN 302 Tryz.f302 sg302 qz16 [.bool] F_impl_SameSpot := fun x => by kernel_rfl
noncomputable def q302 : QF := ⟨302, F_impl_SameSpot, okN (n := 0) Tryz.func302 (by kernel_rfl) (by kernel_rfl) trivial ev302⟩
abbrev T_impl_SetPut_4 : Type := Qz79
noncomputable def S_impl_SetPut_4 {R : Type} (k0 : Qz18 → Option R) (again : T_impl_SetPut_4 → Option R) (t4 : T_impl_SetPut_4) : Option R :=
  bif (decide (t4.2.2.2.1 < t4.2.2.1)) then if (0 : Int) ≤ t4.2.2.2.1 then if t4.2.2.2.1 < ((List.length t4.2.1 : Nat) : Int) then Option.bind (bif (!t4.1) then Option.bind (F_impl_LessKey ((rd_Key t4.2.1 t4.2.2.2.1).1, (rd_Key t4.2.1 t4.2.2.2.1).2.1, (rd_Key t4.2.1 t4.2.2.2.1).2.2.1, (rd_Key t4.2.1 t4.2.2.2.1).2.2.2.1, (rd_Key t4.2.1 t4.2.2.2.1).2.2.2.2, t4.2.2.2.2.1, t4.2.2.2.2.2.1, t4.2.2.2.2.2.2.1, t4.2.2.2.2.2.2.2.1, t4.2.2.2.2.2.2.2.2.1)) fun r2 => some (!r2) else some false) fun u1 => bif u1 then if (List.length t4.2.2.2.2.2.2.2.2.2 + List.length ([(t4.2.2.2.2.1, t4.2.2.2.2.2.1, t4.2.2.2.2.2.2.1, t4.2.2.2.2.2.2.2.1, t4.2.2.2.2.2.2.2.2.1)] : List E_Key)) * 40 < 140737488355328 then Option.bind (F_impl_SameSpot ((rd_Key t4.2.1 t4.2.2.2.1).1, (rd_Key t4.2.1 t4.2.2.2.1).2.1, (rd_Key t4.2.1 t4.2.2.2.1).2.2.1, (rd_Key t4.2.1 t4.2.2.2.1).2.2.2.1, (rd_Key t4.2.1 t4.2.2.2.1).2.2.2.2, t4.2.2.2.2.1, t4.2.2.2.2.2.1, t4.2.2.2.2.2.2.1, t4.2.2.2.2.2.2.2.1, t4.2.2.2.2.2.2.2.2.1)) fun r3 => bif (!r3) then if (List.length (t4.2.2.2.2.2.2.2.2.2 ++ ([(t4.2.2.2.2.1, t4.2.2.2.2.2.1, t4.2.2.2.2.2.2.1, t4.2.2.2.2.2.2.2.1, t4.2.2.2.2.2.2.2.2.1)] : List E_Key)) + List.length ([((rd_Key t4.2.1 t4.2.2.2.1).1, (rd_Key t4.2.1 t4.2.2.2.1).2.1, (rd_Key t4.2.1 t4.2.2.2.1).2.2.1, (rd_Key t4.2.1 t4.2.2.2.1).2.2.2.1, (rd_Key t4.2.1 t4.2.2.2.1).2.2.2.2)] : List E_Key)) * 40 < 140737488355328 then again (true, t4.2.1, t4.2.2.1, (Go.IntKind.wrap .i64 (t4.2.2.2.1 + (1 : Int))), t4.2.2.2.2.1, t4.2.2.2.2.2.1, t4.2.2.2.2.2.2.1, t4.2.2.2.2.2.2.2.1, t4.2.2.2.2.2.2.2.2.1, ((t4.2.2.2.2.2.2.2.2.2 ++ ([(t4.2.2.2.2.1, t4.2.2.2.2.2.1, t4.2.2.2.2.2.2.1, t4.2.2.2.2.2.2.2.1, t4.2.2.2.2.2.2.2.2.1)] : List E_Key)) ++ ([((rd_Key t4.2.1 t4.2.2.2.1).1, (rd_Key t4.2.1 t4.2.2.2.1).2.1, (rd_Key t4.2.1 t4.2.2.2.1).2.2.1, (rd_Key t4.2.1 t4.2.2.2.1).2.2.2.1, (rd_Key t4.2.1 t4.2.2.2.1).2.2.2.2)] : List E_Key))) else none else again (true, t4.2.1, t4.2.2.1, (Go.IntKind.wrap .i64 (t4.2.2.2.1 + (1 : Int))), t4.2.2.2.2.1, t4.2.2.2.2.2.1, t4.2.2.2.2.2.2.1, t4.2.2.2.2.2.2.2.1, t4.2.2.2.2.2.2.2.2.1, (t4.2.2.2.2.2.2.2.2.2 ++ ([(t4.2.2.2.2.1, t4.2.2.2.2.2.1, t4.2.2.2.2.2.2.1, t4.2.2.2.2.2.2.2.1, t4.2.2.2.2.2.2.2.2.1)] : List E_Key))) else none else Option.bind (F_impl_SameSpot ((rd_Key t4.2.1 t4.2.2.2.1).1, (rd_Key t4.2.1 t4.2.2.2.1).2.1, (rd_Key t4.2.1 t4.2.2.2.1).2.2.1, (rd_Key t4.2.1 t4.2.2.2.1).2.2.2.1, (rd_Key t4.2.1 t4.2.2.2.1).2.2.2.2, t4.2.2.2.2.1, t4.2.2.2.2.2.1, t4.2.2.2.2.2.2.1, t4.2.2.2.2.2.2.2.1, t4.2.2.2.2.2.2.2.2.1)) fun r4 => bif (!r4) then if (List.length t4.2.2.2.2.2.2.2.2.2 + List.length ([((rd_Key t4.2.1 t4.2.2.2.1).1, (rd_Key t4.2.1 t4.2.2.2.1).2.1, (rd_Key t4.2.1 t4.2.2.2.1).2.2.1, (rd_Key t4.2.1 t4.2.2.2.1).2.2.2.1, (rd_Key t4.2.1 t4.2.2.2.1).2.2.2.2)] : List E_Key)) * 40 < 140737488355328 then again (t4.1, t4.2.1, t4.2.2.1, (Go.IntKind.wrap .i64 (t4.2.2.2.1 + (1 : Int))), t4.2.2.2.2.1, t4.2.2.2.2.2.1, t4.2.2.2.2.2.2.1, t4.2.2.2.2.2.2.2.1, t4.2.2.2.2.2.2.2.2.1, (t4.2.2.2.2.2.2.2.2.2 ++ ([((rd_Key t4.2.1 t4.2.2.2.1).1, (rd_Key t4.2.1 t4.2.2.2.1).2.1, (rd_Key t4.2.1 t4.2.2.2.1).2.2.1, (rd_Key t4.2.1 t4.2.2.2.1).2.2.2.1, (rd_Key t4.2.1 t4.2.2.2.1).2.2.2.2)] : List E_Key))) else none else again (t4.1, t4.2.1, t4.2.2.1, (Go.IntKind.wrap .i64 (t4.2.2.2.1 + (1 : Int))), t4.2.2.2.2.1, t4.2.2.2.2.2.1, t4.2.2.2.2.2.2.1, t4.2.2.2.2.2.2.2.1, t4.2.2.2.2.2.2.2.2.1, t4.2.2.2.2.2.2.2.2.2) else none else none else k0 (t4.1, t4.2.2.2.2.1, t4.2.2.2.2.2.1, t4.2.2.2.2.2.2.1, t4.2.2.2.2.2.2.2.1, t4.2.2.2.2.2.2.2.2.1, t4.2.2.2.2.2.2.2.2.2)
noncomputable def L_impl_SetPut_4 {R : Type} (k0 : Qz18 → Option R) (t : T_impl_SetPut_4) : Option R := iter (S_impl_SetPut_4 k0) FUEL t
noncomputable def F_impl_SetPut (x : Qz19) : Option (List E_Key) :=
  L_impl_SetPut_4 (fun x5 => bif (!x5.1) then if (List.length x5.2.2.2.2.2.2 + List.length ([(x5.2.1, x5.2.2.1, x5.2.2.2.1, x5.2.2.2.2.1, x5.2.2.2.2.2.1)] : List E_Key)) * 40 < 140737488355328 then some (x5.2.2.2.2.2.2 ++ ([(x5.2.1, x5.2.2.1, x5.2.2.2.1, x5.2.2.2.2.1, x5.2.2.2.2.2.1)] : List E_Key)) else none else some x5.2.2.2.2.2.2) (false, x.1, ((List.length x.1 : Nat) : Int), (0 : Int), x.2.1, x.2.2.1, x.2.2.2.1, x.2.2.2.2.1, x.2.2.2.2.2, ([] : List E_Key))
noncomputable def f281Q : List QF := [q279, q302]
def f281e4_0 (t : Qz79) : St := ⟨dd 3 (.box 3 0 :: .dead :: .own 10000000 :: vB t.1 :: dd 3 (v_Key t.2.1 :: vI t.2.2.1 :: vI t.2.2.2.1 :: dd 31 [])), [(3, .box [vI t.2.2.2.2.1, vI t.2.2.2.2.2.1, vI t.2.2.2.2.2.2.1, vI t.2.2.2.2.2.2.2.1, vI t.2.2.2.2.2.2.2.2.1]), (10000000, .root true 106 ts_Key t.2.2.2.2.2.2.2.2.2)]⟩
noncomputable def f281g4 : Gk T_impl_SetPut_4 := fun κ => S_impl_SetPut_4 (fun t => κ (some 0) ⟨dd 3 (.box 3 0 :: .dead :: .own 10000000 :: vB t.1 :: dd 37 []), [(3, .box [vI t.2.1, vI t.2.2.1, vI t.2.2.2.1, vI t.2.2.2.2.1, vI t.2.2.2.2.2.1]), (10000000, .root true 106 ts_Key t.2.2.2.2.2.2)]⟩)
noncomputable def f281P : Lp := lpC 4 (unG qz79 f281e4_0) @f281g4 lpN
theorem f281C4 : LF f281Q f281P 281 4 Tryz.f281 0 f281e4_0 @f281g4 fun t => t := fun R κ again t => by kernel_rfl
theorem f281k4 : LK f281Q f281P 281 Tryz.f281 0 := loop_okG (u := (unG qz79 f281e4_0)) (by kernel_rfl) (unG_ok fun t => by kernel_rfl) (fun R κ s => by kernel_rfl) f281C4
theorem ev281 : EV f281Q f281P 281 Tryz.f281 sg281 qz19 [(.sl 106 ts_Key)] F_impl_SetPut := fun x => by kernel_rfl
noncomputable def q281 : QF := ⟨281, F_impl_SetPut, okN (n := 1) Tryz.func281 (by kernel_rfl) (by kernel_rfl) ⟨f281k4, trivial⟩ ev281⟩
abbrev T_impl_MergeSets_3 : Type := Qz80
noncomputable def S_impl_MergeSets_3 {R : Type} (k0 : List E_Key → Option R) (again : T_impl_MergeSets_3 → Option R) (t3 : T_impl_MergeSets_3) : Option R :=
  bif (decide (t3.2.2.1 < t3.2.1)) then if (0 : Int) ≤ t3.2.2.1 then if t3.2.2.1 < ((List.length t3.1 : Nat) : Int) then Option.bind (F_impl_SetPut (t3.2.2.2, (rd_Key t3.1 t3.2.2.1).1, (rd_Key t3.1 t3.2.2.1).2.1, (rd_Key t3.1 t3.2.2.1).2.2.1, (rd_Key t3.1 t3.2.2.1).2.2.2.1, (rd_Key t3.1 t3.2.2.1).2.2.2.2)) fun r2 => again (t3.1, t3.2.1, (Go.IntKind.wrap .i64 (t3.2.2.1 + (1 : Int))), r2) else none else none else k0 t3.2.2.2
noncomputable def L_impl_MergeSets_3 {R : Type} (k0 : List E_Key → Option R) (t : T_impl_MergeSets_3) : Option R := iter (S_impl_MergeSets_3 k0) FUEL t
noncomputable def F_impl_MergeSets (x : Qz20) : Option (List E_Key) :=
  Option.bind (F_impl_copyKeys x.1) fun r1 => L_impl_MergeSets_3 (fun x3 => some x3) (x.2, ((List.length x.2 : Nat) : Int), (0 : Int), r1)
noncomputable def f248Q : List QF := [q280, q281]
def f248e3_0 (t : Qz80) : St := ⟨dd 5 (.own 10000000 :: dd 4 (v_Key t.1 :: vI t.2.1 :: vI t.2.2.1 :: dd 8 [])), [(10000000, .root true 106 ts_Key t.2.2.2)]⟩
noncomputable def f248g3 : Gk T_impl_MergeSets_3 := fun κ => S_impl_MergeSets_3 (fun t => κ (some 0) ⟨dd 5 (.own 10000000 :: dd 15 []), [(10000000, .root true 106 ts_Key t)]⟩)
noncomputable def f248P : Lp := lpC 3 (unG qz80 f248e3_0) @f248g3 lpN
theorem f248C3 : LF f248Q f248P 248 3 Tryz.f248 0 f248e3_0 @f248g3 fun t => t := fun R κ again t => by kernel_rfl
theorem f248k3 : LK f248Q f248P 248 Tryz.f248 0 := loop_okG (u := (unG qz80 f248e3_0)) (by kernel_rfl) (unG_ok fun t => by kernel_rfl) (fun R κ s => by kernel_rfl) f248C3
theorem ev248 : EV f248Q f248P 248 Tryz.f248 sg248 qz20 [(.sl 106 ts_Key)] F_impl_MergeSets := fun x => by kernel_rfl
noncomputable def q248 : QF := ⟨248, F_impl_MergeSets, okN (n := 1) Tryz.func248 (by kernel_rfl) (by kernel_rfl) ⟨f248k3, trivial⟩ ev248⟩
abbrev T_impl_Drop_3 : Type := Qz80
noncomputable def S_impl_Drop_3 {R : Type} (k0 : List E_Key → Option R) (again : T_impl_Drop_3 → Option R) (t3 : T_impl_Drop_3) : Option R :=
  bif (decide (t3.2.2.1 < t3.2.1)) then if (0 : Int) ≤ t3.2.2.1 then if t3.2.2.1 < ((List.length t3.1 : Nat) : Int) then bif ((rd_Key t3.1 t3.2.2.1).2.2.1 != (0 : Int)) then if (List.length t3.2.2.2 + List.length ([((rd_Key t3.1 t3.2.2.1).1, (rd_Key t3.1 t3.2.2.1).2.1, (rd_Key t3.1 t3.2.2.1).2.2.1, (rd_Key t3.1 t3.2.2.1).2.2.2.1, (rd_Key t3.1 t3.2.2.1).2.2.2.2)] : List E_Key)) * 40 < 140737488355328 then again (t3.1, t3.2.1, (Go.IntKind.wrap .i64 (t3.2.2.1 + (1 : Int))), (t3.2.2.2 ++ ([((rd_Key t3.1 t3.2.2.1).1, (rd_Key t3.1 t3.2.2.1).2.1, (rd_Key t3.1 t3.2.2.1).2.2.1, (rd_Key t3.1 t3.2.2.1).2.2.2.1, (rd_Key t3.1 t3.2.2.1).2.2.2.2)] : List E_Key))) else none else again (t3.1, t3.2.1, (Go.IntKind.wrap .i64 (t3.2.2.1 + (1 : Int))), t3.2.2.2) else none else none else k0 t3.2.2.2
noncomputable def L_impl_Drop_3 {R : Type} (k0 : List E_Key → Option R) (t : T_impl_Drop_3) : Option R := iter (S_impl_Drop_3 k0) FUEL t
noncomputable def F_impl_Drop (x : List E_Key) : Option (List E_Key) :=
  L_impl_Drop_3 (fun x1 => some x1) (x, ((List.length x : Nat) : Int), (0 : Int), ([] : List E_Key))
noncomputable def f249Q : List QF := []
def f249e3_0 (t : Qz80) : St := ⟨dd 3 (.own 10000000 :: dd 3 (v_Key t.1 :: vI t.2.1 :: vI t.2.2.1 :: dd 12 [])), [(10000000, .root true 106 ts_Key t.2.2.2)]⟩
noncomputable def f249g3 : Gk T_impl_Drop_3 := fun κ => S_impl_Drop_3 (fun t => κ (some 0) ⟨dd 3 (.own 10000000 :: dd 18 []), [(10000000, .root true 106 ts_Key t)]⟩)
noncomputable def f249P : Lp := lpC 3 (unG qz80 f249e3_0) @f249g3 lpN
theorem f249C3 : LF f249Q f249P 249 3 Tryz.f249 0 f249e3_0 @f249g3 fun t => t := fun R κ again t => by kernel_rfl
theorem f249k3 : LK f249Q f249P 249 Tryz.f249 0 := loop_okG (u := (unG qz80 f249e3_0)) (by kernel_rfl) (unG_ok fun t => by kernel_rfl) (fun R κ s => by kernel_rfl) f249C3
theorem ev249 : EV f249Q f249P 249 Tryz.f249 sg249 [(.sl 106 ts_Key)] [(.sl 106 ts_Key)] F_impl_Drop := fun x => by kernel_rfl
noncomputable def q249 : QF := ⟨249, F_impl_Drop, okN (n := 1) Tryz.func249 (by kernel_rfl) (by kernel_rfl) ⟨f249k3, trivial⟩ ev249⟩
abbrev T_impl_NodeKeys_3 : Type := Qz81
noncomputable def S_impl_NodeKeys_3 {R : Type} (k0 : List E_Key → Option R) (again : T_impl_NodeKeys_3 → Option R) (t3 : T_impl_NodeKeys_3) : Option R :=
  bif (decide (t3.2.2.1 < t3.2.1)) then if (0 : Int) ≤ t3.2.2.1 then if t3.2.2.1 < ((List.length t3.1 : Nat) : Int) then Option.bind (F_impl_MergeSets (t3.2.2.2, (rd_s_Key t3.1 t3.2.2.1))) fun r1 => again (t3.1, t3.2.1, (Go.IntKind.wrap .i64 (t3.2.2.1 + (1 : Int))), r1) else none else none else k0 t3.2.2.2
noncomputable def L_impl_NodeKeys_3 {R : Type} (k0 : List E_Key → Option R) (t : T_impl_NodeKeys_3) : Option R := iter (S_impl_NodeKeys_3 k0) FUEL t
noncomputable def F_impl_NodeKeys (x : List E_s_Key) : Option (List E_Key) :=
  L_impl_NodeKeys_3 (fun x2 => Option.bind (F_impl_Drop x2) fun r3 => some r3) (x, ((List.length x : Nat) : Int), (0 : Int), ([] : List E_Key))
noncomputable def f206Q : List QF := [q248, q249]
def f206e3_0 (t : Qz81) : St := ⟨dd 3 (.own 10000000 :: dd 4 (v_s_Key t.1 :: vI t.2.1 :: vI t.2.2.1 :: dd 9 [])), [(10000000, .root true 106 ts_Key t.2.2.2)]⟩
noncomputable def f206g3 : Gk T_impl_NodeKeys_3 := fun κ => S_impl_NodeKeys_3 (fun t => κ (some 0) ⟨dd 3 (.own 10000000 :: dd 16 []), [(10000000, .root true 106 ts_Key t)]⟩)
noncomputable def f206P : Lp := lpC 3 (unG qz81 f206e3_0) @f206g3 lpN
theorem f206C3 : LF f206Q f206P 206 3 Tryz.f206 0 f206e3_0 @f206g3 fun t => t := fun R κ again t => by kernel_rfl
theorem f206k3 : LK f206Q f206P 206 Tryz.f206 0 := loop_okG (u := (unG qz81 f206e3_0)) (by kernel_rfl) (unG_ok fun t => by kernel_rfl) (fun R κ s => by kernel_rfl) f206C3
theorem ev206 : EV f206Q f206P 206 Tryz.f206 sg206 [(.sl 100 ts_s_Key)] [(.sl 106 ts_Key)] F_impl_NodeKeys := fun x => by kernel_rfl
noncomputable def q206 : QF := ⟨206, F_impl_NodeKeys, okN (n := 1) Tryz.func206 (by kernel_rfl) (by kernel_rfl) ⟨f206k3, trivial⟩ ev206⟩
abbrev T_impl_TreeOk_5 : Type := Qz82
noncomputable def S_impl_TreeOk_5 {R : Type} (k0 : Qz83 → Option R) (k1 : Int → Option R) (again : T_impl_TreeOk_5 → Option R) (t5 : T_impl_TreeOk_5) : Option R :=
  bif (decide (t5.2.2.2.1 < t5.2.2.1)) then if (0 : Int) ≤ t5.2.2.2.1 then if t5.2.2.2.1 < ((List.length t5.2.1 : Nat) : Int) then Option.bind (bif (decide (t5.2.2.2.1 > (0 : Int))) then if (0 : Int) ≤ (Go.IntKind.wrap .i64 (t5.2.2.2.1 - (1 : Int))) then if (Go.IntKind.wrap .i64 (t5.2.2.2.1 - (1 : Int))) < ((List.length t5.2.2.2.2.1 : Nat) : Int) then if (0 : Int) ≤ t5.2.2.2.1 then if t5.2.2.2.1 < ((List.length t5.2.2.2.2.1 : Nat) : Int) then some (decide ((rd_i64 t5.2.2.2.2.1 (Go.IntKind.wrap .i64 (t5.2.2.2.1 - (1 : Int)))) ≥ (rd_i64 t5.2.2.2.2.1 t5.2.2.2.1))) else none else none else none else none else some false) fun u4 => Option.bind (bif u4 then some true else Option.bind (F_impl_NodeOk (rd_Node t5.2.1 t5.2.2.2.1)) fun r6 => some (!r6)) fun u5 => Option.bind (bif u5 then some true else Option.bind (F_impl_inBounds (t5.2.2.2.2.1, t5.2.2.2.2.2, t5.2.2.2.1)) fun r8 => some (!r8)) fun u7 => bif u7 then k0 (false, t5.1) else Option.bind (F_impl_NodeKeys (rd_Node t5.2.1 t5.2.2.2.1)) fun r9 => Option.bind (bif (decide (t5.2.2.2.1 > (0 : Int))) then some (((List.length r9 : Nat) : Int) == (0 : Int)) else some false) fun u10 => bif u10 then k0 (false, t5.1) else again ((Go.IntKind.wrap .i64 (t5.1 + ((List.length r9 : Nat) : Int))), t5.2.1, t5.2.2.1, (Go.IntKind.wrap .i64 (t5.2.2.2.1 + (1 : Int))), t5.2.2.2.2.1, t5.2.2.2.2.2) else none else none else k1 t5.1
noncomputable def L_impl_TreeOk_5 {R : Type} (k0 : Qz83 → Option R) (k1 : Int → Option R) (t : T_impl_TreeOk_5) : Option R := iter (S_impl_TreeOk_5 k0 k1) FUEL t
noncomputable def F_impl_TreeOk (x : Qz23) : Option Bool :=
  Option.bind (F_impl_within (((List.length x.2 : Nat) : Int), (1 : Int), (20 : Int))) fun r1 => Option.bind (bif (!r1) then some true else some (((List.length x.1 : Nat) : Int) != ((List.length x.2 : Nat) : Int))) fun u2 => Option.bind (bif u2 then some true else if (0 : Int) ≤ (0 : Int) then if (0 : Int) < ((List.length x.1 : Nat) : Int) then some ((rd_i64 x.1 (0 : Int)) != (0 : Int)) else none else none) fun u3 => bif u3 then some false else L_impl_TreeOk_5 (fun x11 => some x11.1) (fun x12 => some (decide (x12 ≤ (60 : Int)))) ((0 : Int), x.2, ((List.length x.2 : Nat) : Int), (0 : Int), x.1, x.2)
noncomputable def f131Q : List QF := [q134, q204, q205, q206]
def f131e5_0 (t : Qz82) : St := ⟨.dead :: .box 1 0 :: .dead :: vI t.1 :: dd 25 (v_Node t.2.1 :: vI t.2.2.1 :: vI t.2.2.2.1 :: dd 46 []), [(1, .box [v_i64 t.2.2.2.2.1, v_Node t.2.2.2.2.2])]⟩
noncomputable def f131g5 : Gk T_impl_TreeOk_5 := fun κ => S_impl_TreeOk_5 (fun t => κ none ⟨dd 2 (vB t.1 :: vI t.2 :: dd 74 []), []⟩) (fun t => κ (some 0) ⟨dd 3 (vI t :: dd 74 []), []⟩)
noncomputable def f131P : Lp := lpC 5 (unG qz82 f131e5_0) @f131g5 lpN
theorem f131C5 : LF f131Q f131P 131 5 Tryz.f131 0 f131e5_0 @f131g5 fun t => t := fun R κ again t => by kernel_rfl
theorem f131k5 : LK f131Q f131P 131 Tryz.f131 0 := loop_okG (u := (unG qz82 f131e5_0)) (by kernel_rfl) (unG_ok fun t => by kernel_rfl) (fun R κ s => by kernel_rfl) f131C5
theorem ev131 : EV f131Q f131P 131 Tryz.f131 sg131 qz23 [.bool] F_impl_TreeOk := fun x => by kernel_rfl
noncomputable def q131 : QF := ⟨131, F_impl_TreeOk, okN (n := 1) Tryz.func131 (by kernel_rfl) (by kernel_rfl) ⟨f131k5, trivial⟩ ev131⟩
noncomputable def F_impl_AgeAt_1 (x : Qz14) : Option Qz83 :=
  some ((x.1 == x.2.2), x.2.2)
theorem ev251 : EV [] lpN 251 Tryz.f251 sg251 qz14 qz83 F_impl_AgeAt_1 := fun x => by kernel_rfl
noncomputable def q251 : QF := ⟨251, F_impl_AgeAt_1, okN (n := 0) Tryz.func251 (by kernel_rfl) (by kernel_rfl) trivial ev251⟩
abbrev T_slices_IndexFunc_Age_impl_AgeAt_1_2 : Type := Qz84
noncomputable def S_slices_IndexFunc_Age_impl_AgeAt_1_2 {R : Type} (k0 : Qz3 → Option R) (k1 : Int → Option R) (again : T_slices_IndexFunc_Age_impl_AgeAt_1_2 → Option R) (t2 : T_slices_IndexFunc_Age_impl_AgeAt_1_2) : Option R :=
  bif (decide (t2.2.2.1 < t2.2.1)) then if (0 : Int) ≤ t2.2.2.1 then if t2.2.2.1 < ((List.length t2.1 : Nat) : Int) then Option.bind (F_impl_AgeAt_1 ((rd_Age t2.1 t2.2.2.1).1, (rd_Age t2.1 t2.2.2.1).2, t2.2.2.2)) fun r1 => bif r1.1 then k0 (t2.2.2.1, r1.2) else again (t2.1, t2.2.1, (Go.IntKind.wrap .i64 (t2.2.2.1 + (1 : Int))), r1.2) else none else none else k1 t2.2.2.2
noncomputable def L_slices_IndexFunc_Age_impl_AgeAt_1_2 {R : Type} (k0 : Qz3 → Option R) (k1 : Int → Option R) (t : T_slices_IndexFunc_Age_impl_AgeAt_1_2) : Option R := iter (S_slices_IndexFunc_Age_impl_AgeAt_1_2 k0 k1) FUEL t
noncomputable def F_slices_IndexFunc_Age_impl_AgeAt_1 (x : Qz37) : Option Qz3 :=
  L_slices_IndexFunc_Age_impl_AgeAt_1_2 (fun x2 => some (x2.1, x2.2)) (fun x3 => some ((-1 : Int), x3)) (x.1, ((List.length x.1 : Nat) : Int), (0 : Int), x.2)
noncomputable def f100000Q : List QF := [q251]
def f100000e2_0 (t : Qz84) : St := ⟨v_Age t.1 :: .clo 251 901 :: dd 5 (vI t.2.1 :: vI t.2.2.1 :: dd 10 []), [(901, .box [vI t.2.2.2])]⟩
noncomputable def f100000g2 : Gk T_slices_IndexFunc_Age_impl_AgeAt_1_2 := fun κ => S_slices_IndexFunc_Age_impl_AgeAt_1_2 (fun t => κ none ⟨.dead :: .clo 251 901 :: dd 2 (vI t.1 :: dd 14 []), [(901, .box [vI t.2])]⟩) (fun t => κ (some 0) ⟨.dead :: .clo 251 901 :: dd 17 [], [(901, .box [vI t])]⟩)
noncomputable def f100000P : Lp := lpC 2 (unG qz84 f100000e2_0) @f100000g2 lpN
theorem f100000C2 : LF f100000Q f100000P 100000 2 Tryz.f250 0 f100000e2_0 @f100000g2 fun t => t := fun R κ again t => by kernel_rfl
theorem f100000k2 : LK f100000Q f100000P 100000 Tryz.f250 0 := loop_okG (u := (unG qz84 f100000e2_0)) (by kernel_rfl) (unG_ok fun t => by kernel_rfl) (fun R κ s => by kernel_rfl) f100000C2
theorem ev100000 : EV f100000Q f100000P 100000 Tryz.f250 sg100000 qz37 qz3 F_slices_IndexFunc_Age_impl_AgeAt_1 := fun x => by kernel_rfl
noncomputable def q100000 : QF := ⟨100000, F_slices_IndexFunc_Age_impl_AgeAt_1, okN (n := 1) Tryz.func250 (by kernel_rfl) (by kernel_rfl) ⟨f100000k2, trivial⟩ ev100000⟩
noncomputable def F_impl_AgeAt (x : Qz37) : Option Int :=
  Option.bind (F_slices_IndexFunc_Age_impl_AgeAt_1 (x.1, x.2)) fun r1 => some r1.1
theorem ev207 : EV [q100000] lpN 207 Tryz.f207 sg207 qz37 [(.int .i64)] F_impl_AgeAt := fun x => by kernel_rfl
noncomputable def q207 : QF := ⟨207, F_impl_AgeAt, okN (n := 0) Tryz.func207 (by kernel_rfl) (by kernel_rfl) trivial ev207⟩
abbrev T_impl_AgesOk_2 : Type := Qz85
noncomputable def S_impl_AgesOk_2 {R : Type} (k0 : Qz38 → Option R) (k1 : List E_Age → Option R) (again : T_impl_AgesOk_2 → Option R) (t2 : T_impl_AgesOk_2) : Option R :=
  bif (decide (t2.2.2.2 < t2.2.2.1)) then if (0 : Int) ≤ t2.2.2.2 then if t2.2.2.2 < ((List.length t2.2.1 : Nat) : Int) then Option.bind (F_impl_within ((rd_Age t2.2.1 t2.2.2.2).1, (1 : Int), (60 : Int))) fun r1 => Option.bind (bif (!r1) then some true else Option.bind (bif (decide (t2.2.2.2 > (0 : Int))) then if (0 : Int) ≤ (Go.IntKind.wrap .i64 (t2.2.2.2 - (1 : Int))) then if (Go.IntKind.wrap .i64 (t2.2.2.2 - (1 : Int))) < ((List.length t2.1 : Nat) : Int) then some (decide ((rd_Age t2.1 (Go.IntKind.wrap .i64 (t2.2.2.2 - (1 : Int)))).1 ≥ (rd_Age t2.2.1 t2.2.2.2).1)) else none else none else some false) fun u3 => some u3) fun u2 => Option.bind (bif u2 then some true else Option.bind (bif ((rd_Age t2.2.1 t2.2.2.2).2 != (0 : Int)) then if (0 : Int) ≤ (0 : Int) then if (0 : Int) ≤ t2.2.2.2 then if t2.2.2.2 ≤ ((List.length t2.1 : Nat) : Int) then Option.bind (F_impl_AgeAt ((List.drop (Int.toNat (0 : Int)) (List.take (Int.toNat t2.2.2.2) t2.1)), (rd_Age t2.2.1 t2.2.2.2).2)) fun r6 => some (decide (r6 < (0 : Int))) else none else none else none else some false) fun u5 => some u5) fun u4 => bif u4 then k0 (t2.1, false) else again (t2.1, t2.2.1, t2.2.2.1, (Go.IntKind.wrap .i64 (t2.2.2.2 + (1 : Int)))) else none else none else k1 t2.1
noncomputable def L_impl_AgesOk_2 {R : Type} (k0 : Qz38 → Option R) (k1 : List E_Age → Option R) (t : T_impl_AgesOk_2) : Option R := iter (S_impl_AgesOk_2 k0 k1) FUEL t
noncomputable def F_impl_AgesOk (x : List E_Age) : Option Bool :=
  L_impl_AgesOk_2 (fun x7 => some x7.2) (fun x8 => some (decide (((List.length x8 : Nat) : Int) ≤ (16 : Int)))) (x, x, ((List.length x : Nat) : Int), (0 : Int))
noncomputable def f132Q : List QF := [q134, q207]
def f132e2_0 (t : Qz85) : St := ⟨v_Age t.1 :: dd 4 (v_Age t.2.1 :: vI t.2.2.1 :: vI t.2.2.2 :: dd 41 []), []⟩
noncomputable def f132g2 : Gk T_impl_AgesOk_2 := fun κ => S_impl_AgesOk_2 (fun t => κ none ⟨v_Age t.1 :: .dead :: vB t.2 :: dd 46 [], []⟩) (fun t => κ (some 0) ⟨v_Age t :: dd 48 [], []⟩)
noncomputable def f132P : Lp := lpC 2 (unG qz85 f132e2_0) @f132g2 lpN
theorem f132C2 : LF f132Q f132P 132 2 Tryz.f132 0 f132e2_0 @f132g2 fun t => t := fun R κ again t => by kernel_rfl
theorem f132k2 : LK f132Q f132P 132 Tryz.f132 0 := loop_okG (u := (unG qz85 f132e2_0)) (by kernel_rfl) (unG_ok fun t => by kernel_rfl) (fun R κ s => by kernel_rfl) f132C2
theorem ev132 : EV f132Q f132P 132 Tryz.f132 sg132 [(.sl 89 ts_Age)] [.bool] F_impl_AgesOk := fun x => by kernel_rfl
noncomputable def q132 : QF := ⟨132, F_impl_AgesOk, okN (n := 1) Tryz.func132 (by kernel_rfl) (by kernel_rfl) ⟨f132k2, trivial⟩ ev132⟩
noncomputable def F_impl_isWord (x : Int) : Option Bool :=
  Option.bind (F_impl_within (x, (0 : Int), (65535 : Int))) fun r1 => some r1
theorem ev208 : EV [q134] lpN 208 Tryz.f208 sg208 [(.int .i64)] [.bool] F_impl_isWord := fun x => by kernel_rfl
noncomputable def q208 : QF := ⟨208, F_impl_isWord, okN (n := 0) Tryz.func208 (by kernel_rfl) (by kernel_rfl) trivial ev208⟩
abbrev T_impl_CellsOk_2 : Type := Qz86
noncomputable def S_impl_CellsOk_2 {R : Type} (k0 : Qz40 → Option R) (k1 : List E_Cell → Option R) (again : T_impl_CellsOk_2 → Option R) (t2 : T_impl_CellsOk_2) : Option R :=
  bif (decide (t2.2.2.2 < t2.2.2.1)) then if (0 : Int) ≤ t2.2.2.2 then if t2.2.2.2 < ((List.length t2.2.1 : Nat) : Int) then Option.bind (F_impl_within ((rd_Cell t2.2.1 t2.2.2.2).1, (0 : Int), (999 : Int))) fun r1 => Option.bind (bif (!r1) then some true else Option.bind (F_impl_isWord ((rd_Cell t2.2.1 t2.2.2.2).2.2)) fun r3 => some (!r3)) fun u2 => Option.bind (bif u2 then some true else Option.bind (bif ((rd_Cell t2.2.1 t2.2.2.2).2.2 != (0 : Int)) then some (!((rd_Cell t2.2.1 t2.2.2.2).2.1)) else some false) fun u5 => some u5) fun u4 => bif u4 then k0 (t2.1, false) else again (t2.1, t2.2.1, t2.2.2.1, (Go.IntKind.wrap .i64 (t2.2.2.2 + (1 : Int)))) else none else none else k1 t2.1
noncomputable def L_impl_CellsOk_2 {R : Type} (k0 : Qz40 → Option R) (k1 : List E_Cell → Option R) (t : T_impl_CellsOk_2) : Option R := iter (S_impl_CellsOk_2 k0 k1) FUEL t
noncomputable def F_impl_CellsOk (x : List E_Cell) : Option Bool :=
  L_impl_CellsOk_2 (fun x6 => some x6.2) (fun x7 => some (((List.length x7 : Nat) : Int) == (24 : Int))) (x, x, ((List.length x : Nat) : Int), (0 : Int))
noncomputable def f133Q : List QF := [q134, q208]
def f133e2_0 (t : Qz86) : St := ⟨v_Cell t.1 :: dd 4 (v_Cell t.2.1 :: vI t.2.2.1 :: vI t.2.2.2 :: dd 27 []), []⟩
noncomputable def f133g2 : Gk T_impl_CellsOk_2 := fun κ => S_impl_CellsOk_2 (fun t => κ none ⟨v_Cell t.1 :: .dead :: vB t.2 :: dd 32 [], []⟩) (fun t => κ (some 0) ⟨v_Cell t :: dd 34 [], []⟩)
noncomputable def f133P : Lp := lpC 2 (unG qz86 f133e2_0) @f133g2 lpN
theorem f133C2 : LF f133Q f133P 133 2 Tryz.f133 0 f133e2_0 @f133g2 fun t => t := fun R κ again t => by kernel_rfl
theorem f133k2 : LK f133Q f133P 133 Tryz.f133 0 := loop_okG (u := (unG qz86 f133e2_0)) (by kernel_rfl) (unG_ok fun t => by kernel_rfl) (fun R κ s => by kernel_rfl) f133C2
theorem ev133 : EV f133Q f133P 133 Tryz.f133 sg133 [(.sl 95 ts_Cell)] [.bool] F_impl_CellsOk := fun x => by kernel_rfl
noncomputable def q133 : QF := ⟨133, F_impl_CellsOk, okN (n := 1) Tryz.func133 (by kernel_rfl) (by kernel_rfl) ⟨f133k2, trivial⟩ ev133⟩
abbrev T_impl_NameOk_2 : Type := Qz41
noncomputable def S_impl_NameOk_2 {R : Type} (k0 : Qz42 → Option R) (k1 : ByteArray → Option R) (again : T_impl_NameOk_2 → Option R) (t2 : T_impl_NameOk_2) : Option R :=
  bif (decide (t2.2 < ((ByteArray.size t2.1 : Nat) : Int))) then if (0 : Int) ≤ t2.2 then if h1 : Int.toNat t2.2 < ByteArray.size t2.1 then Option.bind (F_impl_within ((Go.IntKind.wrap .i64 ((UInt8.toNat (ByteArray.get t2.1 (Int.toNat t2.2) h1) : Nat) : Int)), (97 : Int), (122 : Int))) fun r2 => Option.bind (bif (!r2) then if (0 : Int) ≤ t2.2 then if h4 : Int.toNat t2.2 < ByteArray.size t2.1 then Option.bind (F_impl_within ((Go.IntKind.wrap .i64 ((UInt8.toNat (ByteArray.get t2.1 (Int.toNat t2.2) h4) : Nat) : Int)), (48 : Int), (57 : Int))) fun r5 => some (!r5) else none else none else some false) fun u3 => bif u3 then k0 (t2.1, false) else again (t2.1, (Go.IntKind.wrap .i64 (t2.2 + (1 : Int)))) else none else none else k1 t2.1
noncomputable def L_impl_NameOk_2 {R : Type} (k0 : Qz42 → Option R) (k1 : ByteArray → Option R) (t : T_impl_NameOk_2) : Option R := iter (S_impl_NameOk_2 k0 k1) FUEL t
noncomputable def F_impl_NameOk (x : ByteArray) : Option Bool :=
  L_impl_NameOk_2 (fun x6 => some x6.2) (fun x7 => Option.bind (F_impl_within (((ByteArray.size x7 : Nat) : Int), (1 : Int), (6 : Int))) fun r8 => some r8) (x, (0 : Int))
noncomputable def f209Q : List QF := [q134]
def f209e2_0 (t : Qz41) : St := ⟨vS t.1 :: dd 2 (vI t.2 :: dd 23 []), []⟩
noncomputable def f209g2 : Gk T_impl_NameOk_2 := fun κ => S_impl_NameOk_2 (fun t => κ none ⟨vS t.1 :: .dead :: vB t.2 :: dd 24 [], []⟩) (fun t => κ (some 0) ⟨vS t :: dd 26 [], []⟩)
noncomputable def f209P : Lp := lpC 2 (unG qz41 f209e2_0) @f209g2 lpN
theorem f209C2 : LF f209Q f209P 209 2 Tryz.f209 0 f209e2_0 @f209g2 fun t => t := fun R κ again t => by kernel_rfl
theorem f209k2 : LK f209Q f209P 209 Tryz.f209 0 := loop_okG (u := (unG qz41 f209e2_0)) (by kernel_rfl) (unG_ok fun t => by kernel_rfl) (fun R κ s => by kernel_rfl) f209C2
theorem ev209 : EV f209Q f209P 209 Tryz.f209 sg209 [.str] [.bool] F_impl_NameOk := fun x => by kernel_rfl
noncomputable def q209 : QF := ⟨209, F_impl_NameOk, okN (n := 1) Tryz.func209 (by kernel_rfl) (by kernel_rfl) ⟨f209k2, trivial⟩ ev209⟩
abbrev T_impl_KidsOf_5 : Type := Qz87
noncomputable def S_impl_KidsOf_5 {R : Type} (k0 : List E_i64 → Option R) (again : T_impl_KidsOf_5 → Option R) (t5 : T_impl_KidsOf_5) : Option R :=
  bif (decide (t5.2.2.2.1 < t5.2.2.1)) then if (0 : Int) ≤ t5.2.2.2.1 then if t5.2.2.2.1 < ((List.length t5.2.1 : Nat) : Int) then bif ((rd_Age t5.2.1 t5.2.2.2.1).2 == t5.1) then if (List.length t5.2.2.2.2 + List.length ([(rd_Age t5.2.1 t5.2.2.2.1).1] : List E_i64)) * 8 < 140737488355328 then again (t5.1, t5.2.1, t5.2.2.1, (Go.IntKind.wrap .i64 (t5.2.2.2.1 + (1 : Int))), (t5.2.2.2.2 ++ ([(rd_Age t5.2.1 t5.2.2.2.1).1] : List E_i64))) else none else again (t5.1, t5.2.1, t5.2.2.1, (Go.IntKind.wrap .i64 (t5.2.2.2.1 + (1 : Int))), t5.2.2.2.2) else none else none else k0 t5.2.2.2.2
noncomputable def L_impl_KidsOf_5 {R : Type} (k0 : List E_i64 → Option R) (t : T_impl_KidsOf_5) : Option R := iter (S_impl_KidsOf_5 k0) FUEL t
noncomputable def F_impl_KidsOf (x : Qz37) : Option (List E_i64) :=
  bif (x.2 == (0 : Int)) then some ([] : List E_i64) else L_impl_KidsOf_5 (fun x1 => some x1) (x.2, x.1, ((List.length x.1 : Nat) : Int), (0 : Int), ([] : List E_i64))
noncomputable def f210Q : List QF := []
def f210e5_0 (t : Qz87) : St := ⟨.dead :: vI t.1 :: dd 3 (.own 10000000 :: dd 6 (v_Age t.2.1 :: vI t.2.2.1 :: vI t.2.2.2.1 :: dd 14 [])), [(10000000, .root true 3 ts_i64 t.2.2.2.2)]⟩
noncomputable def f210g5 : Gk T_impl_KidsOf_5 := fun κ => S_impl_KidsOf_5 (fun t => κ (some 0) ⟨dd 5 (.own 10000000 :: dd 23 []), [(10000000, .root true 3 ts_i64 t)]⟩)
noncomputable def f210P : Lp := lpC 5 (unG qz87 f210e5_0) @f210g5 lpN
theorem f210C5 : LF f210Q f210P 210 5 Tryz.f210 0 f210e5_0 @f210g5 fun t => t := fun R κ again t => by kernel_rfl
theorem f210k5 : LK f210Q f210P 210 Tryz.f210 0 := loop_okG (u := (unG qz87 f210e5_0)) (by kernel_rfl) (unG_ok fun t => by kernel_rfl) (fun R κ s => by kernel_rfl) f210C5
theorem ev210 : EV f210Q f210P 210 Tryz.f210 sg210 qz37 [(.sl 3 ts_i64)] F_impl_KidsOf := fun x => by kernel_rfl
noncomputable def q210 : QF := ⟨210, F_impl_KidsOf, okN (n := 1) Tryz.func210 (by kernel_rfl) (by kernel_rfl) ⟨f210k5, trivial⟩ ev210⟩
noncomputable def F_impl_volsOk_1 (x : Qz88) : Option Qz89 :=
  some ((x.2.1 == x.2.2.2.2.2.1), x.2.2.2.2.1, x.2.2.2.2.2.1, x.2.2.2.2.2.2.1, x.2.2.2.2.2.2.2)
theorem ev212 : EV [] lpN 212 Tryz.f212 sg212 qz88 qz89 F_impl_volsOk_1 := fun x => by kernel_rfl
noncomputable def q212 : QF := ⟨212, F_impl_volsOk_1, okN (n := 0) Tryz.func212 (by kernel_rfl) (by kernel_rfl) trivial ev212⟩
abbrev T_slices_IndexFunc_Vol_impl_volsOk_1_2 : Type := Qz90
noncomputable def S_slices_IndexFunc_Vol_impl_volsOk_1_2 {R : Type} (k0 : Qz91 → Option R) (k1 : Qz70 → Option R) (again : T_slices_IndexFunc_Vol_impl_volsOk_1_2 → Option R) (t2 : T_slices_IndexFunc_Vol_impl_volsOk_1_2) : Option R :=
  bif (decide (t2.2.2.1 < t2.2.1)) then if (0 : Int) ≤ t2.2.2.1 then if t2.2.2.1 < ((List.length t2.1 : Nat) : Int) then Option.bind (F_impl_volsOk_1 ((rd_Vol t2.1 t2.2.2.1).1, (rd_Vol t2.1 t2.2.2.1).2.1, (rd_Vol t2.1 t2.2.2.1).2.2.1, (rd_Vol t2.1 t2.2.2.1).2.2.2, t2.2.2.2.1, t2.2.2.2.2.1, t2.2.2.2.2.2.1, t2.2.2.2.2.2.2)) fun r1 => bif r1.1 then k0 (t2.2.2.1, r1.2.1, r1.2.2.1, r1.2.2.2.1, r1.2.2.2.2) else again (t2.1, t2.2.1, (Go.IntKind.wrap .i64 (t2.2.2.1 + (1 : Int))), r1.2.1, r1.2.2.1, r1.2.2.2.1, r1.2.2.2.2) else none else none else k1 (t2.2.2.2.1, t2.2.2.2.2.1, t2.2.2.2.2.2.1, t2.2.2.2.2.2.2)
noncomputable def L_slices_IndexFunc_Vol_impl_volsOk_1_2 {R : Type} (k0 : Qz91 → Option R) (k1 : Qz70 → Option R) (t : T_slices_IndexFunc_Vol_impl_volsOk_1_2) : Option R := iter (S_slices_IndexFunc_Vol_impl_volsOk_1_2 k0 k1) FUEL t
noncomputable def F_slices_IndexFunc_Vol_impl_volsOk_1 (x : Qz92) : Option Qz91 :=
  L_slices_IndexFunc_Vol_impl_volsOk_1_2 (fun x2 => some (x2.1, x2.2.1, x2.2.2.1, x2.2.2.2.1, x2.2.2.2.2)) (fun x3 => some ((-1 : Int), x3.1, x3.2.1, x3.2.2.1, x3.2.2.2)) (x.1, ((List.length x.1 : Nat) : Int), (0 : Int), x.2.1, x.2.2.1, x.2.2.2.1, x.2.2.2.2)
noncomputable def f100002Q : List QF := [q212]
def f100002e2_0 (t : Qz90) : St := ⟨v_Vol t.1 :: .clo 212 901 :: dd 5 (vI t.2.1 :: vI t.2.2.1 :: dd 10 []), [(901, .box [vS t.2.2.2.1, vI t.2.2.2.2.1, vI t.2.2.2.2.2.1, vB t.2.2.2.2.2.2])]⟩
noncomputable def f100002g2 : Gk T_slices_IndexFunc_Vol_impl_volsOk_1_2 := fun κ => S_slices_IndexFunc_Vol_impl_volsOk_1_2 (fun t => κ none ⟨.dead :: .clo 212 901 :: dd 2 (vI t.1 :: dd 14 []), [(901, .box [vS t.2.1, vI t.2.2.1, vI t.2.2.2.1, vB t.2.2.2.2])]⟩) (fun t => κ (some 0) ⟨.dead :: .clo 212 901 :: dd 17 [], [(901, .box [vS t.1, vI t.2.1, vI t.2.2.1, vB t.2.2.2])]⟩)
noncomputable def f100002P : Lp := lpC 2 (unG qz90 f100002e2_0) @f100002g2 lpN
theorem f100002C2 : LF f100002Q f100002P 100002 2 Tryz.f252 0 f100002e2_0 @f100002g2 fun t => t := fun R κ again t => by kernel_rfl
theorem f100002k2 : LK f100002Q f100002P 100002 Tryz.f252 0 := loop_okG (u := (unG qz90 f100002e2_0)) (by kernel_rfl) (unG_ok fun t => by kernel_rfl) (fun R κ s => by kernel_rfl) f100002C2
theorem ev100002 : EV f100002Q f100002P 100002 Tryz.f252 sg100002 qz92 qz91 F_slices_IndexFunc_Vol_impl_volsOk_1 := fun x => by kernel_rfl
noncomputable def q100002 : QF := ⟨100002, F_slices_IndexFunc_Vol_impl_volsOk_1, okN (n := 1) Tryz.func252 (by kernel_rfl) (by kernel_rfl) ⟨f100002k2, trivial⟩ ev100002⟩
noncomputable def F_slices_ContainsFunc_Vol_impl_volsOk_1 (x : Qz92) : Option Qz89 :=
  Option.bind (F_slices_IndexFunc_Vol_impl_volsOk_1 (x.1, x.2.1, x.2.2.1, x.2.2.2.1, x.2.2.2.2)) fun r1 => some ((decide (r1.1 ≥ (0 : Int))), r1.2.1, r1.2.2.1, r1.2.2.2.1, r1.2.2.2.2)
theorem ev100001 : EV [q100002] lpN 100001 Tryz.f211 sg100001 qz92 qz89 F_slices_ContainsFunc_Vol_impl_volsOk_1 := fun x => by kernel_rfl
noncomputable def q100001 : QF := ⟨100001, F_slices_ContainsFunc_Vol_impl_volsOk_1, okN (n := 0) Tryz.func211 (by kernel_rfl) (by kernel_rfl) trivial ev100001⟩
abbrev T_impl_volsOk_2 : Type := Qz93
noncomputable def S_impl_volsOk_2 {R : Type} (k0 : Qz47 → Option R) (k1 : Qz48 → Option R) (again : T_impl_volsOk_2 → Option R) (t2 : T_impl_volsOk_2) : Option R :=
  bif (decide (t2.2.2.1 < t2.2.1)) then if (0 : Int) ≤ t2.2.2.1 then if t2.2.2.1 < ((List.length t2.1 : Nat) : Int) then Option.bind (F_impl_NameOk ((rd_Vol t2.1 t2.2.2.1).1)) fun r1 => Option.bind (bif (!r1) then some true else Option.bind (bif (decide (t2.2.2.1 > (0 : Int))) then if (0 : Int) ≤ (Go.IntKind.wrap .i64 (t2.2.2.1 - (1 : Int))) then if (Go.IntKind.wrap .i64 (t2.2.2.1 - (1 : Int))) < ((List.length t2.2.2.2.2.2.2.2.1 : Nat) : Int) then some (!Go.Op.bytesLess (ByteArray.toList ((rd_Vol t2.2.2.2.2.2.2.2.1 (Go.IntKind.wrap .i64 (t2.2.2.1 - (1 : Int)))).1)) (ByteArray.toList ((rd_Vol t2.1 t2.2.2.1).1))) else none else none else some false) fun u3 => some u3) fun u2 => Option.bind (bif u2 then some true else Option.bind (F_impl_within ((rd_Vol t2.1 t2.2.2.1).2.2.1, (1 : Int), (12 : Int))) fun r5 => some (!r5)) fun u4 => bif u4 then k0 (false, t2.2.2.2.1, t2.2.2.2.2.1, t2.2.2.2.2.2.1, t2.2.2.2.2.2.2.1, t2.2.2.2.2.2.2.2.1, t2.2.2.2.2.2.2.2.2) else Option.bind (F_impl_AgeAt (t2.2.2.2.2.2.1, (rd_Vol t2.1 t2.2.2.1).2.1)) fun r6 => Option.bind (bif (decide (r6 < (0 : Int))) then some true else Option.bind (F_impl_KidsOf (t2.2.2.2.2.2.1, (rd_Vol t2.1 t2.2.2.1).2.1)) fun r8 => some (decide (((List.length r8 : Nat) : Int) > (0 : Int)))) fun u7 => bif u7 then k0 (false, t2.2.2.2.1, t2.2.2.2.2.1, t2.2.2.2.2.2.1, t2.2.2.2.2.2.2.1, t2.2.2.2.2.2.2.2.1, t2.2.2.2.2.2.2.2.2) else if (0 : Int) ≤ (0 : Int) then if (0 : Int) ≤ t2.2.2.1 then if t2.2.2.1 ≤ ((List.length t2.2.2.2.2.2.2.2.1 : Nat) : Int) then Option.bind (F_slices_ContainsFunc_Vol_impl_volsOk_1 ((List.drop (Int.toNat (0 : Int)) (List.take (Int.toNat t2.2.2.1) t2.2.2.2.2.2.2.2.1)), (rd_Vol t2.1 t2.2.2.1).1, (rd_Vol t2.1 t2.2.2.1).2.1, (rd_Vol t2.1 t2.2.2.1).2.2.1, (rd_Vol t2.1 t2.2.2.1).2.2.2)) fun r9 => bif r9.1 then k0 (false, t2.2.2.2.1, t2.2.2.2.2.1, t2.2.2.2.2.2.1, t2.2.2.2.2.2.2.1, t2.2.2.2.2.2.2.2.1, t2.2.2.2.2.2.2.2.2) else again (t2.1, t2.2.1, (Go.IntKind.wrap .i64 (t2.2.2.1 + (1 : Int))), t2.2.2.2.1, t2.2.2.2.2.1, t2.2.2.2.2.2.1, t2.2.2.2.2.2.2.1, t2.2.2.2.2.2.2.2.1, t2.2.2.2.2.2.2.2.2) else none else none else none else none else none else k1 (t2.2.2.2.1, t2.2.2.2.2.1, t2.2.2.2.2.2.1, t2.2.2.2.2.2.2.1, t2.2.2.2.2.2.2.2.1, t2.2.2.2.2.2.2.2.2)
noncomputable def L_impl_volsOk_2 {R : Type} (k0 : Qz47 → Option R) (k1 : Qz48 → Option R) (t : T_impl_volsOk_2) : Option R := iter (S_impl_volsOk_2 k0 k1) FUEL t
noncomputable def F_impl_volsOk (x : Qz48) : Option Bool :=
  L_impl_volsOk_2 (fun x10 => some x10.1) (fun x11 => some (decide (((List.length x11.2.2.2.2.1 : Nat) : Int) ≤ (6 : Int)))) (x.2.2.2.2.1, ((List.length x.2.2.2.2.1 : Nat) : Int), (0 : Int), x.1, x.2.1, x.2.2.1, x.2.2.2.1, x.2.2.2.2.1, x.2.2.2.2.2)
noncomputable def f135Q : List QF := [q134, q207, q209, q210, q100001]
def f135e2_0 (t : Qz93) : St := ⟨.dead :: .box 1 0 :: dd 4 (v_Vol t.1 :: vI t.2.1 :: vI t.2.2.1 :: dd 56 []), [(1, .box [v_i64 t.2.2.2.1, v_Node t.2.2.2.2.1, v_Age t.2.2.2.2.2.1, v_Cell t.2.2.2.2.2.2.1, v_Vol t.2.2.2.2.2.2.2.1, vI t.2.2.2.2.2.2.2.2])]⟩
noncomputable def f135g2 : Gk T_impl_volsOk_2 := fun κ => S_impl_volsOk_2 (fun t => κ none ⟨.dead :: .box 1 0 :: vB t.1 :: dd 62 [], [(1, .box [v_i64 t.2.1, v_Node t.2.2.1, v_Age t.2.2.2.1, v_Cell t.2.2.2.2.1, v_Vol t.2.2.2.2.2.1, vI t.2.2.2.2.2.2])]⟩) (fun t => κ (some 0) ⟨.dead :: .box 1 0 :: dd 63 [], [(1, .box [v_i64 t.1, v_Node t.2.1, v_Age t.2.2.1, v_Cell t.2.2.2.1, v_Vol t.2.2.2.2.1, vI t.2.2.2.2.2])]⟩)
noncomputable def f135P : Lp := lpC 2 (unG qz93 f135e2_0) @f135g2 lpN
theorem f135C2 : LF f135Q f135P 135 2 Tryz.f135 0 f135e2_0 @f135g2 fun t => t := fun R κ again t => by kernel_rfl
theorem f135k2 : LK f135Q f135P 135 Tryz.f135 0 := loop_okG (u := (unG qz93 f135e2_0)) (by kernel_rfl) (unG_ok fun t => by kernel_rfl) (fun R κ s => by kernel_rfl) f135C2
theorem ev135 : EV f135Q f135P 135 Tryz.f135 sg135 qz48 [.bool] F_impl_volsOk := fun x => by kernel_rfl
noncomputable def q135 : QF := ⟨135, F_impl_volsOk, okN (n := 1) Tryz.func135 (by kernel_rfl) (by kernel_rfl) ⟨f135k2, trivial⟩ ev135⟩
abbrev T_impl_TreeKeys_3 : Type := Qz94
noncomputable def S_impl_TreeKeys_3 {R : Type} (k0 : List E_Key → Option R) (again : T_impl_TreeKeys_3 → Option R) (t3 : T_impl_TreeKeys_3) : Option R :=
  bif (decide (t3.2.2.1 < t3.2.1)) then if (0 : Int) ≤ t3.2.2.1 then if t3.2.2.1 < ((List.length t3.1 : Nat) : Int) then Option.bind (F_impl_NodeKeys (rd_Node t3.1 t3.2.2.1)) fun r1 => if (List.length t3.2.2.2 + List.length r1) * 40 < 140737488355328 then again (t3.1, t3.2.1, (Go.IntKind.wrap .i64 (t3.2.2.1 + (1 : Int))), (t3.2.2.2 ++ r1)) else none else none else none else k0 t3.2.2.2
noncomputable def L_impl_TreeKeys_3 {R : Type} (k0 : List E_Key → Option R) (t : T_impl_TreeKeys_3) : Option R := iter (S_impl_TreeKeys_3 k0) FUEL t
noncomputable def F_impl_TreeKeys (x : Qz23) : Option (List E_Key) :=
  L_impl_TreeKeys_3 (fun x2 => some x2) (x.2, ((List.length x.2 : Nat) : Int), (0 : Int), ([] : List E_Key))
noncomputable def f213Q : List QF := [q206]
def f213e3_0 (t : Qz94) : St := ⟨dd 3 (.own 10000000 :: dd 4 (v_Node t.1 :: vI t.2.1 :: vI t.2.2.1 :: dd 9 [])), [(10000000, .root true 106 ts_Key t.2.2.2)]⟩
noncomputable def f213g3 : Gk T_impl_TreeKeys_3 := fun κ => S_impl_TreeKeys_3 (fun t => κ (some 0) ⟨dd 3 (.own 10000000 :: dd 16 []), [(10000000, .root true 106 ts_Key t)]⟩)
noncomputable def f213P : Lp := lpC 3 (unG qz94 f213e3_0) @f213g3 lpN
theorem f213C3 : LF f213Q f213P 213 3 Tryz.f213 0 f213e3_0 @f213g3 fun t => t := fun R κ again t => by kernel_rfl
theorem f213k3 : LK f213Q f213P 213 Tryz.f213 0 := loop_okG (u := (unG qz94 f213e3_0)) (by kernel_rfl) (unG_ok fun t => by kernel_rfl) (fun R κ s => by kernel_rfl) f213C3
theorem ev213 : EV f213Q f213P 213 Tryz.f213 sg213 qz23 [(.sl 106 ts_Key)] F_impl_TreeKeys := fun x => by kernel_rfl
noncomputable def q213 : QF := ⟨213, F_impl_TreeKeys, okN (n := 1) Tryz.func213 (by kernel_rfl) (by kernel_rfl) ⟨f213k3, trivial⟩ ev213⟩
noncomputable def F_impl_CellAt (x : Qz49) : Option Qz50 :=
  Option.bind (F_impl_within (x.2.1, (0 : Int), (Go.IntKind.wrap .i64 (((List.length x.1 : Nat) : Int) - (1 : Int))))) fun r1 => Option.bind (bif (!r1) then some true else if (0 : Int) ≤ x.2.1 then if x.2.1 < ((List.length x.1 : Nat) : Int) then some (!((rd_Cell x.1 x.2.1).2.1)) else none else none) fun u2 => Option.bind (bif u2 then some true else if (0 : Int) ≤ x.2.1 then if x.2.1 < ((List.length x.1 : Nat) : Int) then some ((rd_Cell x.1 x.2.1).1 != x.2.2) else none else none) fun u3 => bif u3 then some ((0 : Int), false) else if (0 : Int) ≤ x.2.1 then if x.2.1 < ((List.length x.1 : Nat) : Int) then some ((rd_Cell x.1 x.2.1).2.2, true) else none else none
theorem ev214 : EV [q134] lpN 214 Tryz.f214 sg214 qz49 qz50 F_impl_CellAt := fun x => by kernel_rfl
noncomputable def q214 : QF := ⟨214, F_impl_CellAt, okN (n := 0) Tryz.func214 (by kernel_rfl) (by kernel_rfl) trivial ev214⟩
abbrev T_impl_UsedCells_3 : Type := Qz95
noncomputable def S_impl_UsedCells_3 {R : Type} (k0 : Int → Option R) (again : T_impl_UsedCells_3 → Option R) (t3 : T_impl_UsedCells_3) : Option R :=
  bif (decide (t3.2.2.2 < t3.2.2.1)) then if (0 : Int) ≤ t3.2.2.2 then if t3.2.2.2 < ((List.length t3.2.1 : Nat) : Int) then bif (rd_Cell t3.2.1 t3.2.2.2).2.1 then again ((Go.IntKind.wrap .i64 (t3.1 + (1 : Int))), t3.2.1, t3.2.2.1, (Go.IntKind.wrap .i64 (t3.2.2.2 + (1 : Int)))) else again (t3.1, t3.2.1, t3.2.2.1, (Go.IntKind.wrap .i64 (t3.2.2.2 + (1 : Int)))) else none else none else k0 t3.1
noncomputable def L_impl_UsedCells_3 {R : Type} (k0 : Int → Option R) (t : T_impl_UsedCells_3) : Option R := iter (S_impl_UsedCells_3 k0) FUEL t
noncomputable def F_impl_UsedCells (x : List E_Cell) : Option Int :=
  L_impl_UsedCells_3 (fun x1 => some x1) ((0 : Int), x, ((List.length x : Nat) : Int), (0 : Int))
noncomputable def f215Q : List QF := []
def f215e3_0 (t : Qz95) : St := ⟨dd 3 (vI t.1 :: dd 2 (v_Cell t.2.1 :: vI t.2.2.1 :: vI t.2.2.2 :: dd 9 [])), []⟩
noncomputable def f215g3 : Gk T_impl_UsedCells_3 := fun κ => S_impl_UsedCells_3 (fun t => κ (some 0) ⟨dd 3 (vI t :: dd 14 []), []⟩)
noncomputable def f215P : Lp := lpC 3 (unG qz95 f215e3_0) @f215g3 lpN
theorem f215C3 : LF f215Q f215P 215 3 Tryz.f215 0 f215e3_0 @f215g3 fun t => t := fun R κ again t => by kernel_rfl
theorem f215k3 : LK f215Q f215P 215 Tryz.f215 0 := loop_okG (u := (unG qz95 f215e3_0)) (by kernel_rfl) (unG_ok fun t => by kernel_rfl) (fun R κ s => by kernel_rfl) f215C3
theorem ev215 : EV f215Q f215P 215 Tryz.f215 sg215 [(.sl 95 ts_Cell)] [(.int .i64)] F_impl_UsedCells := fun x => by kernel_rfl
noncomputable def q215 : QF := ⟨215, F_impl_UsedCells, okN (n := 1) Tryz.func215 (by kernel_rfl) (by kernel_rfl) ⟨f215k3, trivial⟩ ev215⟩
abbrev T_impl_keysFit_4 : Type := Qz96
noncomputable def S_impl_keysFit_4 {R : Type} (k0 : Qz45 → Option R) (k1 : Qz46 → Option R) (again : T_impl_keysFit_4 → Option R) (t4 : T_impl_keysFit_4) : Option R :=
  bif (decide (t4.2.2.1 < t4.2.1)) then if (0 : Int) ≤ t4.2.2.1 then if t4.2.2.1 < ((List.length t4.2.2.2.2.2.2.2.2.2.2 : Nat) : Int) then Option.bind (F_impl_AgeAt (t4.2.2.2.2.2.1, (rd_Key t4.2.2.2.2.2.2.2.2.2.2 t4.2.2.1).2.1)) fun r2 => bif (decide (r2 < (0 : Int))) then k0 (false, t4.1, t4.2.2.2.1, t4.2.2.2.2.1, t4.2.2.2.2.2.1, t4.2.2.2.2.2.2.1, t4.2.2.2.2.2.2.2.1, t4.2.2.2.2.2.2.2.2.1) else bif ((rd_Key t4.2.2.2.2.2.2.2.2.2.2 t4.2.2.1).2.2.1 != (1 : Int)) then again (t4.1, t4.2.1, (Go.IntKind.wrap .i64 (t4.2.2.1 + (1 : Int))), t4.2.2.2.1, t4.2.2.2.2.1, t4.2.2.2.2.2.1, t4.2.2.2.2.2.2.1, t4.2.2.2.2.2.2.2.1, t4.2.2.2.2.2.2.2.2.1, t4.2.2.2.2.2.2.2.2.2.1, t4.2.2.2.2.2.2.2.2.2.2) else Option.bind (F_impl_CellAt (t4.2.2.2.2.2.2.1, (rd_Key t4.2.2.2.2.2.2.2.2.2.2 t4.2.2.1).2.2.2.1, (rd_Key t4.2.2.2.2.2.2.2.2.2.2 t4.2.2.1).2.2.2.2)) fun r3 => Option.bind (bif (!r3.2) then some true else if (0 : Int) ≤ (rd_Key t4.2.2.2.2.2.2.2.2.2.2 t4.2.2.1).2.2.2.1 then if (rd_Key t4.2.2.2.2.2.2.2.2.2.2 t4.2.2.1).2.2.2.1 < ((List.length t4.2.2.2.2.2.2.2.2.2.1 : Nat) : Int) then some (rd_bool t4.2.2.2.2.2.2.2.2.2.1 ((rd_Key t4.2.2.2.2.2.2.2.2.2.2 t4.2.2.1).2.2.2.1)) else none else none) fun u4 => bif u4 then k0 (false, t4.1, t4.2.2.2.1, t4.2.2.2.2.1, t4.2.2.2.2.2.1, t4.2.2.2.2.2.2.1, t4.2.2.2.2.2.2.2.1, t4.2.2.2.2.2.2.2.2.1) else if (0 : Int) ≤ (rd_Key t4.2.2.2.2.2.2.2.2.2.2 t4.2.2.1).2.2.2.1 then if (rd_Key t4.2.2.2.2.2.2.2.2.2.2 t4.2.2.1).2.2.2.1 < ((List.length t4.2.2.2.2.2.2.2.2.2.1 : Nat) : Int) then again ((Go.IntKind.wrap .i64 (t4.1 + (1 : Int))), t4.2.1, (Go.IntKind.wrap .i64 (t4.2.2.1 + (1 : Int))), t4.2.2.2.1, t4.2.2.2.2.1, t4.2.2.2.2.2.1, t4.2.2.2.2.2.2.1, t4.2.2.2.2.2.2.2.1, t4.2.2.2.2.2.2.2.2.1, (List.set t4.2.2.2.2.2.2.2.2.2.1 (Int.toNat ((rd_Key t4.2.2.2.2.2.2.2.2.2.2 t4.2.2.1).2.2.2.1)) true), t4.2.2.2.2.2.2.2.2.2.2) else none else none else none else none else k1 (t4.1, t4.2.2.2.1, t4.2.2.2.2.1, t4.2.2.2.2.2.1, t4.2.2.2.2.2.2.1, t4.2.2.2.2.2.2.2.1, t4.2.2.2.2.2.2.2.2.1)
noncomputable def L_impl_keysFit_4 {R : Type} (k0 : Qz45 → Option R) (k1 : Qz46 → Option R) (t : T_impl_keysFit_4) : Option R := iter (S_impl_keysFit_4 k0 k1) FUEL t
noncomputable def F_impl_keysFit (x : Qz48) : Option Bool :=
  if (0 : Int) ≤ (24 : Int) then if (24 : Int) ≤ (24 : Int) then if (24 : Int) * ((1 : Nat) : Int) ≤ 140737488351232 then Option.bind (F_impl_TreeKeys (x.1, x.2.1)) fun r1 => L_impl_keysFit_4 (fun x5 => some x5.1) (fun x6 => Option.bind (F_impl_UsedCells x6.2.2.2.2.1) fun r7 => some (r7 == x6.1)) ((0 : Int), ((List.length r1 : Nat) : Int), (0 : Int), x.1, x.2.1, x.2.2.1, x.2.2.2.1, x.2.2.2.2.1, x.2.2.2.2.2, (List.replicate (Int.toNat (24 : Int)) z_bool), r1) else none else none else none
noncomputable def f136Q : List QF := [q207, q213, q214, q215]
def f136e4_0 (t : Qz96) : St := ⟨.dead :: .box 1 0 :: .dead :: .own 10000000 :: vI t.1 :: dd 7 (.own 10000001 :: vI t.2.1 :: vI t.2.2.1 :: dd 43 []), [(1, .box [v_i64 t.2.2.2.1, v_Node t.2.2.2.2.1, v_Age t.2.2.2.2.2.1, v_Cell t.2.2.2.2.2.2.1, v_Vol t.2.2.2.2.2.2.2.1, vI t.2.2.2.2.2.2.2.2.1]), (10000000, .root true 4 ts_bool t.2.2.2.2.2.2.2.2.2.1), (10000001, .root true 106 ts_Key t.2.2.2.2.2.2.2.2.2.2)]⟩
noncomputable def f136g4 : Gk T_impl_keysFit_4 := fun κ => S_impl_keysFit_4 (fun t => κ none ⟨.dead :: .box 1 0 :: vB t.1 :: .dead :: vI t.2.1 :: dd 53 [], [(1, .box [v_i64 t.2.2.1, v_Node t.2.2.2.1, v_Age t.2.2.2.2.1, v_Cell t.2.2.2.2.2.1, v_Vol t.2.2.2.2.2.2.1, vI t.2.2.2.2.2.2.2])]⟩) (fun t => κ (some 0) ⟨.dead :: .box 1 0 :: dd 2 (vI t.1 :: dd 53 []), [(1, .box [v_i64 t.2.1, v_Node t.2.2.1, v_Age t.2.2.2.1, v_Cell t.2.2.2.2.1, v_Vol t.2.2.2.2.2.1, vI t.2.2.2.2.2.2])]⟩)
noncomputable def f136P : Lp := lpC 4 (unG qz96 f136e4_0) @f136g4 lpN
theorem f136C4 : LF f136Q f136P 136 4 Tryz.f136 0 f136e4_0 @f136g4 fun t => t := fun R κ again t => by kernel_rfl
theorem f136k4 : LK f136Q f136P 136 Tryz.f136 0 := loop_okG (u := (unG qz96 f136e4_0)) (by kernel_rfl) (unG_ok fun t => by kernel_rfl) (fun R κ s => by kernel_rfl) f136C4
theorem ev136 : EV f136Q f136P 136 Tryz.f136 sg136 qz48 [.bool] F_impl_keysFit := fun x => by kernel_rfl
noncomputable def q136 : QF := ⟨136, F_impl_keysFit, okN (n := 1) Tryz.func136 (by kernel_rfl) (by kernel_rfl) ⟨f136k4, trivial⟩ ev136⟩
abbrev T_impl_PoolOk_4 : Type := Qz97
noncomputable def S_impl_PoolOk_4 {R : Type} (k0 : Qz47 → Option R) (k1 : Qz48 → Option R) (again : T_impl_PoolOk_4 → Option R) (t4 : T_impl_PoolOk_4) : Option R :=
  bif (decide (t4.2.2.1 < t4.2.1)) then if (0 : Int) ≤ t4.2.2.1 then if t4.2.2.1 < ((List.length t4.1 : Nat) : Int) then bif (decide ((rd_Age t4.1 t4.2.2.1).1 ≥ t4.2.2.2.2.2.2.2.2)) then k0 (false, t4.2.2.2.1, t4.2.2.2.2.1, t4.2.2.2.2.2.1, t4.2.2.2.2.2.2.1, t4.2.2.2.2.2.2.2.1, t4.2.2.2.2.2.2.2.2) else again (t4.1, t4.2.1, (Go.IntKind.wrap .i64 (t4.2.2.1 + (1 : Int))), t4.2.2.2.1, t4.2.2.2.2.1, t4.2.2.2.2.2.1, t4.2.2.2.2.2.2.1, t4.2.2.2.2.2.2.2.1, t4.2.2.2.2.2.2.2.2) else none else none else k1 (t4.2.2.2.1, t4.2.2.2.2.1, t4.2.2.2.2.2.1, t4.2.2.2.2.2.2.1, t4.2.2.2.2.2.2.2.1, t4.2.2.2.2.2.2.2.2)
noncomputable def L_impl_PoolOk_4 {R : Type} (k0 : Qz47 → Option R) (k1 : Qz48 → Option R) (t : T_impl_PoolOk_4) : Option R := iter (S_impl_PoolOk_4 k0 k1) FUEL t
noncomputable def F_impl_PoolOk (x : Qz48) : Option Bool :=
  Option.bind (F_impl_TreeOk (x.1, x.2.1)) fun r1 => Option.bind (bif (!r1) then some true else Option.bind (F_impl_AgesOk x.2.2.1) fun r3 => some (!r3)) fun u2 => Option.bind (bif u2 then some true else Option.bind (F_impl_CellsOk x.2.2.2.1) fun r5 => some (!r5)) fun u4 => Option.bind (bif u4 then some true else Option.bind (F_impl_within (x.2.2.2.2.2, (1 : Int), (61 : Int))) fun r7 => some (!r7)) fun u6 => bif u6 then some false else L_impl_PoolOk_4 (fun x8 => some x8.1) (fun x9 => Option.bind (F_impl_volsOk (x9.1, x9.2.1, x9.2.2.1, x9.2.2.2.1, x9.2.2.2.2.1, x9.2.2.2.2.2)) fun r10 => Option.bind (bif r10 then Option.bind (F_impl_keysFit (x9.1, x9.2.1, x9.2.2.1, x9.2.2.2.1, x9.2.2.2.2.1, x9.2.2.2.2.2)) fun r12 => some r12 else some false) fun u11 => some u11) (x.2.2.1, ((List.length x.2.2.1 : Nat) : Int), (0 : Int), x.1, x.2.1, x.2.2.1, x.2.2.2.1, x.2.2.2.2.1, x.2.2.2.2.2)
noncomputable def f56Q : List QF := [q131, q132, q133, q134, q135, q136]
def f56e4_0 (t : Qz97) : St := ⟨.dead :: .box 1 0 :: dd 26 (v_Age t.1 :: vI t.2.1 :: vI t.2.2.1 :: dd 15 []), [(1, .box [v_i64 t.2.2.2.1, v_Node t.2.2.2.2.1, v_Age t.2.2.2.2.2.1, v_Cell t.2.2.2.2.2.2.1, v_Vol t.2.2.2.2.2.2.2.1, vI t.2.2.2.2.2.2.2.2])]⟩
noncomputable def f56g4 : Gk T_impl_PoolOk_4 := fun κ => S_impl_PoolOk_4 (fun t => κ none ⟨.dead :: .box 1 0 :: vB t.1 :: dd 43 [], [(1, .box [v_i64 t.2.1, v_Node t.2.2.1, v_Age t.2.2.2.1, v_Cell t.2.2.2.2.1, v_Vol t.2.2.2.2.2.1, vI t.2.2.2.2.2.2])]⟩) (fun t => κ (some 0) ⟨.dead :: .box 1 0 :: dd 44 [], [(1, .box [v_i64 t.1, v_Node t.2.1, v_Age t.2.2.1, v_Cell t.2.2.2.1, v_Vol t.2.2.2.2.1, vI t.2.2.2.2.2])]⟩)
noncomputable def f56P : Lp := lpC 4 (unG qz97 f56e4_0) @f56g4 lpN
theorem f56C4 : LF f56Q f56P 56 4 Tryz.f56 0 f56e4_0 @f56g4 fun t => t := fun R κ again t => by kernel_rfl
theorem f56k4 : LK f56Q f56P 56 Tryz.f56 0 := loop_okG (u := (unG qz97 f56e4_0)) (by kernel_rfl) (unG_ok fun t => by kernel_rfl) (fun R κ s => by kernel_rfl) f56C4
theorem ev56 : EV f56Q f56P 56 Tryz.f56 sg56 qz48 [.bool] F_impl_PoolOk := fun x => by kernel_rfl
noncomputable def q56 : QF := ⟨56, F_impl_PoolOk, okN (n := 1) Tryz.func56 (by kernel_rfl) (by kernel_rfl) ⟨f56k4, trivial⟩ ev56⟩
abbrev T_impl_joined_3 : Type := Qz98
noncomputable def S_impl_joined_3 {R : Type} (k0 : List E_u8 → Option R) (again : T_impl_joined_3 → Option R) (t3 : T_impl_joined_3) : Option R :=
  bif (decide (t3.2.2.1 < t3.2.1)) then if (0 : Int) ≤ t3.2.2.1 then if t3.2.2.1 < ((List.length t3.1 : Nat) : Int) then if (List.length t3.2.2.2 + List.length (rd_s_u8 t3.1 t3.2.2.1)) * 1 < 140737488355328 then again (t3.1, t3.2.1, (Go.IntKind.wrap .i64 (t3.2.2.1 + (1 : Int))), (t3.2.2.2 ++ (rd_s_u8 t3.1 t3.2.2.1))) else none else none else none else k0 t3.2.2.2
noncomputable def L_impl_joined_3 {R : Type} (k0 : List E_u8 → Option R) (t : T_impl_joined_3) : Option R := iter (S_impl_joined_3 k0) FUEL t
noncomputable def F_impl_joined (x : List E_s_u8) : Option (List E_u8) :=
  L_impl_joined_3 (fun x1 => some x1) (x, ((List.length x : Nat) : Int), (0 : Int), ([] : List E_u8))
noncomputable def f137Q : List QF := []
def f137e3_0 (t : Qz98) : St := ⟨dd 3 (.own 10000000 :: dd 3 (v_s_u8 t.1 :: vI t.2.1 :: vI t.2.2.1 :: dd 8 [])), [(10000000, .root true 5 ts_u8 t.2.2.2)]⟩
noncomputable def f137g3 : Gk T_impl_joined_3 := fun κ => S_impl_joined_3 (fun t => κ (some 0) ⟨dd 3 (.own 10000000 :: dd 14 []), [(10000000, .root true 5 ts_u8 t)]⟩)
noncomputable def f137P : Lp := lpC 3 (unG qz98 f137e3_0) @f137g3 lpN
theorem f137C3 : LF f137Q f137P 137 3 Tryz.f137 0 f137e3_0 @f137g3 fun t => t := fun R κ again t => by kernel_rfl
theorem f137k3 : LK f137Q f137P 137 Tryz.f137 0 := loop_okG (u := (unG qz98 f137e3_0)) (by kernel_rfl) (unG_ok fun t => by kernel_rfl) (fun R κ s => by kernel_rfl) f137C3
theorem ev137 : EV f137Q f137P 137 Tryz.f137 sg137 [(.sl 32 ts_s_u8)] [(.sl 5 ts_u8)] F_impl_joined := fun x => by kernel_rfl
noncomputable def q137 : QF := ⟨137, F_impl_joined, okN (n := 1) Tryz.func137 (by kernel_rfl) (by kernel_rfl) ⟨f137k3, trivial⟩ ev137⟩
noncomputable def F_impl_PutW (x : Qz54) : Option (List E_u8) :=
  Option.bind (F_impl_joined ([x.1, ([(Go.IntKind.wrap .u8 (Go.bits .and .i64 (Int.fdiv x.2 (2 ^ (min (Int.toNat (8 : Int)) (Go.IntKind.bits .i64)))) (255 : Int))), (Go.IntKind.wrap .u8 (Go.bits .and .i64 x.2 (255 : Int)))] : List E_u8)] : List E_s_u8)) fun r1 => some r1
theorem ev57 : EV [q137] lpN 57 Tryz.f57 sg57 qz54 [(.sl 5 ts_u8)] F_impl_PutW := fun x => by kernel_rfl
noncomputable def q57 : QF := ⟨57, F_impl_PutW, okN (n := 0) Tryz.func57 (by kernel_rfl) (by kernel_rfl) trivial ev57⟩
noncomputable def F_impl_PutText (x : Qz55) : Option (List E_u8) :=
  bif (decide (((ByteArray.size x.2 : Nat) : Int) > (60 : Int))) then Option.bind (F_impl_joined ([x.1] : List E_s_u8)) fun r1 => some r1 else Option.bind (F_impl_PutW (x.1, ((ByteArray.size x.2 : Nat) : Int))) fun r2 => if ByteArray.size x.2 < 140737488351232 then Option.bind (F_impl_joined ([r2, (bytesL x.2)] : List E_s_u8)) fun r3 => some r3 else none
theorem ev58 : EV [q57, q137] lpN 58 Tryz.f58 sg58 qz55 [(.sl 5 ts_u8)] F_impl_PutText := fun x => by kernel_rfl
noncomputable def q58 : QF := ⟨58, F_impl_PutText, okN (n := 0) Tryz.func58 (by kernel_rfl) (by kernel_rfl) trivial ev58⟩
noncomputable def F_impl_flag (x : Bool) : Option Int :=
  bif x then some (1 : Int) else some (0 : Int)
theorem ev59 : EV [] lpN 59 Tryz.f59 sg59 [.bool] [(.int .u8)] F_impl_flag := fun x => by kernel_rfl
noncomputable def q59 : QF := ⟨59, F_impl_flag, okN (n := 0) Tryz.func59 (by kernel_rfl) (by kernel_rfl) trivial ev59⟩
noncomputable def F_impl_PutKey (x : Qz56) : Option (List E_u8) :=
  Option.bind (F_impl_joined ([x.1] : List E_s_u8)) fun r1 => Option.bind (F_impl_KeyOk (x.2.1, x.2.2.1, x.2.2.2.1, x.2.2.2.2.1, x.2.2.2.2.2)) fun r2 => bif (!r2) then some r1 else if (List.length r1 + List.length ([(Go.IntKind.wrap .u8 x.2.1), (Go.IntKind.wrap .u8 x.2.2.1), (Go.IntKind.wrap .u8 x.2.2.2.1), (Go.IntKind.wrap .u8 x.2.2.2.2.1)] : List E_u8)) * 1 < 140737488355328 then Option.bind (F_impl_PutW ((r1 ++ ([(Go.IntKind.wrap .u8 x.2.1), (Go.IntKind.wrap .u8 x.2.2.1), (Go.IntKind.wrap .u8 x.2.2.2.1), (Go.IntKind.wrap .u8 x.2.2.2.2.1)] : List E_u8)), x.2.2.2.2.2)) fun r3 => some r3 else none
theorem ev60 : EV [q57, q137, q138] lpN 60 Tryz.f60 sg60 qz56 [(.sl 5 ts_u8)] F_impl_PutKey := fun x => by kernel_rfl
noncomputable def q60 : QF := ⟨60, F_impl_PutKey, okN (n := 0) Tryz.func60 (by kernel_rfl) (by kernel_rfl) trivial ev60⟩
abbrev T_impl_PutPool_5 : Type := Qz99
noncomputable def S_impl_PutPool_5 {R : Type} (k0 : Qz60 → Option R) (again : T_impl_PutPool_5 → Option R) (t5 : T_impl_PutPool_5) : Option R :=
  bif (decide (t5.2.2.1 < t5.2.1)) then if (0 : Int) ≤ t5.2.2.1 then if t5.2.2.1 < ((List.length t5.1 : Nat) : Int) then if (List.length t5.2.2.2.2.2.2.2.2.2 + List.length ([(Go.IntKind.wrap .u8 ((rd_Age t5.1 t5.2.2.1).1)), (Go.IntKind.wrap .u8 ((rd_Age t5.1 t5.2.2.1).2))] : List E_u8)) * 1 < 140737488355328 then again (t5.1, t5.2.1, (Go.IntKind.wrap .i64 (t5.2.2.1 + (1 : Int))), t5.2.2.2.1, t5.2.2.2.2.1, t5.2.2.2.2.2.1, t5.2.2.2.2.2.2.1, t5.2.2.2.2.2.2.2.1, t5.2.2.2.2.2.2.2.2.1, (t5.2.2.2.2.2.2.2.2.2 ++ ([(Go.IntKind.wrap .u8 ((rd_Age t5.1 t5.2.2.1).1)), (Go.IntKind.wrap .u8 ((rd_Age t5.1 t5.2.2.1).2))] : List E_u8))) else none else none else none else k0 (t5.2.2.2.1, t5.2.2.2.2.1, t5.2.2.2.2.2.1, t5.2.2.2.2.2.2.1, t5.2.2.2.2.2.2.2.1, t5.2.2.2.2.2.2.2.2.1, t5.2.2.2.2.2.2.2.2.2)
noncomputable def L_impl_PutPool_5 {R : Type} (k0 : Qz60 → Option R) (t : T_impl_PutPool_5) : Option R := iter (S_impl_PutPool_5 k0) FUEL t
abbrev T_impl_PutPool_11 : Type := Qz100
noncomputable def S_impl_PutPool_11 {R : Type} (k0 : Qz60 → Option R) (again : T_impl_PutPool_11 → Option R) (t11 : T_impl_PutPool_11) : Option R :=
  bif (decide (t11.2.2.1 < t11.2.1)) then if (0 : Int) ≤ t11.2.2.1 then if t11.2.2.1 < ((List.length t11.1 : Nat) : Int) then Option.bind (F_impl_PutText (t11.2.2.2.2.2.2.2.2.2, (rd_Vol t11.1 t11.2.2.1).1)) fun r4 => Option.bind (F_impl_flag ((rd_Vol t11.1 t11.2.2.1).2.2.2)) fun r5 => if (List.length r4 + List.length ([(Go.IntKind.wrap .u8 ((rd_Vol t11.1 t11.2.2.1).2.1)), (Go.IntKind.wrap .u8 ((rd_Vol t11.1 t11.2.2.1).2.2.1)), r5] : List E_u8)) * 1 < 140737488355328 then again (t11.1, t11.2.1, (Go.IntKind.wrap .i64 (t11.2.2.1 + (1 : Int))), t11.2.2.2.1, t11.2.2.2.2.1, t11.2.2.2.2.2.1, t11.2.2.2.2.2.2.1, t11.2.2.2.2.2.2.2.1, t11.2.2.2.2.2.2.2.2.1, (r4 ++ ([(Go.IntKind.wrap .u8 ((rd_Vol t11.1 t11.2.2.1).2.1)), (Go.IntKind.wrap .u8 ((rd_Vol t11.1 t11.2.2.1).2.2.1)), r5] : List E_u8))) else none else none else none else k0 (t11.2.2.2.1, t11.2.2.2.2.1, t11.2.2.2.2.2.1, t11.2.2.2.2.2.2.1, t11.2.2.2.2.2.2.2.1, t11.2.2.2.2.2.2.2.2.1, t11.2.2.2.2.2.2.2.2.2)
noncomputable def L_impl_PutPool_11 {R : Type} (k0 : Qz60 → Option R) (t : T_impl_PutPool_11) : Option R := iter (S_impl_PutPool_11 k0) FUEL t
abbrev T_impl_PutPool_16 : Type := Qz101
noncomputable def S_impl_PutPool_16 {R : Type} (k0 : Qz60 → Option R) (again : T_impl_PutPool_16 → Option R) (t16 : T_impl_PutPool_16) : Option R :=
  bif (decide (t16.2.2.1 < t16.2.1)) then if (0 : Int) ≤ t16.2.2.1 then if t16.2.2.1 < ((List.length t16.1 : Nat) : Int) then Option.bind (F_impl_PutW (t16.2.2.2.2.2.2.2.2.2, (rd_Cell t16.1 t16.2.2.1).1)) fun r7 => Option.bind (F_impl_flag ((rd_Cell t16.1 t16.2.2.1).2.1)) fun r8 => if (List.length r7 + List.length ([r8] : List E_u8)) * 1 < 140737488355328 then Option.bind (F_impl_PutW ((r7 ++ ([r8] : List E_u8)), (rd_Cell t16.1 t16.2.2.1).2.2)) fun r9 => again (t16.1, t16.2.1, (Go.IntKind.wrap .i64 (t16.2.2.1 + (1 : Int))), t16.2.2.2.1, t16.2.2.2.2.1, t16.2.2.2.2.2.1, t16.2.2.2.2.2.2.1, t16.2.2.2.2.2.2.2.1, t16.2.2.2.2.2.2.2.2.1, r9) else none else none else none else k0 (t16.2.2.2.1, t16.2.2.2.2.1, t16.2.2.2.2.2.1, t16.2.2.2.2.2.2.1, t16.2.2.2.2.2.2.2.1, t16.2.2.2.2.2.2.2.2.1, t16.2.2.2.2.2.2.2.2.2)
noncomputable def L_impl_PutPool_16 {R : Type} (k0 : Qz60 → Option R) (t : T_impl_PutPool_16) : Option R := iter (S_impl_PutPool_16 k0) FUEL t
abbrev T_impl_PutPool_30 : Type := Qz102
noncomputable def S_impl_PutPool_30 {R : Type} (k0 : Qz103 → Option R) (again : T_impl_PutPool_30 → Option R) (t30 : T_impl_PutPool_30) : Option R :=
  bif (decide (t30.2.2.2.2.2.2.2.2.1 < t30.2.2.2.2.2.2.2.1)) then if (0 : Int) ≤ t30.2.2.2.2.2.2.2.2.1 then if t30.2.2.2.2.2.2.2.2.1 < ((List.length t30.2.2.2.2.2.2.1 : Nat) : Int) then Option.bind (F_impl_PutKey (t30.2.2.2.2.2.2.2.2.2.2.2.2.2.2.2, (rd_Key t30.2.2.2.2.2.2.1 t30.2.2.2.2.2.2.2.2.1).1, (rd_Key t30.2.2.2.2.2.2.1 t30.2.2.2.2.2.2.2.2.1).2.1, (rd_Key t30.2.2.2.2.2.2.1 t30.2.2.2.2.2.2.2.2.1).2.2.1, (rd_Key t30.2.2.2.2.2.2.1 t30.2.2.2.2.2.2.2.2.1).2.2.2.1, (rd_Key t30.2.2.2.2.2.2.1 t30.2.2.2.2.2.2.2.2.1).2.2.2.2)) fun r12 => again (t30.1, t30.2.1, t30.2.2.1, t30.2.2.2.1, t30.2.2.2.2.1, t30.2.2.2.2.2.1, t30.2.2.2.2.2.2.1, t30.2.2.2.2.2.2.2.1, (Go.IntKind.wrap .i64 (t30.2.2.2.2.2.2.2.2.1 + (1 : Int))), t30.2.2.2.2.2.2.2.2.2.1, t30.2.2.2.2.2.2.2.2.2.2.1, t30.2.2.2.2.2.2.2.2.2.2.2.1, t30.2.2.2.2.2.2.2.2.2.2.2.2.1, t30.2.2.2.2.2.2.2.2.2.2.2.2.2.1, t30.2.2.2.2.2.2.2.2.2.2.2.2.2.2.1, r12) else none else none else k0 (t30.1, t30.2.1, t30.2.2.1, t30.2.2.2.1, t30.2.2.2.2.1, t30.2.2.2.2.2.1, t30.2.2.2.2.2.2.2.2.2.1, t30.2.2.2.2.2.2.2.2.2.2.1, t30.2.2.2.2.2.2.2.2.2.2.2.1, t30.2.2.2.2.2.2.2.2.2.2.2.2.1, t30.2.2.2.2.2.2.2.2.2.2.2.2.2.1, t30.2.2.2.2.2.2.2.2.2.2.2.2.2.2.1, t30.2.2.2.2.2.2.2.2.2.2.2.2.2.2.2)
noncomputable def L_impl_PutPool_30 {R : Type} (k0 : Qz103 → Option R) (t : T_impl_PutPool_30) : Option R := iter (S_impl_PutPool_30 k0) FUEL t
abbrev T_impl_PutPool_26 : Type := Qz103
noncomputable def S_impl_PutPool_26 {R : Type} (k0 : Qz104 → Option R) (again : T_impl_PutPool_26 → Option R) (t26 : T_impl_PutPool_26) : Option R :=
  bif (decide (t26.2.2.2.2.2.1 < t26.2.2.2.2.1)) then if (0 : Int) ≤ t26.2.2.2.2.2.1 then if t26.2.2.2.2.2.1 < ((List.length t26.2.2.2.1 : Nat) : Int) then if (List.length t26.2.2.2.2.2.2.2.2.2.2.2.2 + List.length ([(Go.IntKind.wrap .u8 ((List.length (rd_s_Key t26.2.2.2.1 t26.2.2.2.2.2.1) : Nat) : Int))] : List E_u8)) * 1 < 140737488355328 then L_impl_PutPool_30 (fun x13 => again (x13.1, x13.2.1, x13.2.2.1, x13.2.2.2.1, x13.2.2.2.2.1, (Go.IntKind.wrap .i64 (x13.2.2.2.2.2.1 + (1 : Int))), x13.2.2.2.2.2.2.1, x13.2.2.2.2.2.2.2.1, x13.2.2.2.2.2.2.2.2.1, x13.2.2.2.2.2.2.2.2.2.1, x13.2.2.2.2.2.2.2.2.2.2.1, x13.2.2.2.2.2.2.2.2.2.2.2.1, x13.2.2.2.2.2.2.2.2.2.2.2.2)) (t26.1, t26.2.1, t26.2.2.1, t26.2.2.2.1, t26.2.2.2.2.1, t26.2.2.2.2.2.1, (rd_s_Key t26.2.2.2.1 t26.2.2.2.2.2.1), ((List.length (rd_s_Key t26.2.2.2.1 t26.2.2.2.2.2.1) : Nat) : Int), (0 : Int), t26.2.2.2.2.2.2.1, t26.2.2.2.2.2.2.2.1, t26.2.2.2.2.2.2.2.2.1, t26.2.2.2.2.2.2.2.2.2.1, t26.2.2.2.2.2.2.2.2.2.2.1, t26.2.2.2.2.2.2.2.2.2.2.2.1, (t26.2.2.2.2.2.2.2.2.2.2.2.2 ++ ([(Go.IntKind.wrap .u8 ((List.length (rd_s_Key t26.2.2.2.1 t26.2.2.2.2.2.1) : Nat) : Int))] : List E_u8))) else none else none else none else k0 (t26.1, t26.2.1, t26.2.2.1, t26.2.2.2.2.2.2.1, t26.2.2.2.2.2.2.2.1, t26.2.2.2.2.2.2.2.2.1, t26.2.2.2.2.2.2.2.2.2.1, t26.2.2.2.2.2.2.2.2.2.2.1, t26.2.2.2.2.2.2.2.2.2.2.2.1, t26.2.2.2.2.2.2.2.2.2.2.2.2)
noncomputable def L_impl_PutPool_26 {R : Type} (k0 : Qz104 → Option R) (t : T_impl_PutPool_26) : Option R := iter (S_impl_PutPool_26 k0) FUEL t
abbrev T_impl_PutPool_22 : Type := Qz104
noncomputable def S_impl_PutPool_22 {R : Type} (k0 : List E_u8 → Option R) (again : T_impl_PutPool_22 → Option R) (t22 : T_impl_PutPool_22) : Option R :=
  bif (decide (t22.2.2.1 < t22.2.1)) then if (0 : Int) ≤ t22.2.2.1 then if t22.2.2.1 < ((List.length t22.1 : Nat) : Int) then if (0 : Int) ≤ t22.2.2.1 then if t22.2.2.1 < ((List.length t22.2.2.2.1 : Nat) : Int) then Option.bind (F_impl_PutW (t22.2.2.2.2.2.2.2.2.2, (rd_i64 t22.2.2.2.1 t22.2.2.1))) fun r11 => if (List.length r11 + List.length ([(Go.IntKind.wrap .u8 ((List.length (rd_Node t22.1 t22.2.2.1) : Nat) : Int))] : List E_u8)) * 1 < 140737488355328 then L_impl_PutPool_26 (fun x14 => again (x14.1, x14.2.1, (Go.IntKind.wrap .i64 (x14.2.2.1 + (1 : Int))), x14.2.2.2.1, x14.2.2.2.2.1, x14.2.2.2.2.2.1, x14.2.2.2.2.2.2.1, x14.2.2.2.2.2.2.2.1, x14.2.2.2.2.2.2.2.2.1, x14.2.2.2.2.2.2.2.2.2)) (t22.1, t22.2.1, t22.2.2.1, (rd_Node t22.1 t22.2.2.1), ((List.length (rd_Node t22.1 t22.2.2.1) : Nat) : Int), (0 : Int), t22.2.2.2.1, t22.2.2.2.2.1, t22.2.2.2.2.2.1, t22.2.2.2.2.2.2.1, t22.2.2.2.2.2.2.2.1, t22.2.2.2.2.2.2.2.2.1, (r11 ++ ([(Go.IntKind.wrap .u8 ((List.length (rd_Node t22.1 t22.2.2.1) : Nat) : Int))] : List E_u8))) else none else none else none else none else none else k0 t22.2.2.2.2.2.2.2.2.2
noncomputable def L_impl_PutPool_22 {R : Type} (k0 : List E_u8 → Option R) (t : T_impl_PutPool_22) : Option R := iter (S_impl_PutPool_22 k0) FUEL t
noncomputable def F_impl_PutPool (x : Qz48) : Option (List E_u8) :=
  Option.bind (F_impl_PoolOk (x.1, x.2.1, x.2.2.1, x.2.2.2.1, x.2.2.2.2.1, x.2.2.2.2.2)) fun r1 => bif (!r1) then some ([] : List E_u8) else Option.bind (F_impl_PutW (([] : List E_u8), x.2.2.2.2.2)) fun r2 => if (List.length r2 + List.length ([(Go.IntKind.wrap .u8 ((List.length x.2.2.1 : Nat) : Int))] : List E_u8)) * 1 < 140737488355328 then L_impl_PutPool_5 (fun x3 => if (List.length x3.2.2.2.2.2.2 + List.length ([(Go.IntKind.wrap .u8 ((List.length x3.2.2.2.2.1 : Nat) : Int))] : List E_u8)) * 1 < 140737488355328 then L_impl_PutPool_11 (fun x6 => L_impl_PutPool_16 (fun x10 => if (List.length x10.2.2.2.2.2.2 + List.length ([(Go.IntKind.wrap .u8 ((List.length x10.2.1 : Nat) : Int))] : List E_u8)) * 1 < 140737488355328 then L_impl_PutPool_22 (fun x15 => some x15) (x10.2.1, ((List.length x10.2.1 : Nat) : Int), (0 : Int), x10.1, x10.2.1, x10.2.2.1, x10.2.2.2.1, x10.2.2.2.2.1, x10.2.2.2.2.2.1, (x10.2.2.2.2.2.2 ++ ([(Go.IntKind.wrap .u8 ((List.length x10.2.1 : Nat) : Int))] : List E_u8))) else none) (x6.2.2.2.1, ((List.length x6.2.2.2.1 : Nat) : Int), (0 : Int), x6.1, x6.2.1, x6.2.2.1, x6.2.2.2.1, x6.2.2.2.2.1, x6.2.2.2.2.2.1, x6.2.2.2.2.2.2)) (x3.2.2.2.2.1, ((List.length x3.2.2.2.2.1 : Nat) : Int), (0 : Int), x3.1, x3.2.1, x3.2.2.1, x3.2.2.2.1, x3.2.2.2.2.1, x3.2.2.2.2.2.1, (x3.2.2.2.2.2.2 ++ ([(Go.IntKind.wrap .u8 ((List.length x3.2.2.2.2.1 : Nat) : Int))] : List E_u8))) else none) (x.2.2.1, ((List.length x.2.2.1 : Nat) : Int), (0 : Int), x.1, x.2.1, x.2.2.1, x.2.2.2.1, x.2.2.2.2.1, x.2.2.2.2.2, (r2 ++ ([(Go.IntKind.wrap .u8 ((List.length x.2.2.1 : Nat) : Int))] : List E_u8))) else none
noncomputable def f13Q : List QF := [q56, q57, q58, q59, q60]
def f13e5_0 (t : Qz99) : St := ⟨.dead :: .box 1 0 :: .dead :: .own 10000000 :: dd 25 (v_Age t.1 :: vI t.2.1 :: vI t.2.2.1 :: dd 120 []), [(1, .box [v_i64 t.2.2.2.1, v_Node t.2.2.2.2.1, v_Age t.2.2.2.2.2.1, v_Cell t.2.2.2.2.2.2.1, v_Vol t.2.2.2.2.2.2.2.1, vI t.2.2.2.2.2.2.2.2.1]), (10000000, .root true 5 ts_u8 t.2.2.2.2.2.2.2.2.2)]⟩
noncomputable def f13g5 : Gk T_impl_PutPool_5 := fun κ => S_impl_PutPool_5 (fun t => κ (some 0) ⟨.dead :: .box 1 0 :: .dead :: .own 10000000 :: dd 148 [], [(1, .box [v_i64 t.1, v_Node t.2.1, v_Age t.2.2.1, v_Cell t.2.2.2.1, v_Vol t.2.2.2.2.1, vI t.2.2.2.2.2.1]), (10000000, .root true 5 ts_u8 t.2.2.2.2.2.2)]⟩)
def f13e11_0 (t : Qz100) : St := ⟨.dead :: .box 1 0 :: .dead :: .own 10000000 :: dd 49 (v_Vol t.1 :: vI t.2.1 :: vI t.2.2.1 :: dd 96 []), [(1, .box [v_i64 t.2.2.2.1, v_Node t.2.2.2.2.1, v_Age t.2.2.2.2.2.1, v_Cell t.2.2.2.2.2.2.1, v_Vol t.2.2.2.2.2.2.2.1, vI t.2.2.2.2.2.2.2.2.1]), (10000000, .root true 5 ts_u8 t.2.2.2.2.2.2.2.2.2)]⟩
noncomputable def f13g11 : Gk T_impl_PutPool_11 := fun κ => S_impl_PutPool_11 (fun t => κ (some 2) ⟨.dead :: .box 1 0 :: .dead :: .own 10000000 :: dd 148 [], [(1, .box [v_i64 t.1, v_Node t.2.1, v_Age t.2.2.1, v_Cell t.2.2.2.1, v_Vol t.2.2.2.2.1, vI t.2.2.2.2.2.1]), (10000000, .root true 5 ts_u8 t.2.2.2.2.2.2)]⟩)
def f13e16_0 (t : Qz101) : St := ⟨.dead :: .box 1 0 :: .dead :: .own 10000000 :: dd 72 (v_Cell t.1 :: vI t.2.1 :: vI t.2.2.1 :: dd 73 []), [(1, .box [v_i64 t.2.2.2.1, v_Node t.2.2.2.2.1, v_Age t.2.2.2.2.2.1, v_Cell t.2.2.2.2.2.2.1, v_Vol t.2.2.2.2.2.2.2.1, vI t.2.2.2.2.2.2.2.2.1]), (10000000, .root true 5 ts_u8 t.2.2.2.2.2.2.2.2.2)]⟩
noncomputable def f13g16 : Gk T_impl_PutPool_16 := fun κ => S_impl_PutPool_16 (fun t => κ (some 4) ⟨.dead :: .box 1 0 :: .dead :: .own 10000000 :: dd 148 [], [(1, .box [v_i64 t.1, v_Node t.2.1, v_Age t.2.2.1, v_Cell t.2.2.2.1, v_Vol t.2.2.2.2.1, vI t.2.2.2.2.2.1]), (10000000, .root true 5 ts_u8 t.2.2.2.2.2.2)]⟩)
def f13e30_0 (t : Qz102) : St := ⟨.dead :: .box 1 0 :: .dead :: .own 10000000 :: dd 101 (v_Node t.1 :: vI t.2.1 :: vI t.2.2.1 :: dd 19 (v_s_Key t.2.2.2.1 :: vI t.2.2.2.2.1 :: vI t.2.2.2.2.2.1 :: dd 9 (v_Key t.2.2.2.2.2.2.1 :: vI t.2.2.2.2.2.2.2.1 :: vI t.2.2.2.2.2.2.2.2.1 :: dd 10 []))), [(1, .box [v_i64 t.2.2.2.2.2.2.2.2.2.1, v_Node t.2.2.2.2.2.2.2.2.2.2.1, v_Age t.2.2.2.2.2.2.2.2.2.2.2.1, v_Cell t.2.2.2.2.2.2.2.2.2.2.2.2.1, v_Vol t.2.2.2.2.2.2.2.2.2.2.2.2.2.1, vI t.2.2.2.2.2.2.2.2.2.2.2.2.2.2.1]), (10000000, .root true 5 ts_u8 t.2.2.2.2.2.2.2.2.2.2.2.2.2.2.2)]⟩
noncomputable def f13g30 : Gk T_impl_PutPool_30 := fun κ => S_impl_PutPool_30 (fun t => κ (some 10) ⟨.dead :: .box 1 0 :: .dead :: .own 10000000 :: dd 101 (v_Node t.1 :: vI t.2.1 :: vI t.2.2.1 :: dd 19 (v_s_Key t.2.2.2.1 :: vI t.2.2.2.2.1 :: vI t.2.2.2.2.2.1 :: dd 22 [])), [(1, .box [v_i64 t.2.2.2.2.2.2.1, v_Node t.2.2.2.2.2.2.2.1, v_Age t.2.2.2.2.2.2.2.2.1, v_Cell t.2.2.2.2.2.2.2.2.2.1, v_Vol t.2.2.2.2.2.2.2.2.2.2.1, vI t.2.2.2.2.2.2.2.2.2.2.2.1]), (10000000, .root true 5 ts_u8 t.2.2.2.2.2.2.2.2.2.2.2.2)]⟩)
def f13e26_0 (t : Qz103) : St := ⟨.dead :: .box 1 0 :: .dead :: .own 10000000 :: dd 101 (v_Node t.1 :: vI t.2.1 :: vI t.2.2.1 :: dd 19 (v_s_Key t.2.2.2.1 :: vI t.2.2.2.2.1 :: vI t.2.2.2.2.2.1 :: dd 22 [])), [(1, .box [v_i64 t.2.2.2.2.2.2.1, v_Node t.2.2.2.2.2.2.2.1, v_Age t.2.2.2.2.2.2.2.2.1, v_Cell t.2.2.2.2.2.2.2.2.2.1, v_Vol t.2.2.2.2.2.2.2.2.2.2.1, vI t.2.2.2.2.2.2.2.2.2.2.2.1]), (10000000, .root true 5 ts_u8 t.2.2.2.2.2.2.2.2.2.2.2.2)]⟩
noncomputable def f13g26 : Gk T_impl_PutPool_26 := fun κ => S_impl_PutPool_26 (fun t => κ (some 8) ⟨.dead :: .box 1 0 :: .dead :: .own 10000000 :: dd 101 (v_Node t.1 :: vI t.2.1 :: vI t.2.2.1 :: dd 44 []), [(1, .box [v_i64 t.2.2.2.1, v_Node t.2.2.2.2.1, v_Age t.2.2.2.2.2.1, v_Cell t.2.2.2.2.2.2.1, v_Vol t.2.2.2.2.2.2.2.1, vI t.2.2.2.2.2.2.2.2.1]), (10000000, .root true 5 ts_u8 t.2.2.2.2.2.2.2.2.2)]⟩)
def f13e22_0 (t : Qz104) : St := ⟨.dead :: .box 1 0 :: .dead :: .own 10000000 :: dd 101 (v_Node t.1 :: vI t.2.1 :: vI t.2.2.1 :: dd 44 []), [(1, .box [v_i64 t.2.2.2.1, v_Node t.2.2.2.2.1, v_Age t.2.2.2.2.2.1, v_Cell t.2.2.2.2.2.2.1, v_Vol t.2.2.2.2.2.2.2.1, vI t.2.2.2.2.2.2.2.2.1]), (10000000, .root true 5 ts_u8 t.2.2.2.2.2.2.2.2.2)]⟩
noncomputable def f13g22 : Gk T_impl_PutPool_22 := fun κ => S_impl_PutPool_22 (fun t => κ (some 6) ⟨dd 3 (.own 10000000 :: dd 148 []), [(10000000, .root true 5 ts_u8 t)]⟩)
noncomputable def f13P : Lp := lpC 22 (unG qz104 f13e22_0) @f13g22 (lpC 26 (unG qz103 f13e26_0) @f13g26 (lpC 30 (unG qz102 f13e30_0) @f13g30 (lpC 16 (unG qz101 f13e16_0) @f13g16 (lpC 11 (unG qz100 f13e11_0) @f13g11 (lpC 5 (unG qz99 f13e5_0) @f13g5 lpN)))))
theorem f13C5 : LF f13Q f13P 13 5 Tryz.f13 0 f13e5_0 @f13g5 fun t => t := fun R κ again t => by kernel_rfl
theorem f13k5 : LK f13Q f13P 13 Tryz.f13 0 := loop_okG (u := (unG qz99 f13e5_0)) (by kernel_rfl) (unG_ok fun t => by kernel_rfl) (fun R κ s => by kernel_rfl) f13C5
theorem f13C11 : LF f13Q f13P 13 11 Tryz.f13 1 f13e11_0 @f13g11 fun t => t := fun R κ again t => by kernel_rfl
theorem f13k11 : LK f13Q f13P 13 Tryz.f13 1 := loop_okG (u := (unG qz100 f13e11_0)) (by kernel_rfl) (unG_ok fun t => by kernel_rfl) (fun R κ s => by kernel_rfl) f13C11
theorem f13C16 : LF f13Q f13P 13 16 Tryz.f13 2 f13e16_0 @f13g16 fun t => t := fun R κ again t => by kernel_rfl
theorem f13k16 : LK f13Q f13P 13 Tryz.f13 2 := loop_okG (u := (unG qz101 f13e16_0)) (by kernel_rfl) (unG_ok fun t => by kernel_rfl) (fun R κ s => by kernel_rfl) f13C16
theorem f13C30 : LF f13Q f13P 13 30 Tryz.f13 5 f13e30_0 @f13g30 fun t => t := fun R κ again t => by kernel_rfl
theorem f13k30 : LK f13Q f13P 13 Tryz.f13 5 := loop_okG (u := (unG qz102 f13e30_0)) (by kernel_rfl) (unG_ok fun t => by kernel_rfl) (fun R κ s => by kernel_rfl) f13C30
theorem f13C26 : LF f13Q f13P 13 26 Tryz.f13 4 f13e26_0 @f13g26 fun t => t := fun R κ again t => by kernel_rfl
theorem f13k26 : LK f13Q f13P 13 Tryz.f13 4 := loop_okG (u := (unG qz103 f13e26_0)) (by kernel_rfl) (unG_ok fun t => by kernel_rfl) (fun R κ s => by kernel_rfl) f13C26
theorem f13C22 : LF f13Q f13P 13 22 Tryz.f13 3 f13e22_0 @f13g22 fun t => t := fun R κ again t => by kernel_rfl
theorem f13k22 : LK f13Q f13P 13 Tryz.f13 3 := loop_okG (u := (unG qz104 f13e22_0)) (by kernel_rfl) (unG_ok fun t => by kernel_rfl) (fun R κ s => by kernel_rfl) f13C22
theorem ev13 : EV f13Q f13P 13 Tryz.f13 sg13 qz48 [(.sl 5 ts_u8)] F_impl_PutPool := fun x => by kernel_rfl
noncomputable def q13 : QF := ⟨13, F_impl_PutPool, okN (n := 6) Tryz.func13 (by kernel_rfl) (by kernel_rfl) ⟨f13k5, f13k11, f13k16, f13k22, f13k26, f13k30, trivial⟩ ev13⟩
abbrev T_laws_eqByteS_4 : Type := Qz105
noncomputable def S_laws_eqByteS_4 {R : Type} (k0 : Bool → Option R) (k1 : Unit → Option R) (again : T_laws_eqByteS_4 → Option R) (t4 : T_laws_eqByteS_4) : Option R :=
  bif (decide (t4.2.2 < ((List.length t4.1 : Nat) : Int))) then if (0 : Int) ≤ t4.2.2 then if t4.2.2 < ((List.length t4.1 : Nat) : Int) then if (0 : Int) ≤ t4.2.2 then if t4.2.2 < ((List.length t4.2.1 : Nat) : Int) then bif ((rd_u8 t4.1 t4.2.2) != (rd_u8 t4.2.1 t4.2.2)) then k0 false else again (t4.1, t4.2.1, (Go.IntKind.wrap .i64 (t4.2.2 + (1 : Int)))) else none else none else none else none else k1 ()
noncomputable def L_laws_eqByteS_4 {R : Type} (k0 : Bool → Option R) (k1 : Unit → Option R) (t : T_laws_eqByteS_4) : Option R := iter (S_laws_eqByteS_4 k0 k1) FUEL t
noncomputable def F_laws_eqByteS (x : Qz106) : Option Bool :=
  bif (((List.length x.1 : Nat) : Int) != ((List.length x.2 : Nat) : Int)) then some false else L_laws_eqByteS_4 (fun x1 => some x1) (fun x2 => some true) (x.1, x.2, (0 : Int))
noncomputable def f14Q : List QF := []
def f14e4_0 (t : Qz105) : St := ⟨v_u8 t.1 :: v_u8 t.2.1 :: dd 3 (vI t.2.2 :: dd 20 []), []⟩
noncomputable def f14g4 : Gk T_laws_eqByteS_4 := fun κ => S_laws_eqByteS_4 (fun t => κ none ⟨dd 4 (vB t :: dd 21 []), []⟩) (fun t => κ (some 0) ⟨dd 26 [], []⟩)
noncomputable def f14P : Lp := lpC 4 (unG qz105 f14e4_0) @f14g4 lpN
theorem f14C4 : LF f14Q f14P 14 4 Tryz.f14 0 f14e4_0 @f14g4 fun t => t := fun R κ again t => by kernel_rfl
theorem f14k4 : LK f14Q f14P 14 Tryz.f14 0 := loop_okG (u := (unG qz105 f14e4_0)) (by kernel_rfl) (unG_ok fun t => by kernel_rfl) (fun R κ s => by kernel_rfl) f14C4
theorem ev14 : EV f14Q f14P 14 Tryz.f14 sg14 qz106 [.bool] F_laws_eqByteS := fun x => by kernel_rfl
noncomputable def q14 : QF := ⟨14, F_laws_eqByteS, okN (n := 1) Tryz.func14 (by kernel_rfl) (by kernel_rfl) ⟨f14k4, trivial⟩ ev14⟩
abbrev T_laws_eqIntS_4 : Type := Qz107
noncomputable def S_laws_eqIntS_4 {R : Type} (k0 : Bool → Option R) (k1 : Unit → Option R) (again : T_laws_eqIntS_4 → Option R) (t4 : T_laws_eqIntS_4) : Option R :=
  bif (decide (t4.2.2 < ((List.length t4.1 : Nat) : Int))) then if (0 : Int) ≤ t4.2.2 then if t4.2.2 < ((List.length t4.1 : Nat) : Int) then if (0 : Int) ≤ t4.2.2 then if t4.2.2 < ((List.length t4.2.1 : Nat) : Int) then bif ((rd_i64 t4.1 t4.2.2) != (rd_i64 t4.2.1 t4.2.2)) then k0 false else again (t4.1, t4.2.1, (Go.IntKind.wrap .i64 (t4.2.2 + (1 : Int)))) else none else none else none else none else k1 ()
noncomputable def L_laws_eqIntS_4 {R : Type} (k0 : Bool → Option R) (k1 : Unit → Option R) (t : T_laws_eqIntS_4) : Option R := iter (S_laws_eqIntS_4 k0 k1) FUEL t
noncomputable def F_laws_eqIntS (x : Qz108) : Option Bool :=
  bif (((List.length x.1 : Nat) : Int) != ((List.length x.2 : Nat) : Int)) then some false else L_laws_eqIntS_4 (fun x1 => some x1) (fun x2 => some true) (x.1, x.2, (0 : Int))
noncomputable def f139Q : List QF := []
def f139e4_0 (t : Qz107) : St := ⟨v_i64 t.1 :: v_i64 t.2.1 :: dd 3 (vI t.2.2 :: dd 20 []), []⟩
noncomputable def f139g4 : Gk T_laws_eqIntS_4 := fun κ => S_laws_eqIntS_4 (fun t => κ none ⟨dd 4 (vB t :: dd 21 []), []⟩) (fun t => κ (some 0) ⟨dd 26 [], []⟩)
noncomputable def f139P : Lp := lpC 4 (unG qz107 f139e4_0) @f139g4 lpN
theorem f139C4 : LF f139Q f139P 139 4 Tryz.f139 0 f139e4_0 @f139g4 fun t => t := fun R κ again t => by kernel_rfl
theorem f139k4 : LK f139Q f139P 139 Tryz.f139 0 := loop_okG (u := (unG qz107 f139e4_0)) (by kernel_rfl) (unG_ok fun t => by kernel_rfl) (fun R κ s => by kernel_rfl) f139C4
theorem ev139 : EV f139Q f139P 139 Tryz.f139 sg139 qz108 [.bool] F_laws_eqIntS := fun x => by kernel_rfl
noncomputable def q139 : QF := ⟨139, F_laws_eqIntS, okN (n := 1) Tryz.func139 (by kernel_rfl) (by kernel_rfl) ⟨f139k4, trivial⟩ ev139⟩
noncomputable def F_laws_eqKey (x : Qz16) : Option Bool :=
  bif (x.1 != x.2.2.2.2.2.1) then some false else bif (x.2.1 != x.2.2.2.2.2.2.1) then some false else bif (x.2.2.1 != x.2.2.2.2.2.2.2.1) then some false else bif (x.2.2.2.1 != x.2.2.2.2.2.2.2.2.1) then some false else bif (x.2.2.2.2.1 != x.2.2.2.2.2.2.2.2.2) then some false else some true
theorem ev303 : EV [] lpN 303 Tryz.f303 sg303 qz16 [.bool] F_laws_eqKey := fun x => by kernel_rfl
noncomputable def q303 : QF := ⟨303, F_laws_eqKey, okN (n := 0) Tryz.func303 (by kernel_rfl) (by kernel_rfl) trivial ev303⟩
abbrev T_laws_eqKeyS_4 : Type := Qz109
noncomputable def S_laws_eqKeyS_4 {R : Type} (k0 : Bool → Option R) (k1 : Unit → Option R) (again : T_laws_eqKeyS_4 → Option R) (t4 : T_laws_eqKeyS_4) : Option R :=
  bif (decide (t4.2.2 < ((List.length t4.1 : Nat) : Int))) then if (0 : Int) ≤ t4.2.2 then if t4.2.2 < ((List.length t4.1 : Nat) : Int) then if (0 : Int) ≤ t4.2.2 then if t4.2.2 < ((List.length t4.2.1 : Nat) : Int) then Option.bind (F_laws_eqKey ((rd_Key t4.1 t4.2.2).1, (rd_Key t4.1 t4.2.2).2.1, (rd_Key t4.1 t4.2.2).2.2.1, (rd_Key t4.1 t4.2.2).2.2.2.1, (rd_Key t4.1 t4.2.2).2.2.2.2, (rd_Key t4.2.1 t4.2.2).1, (rd_Key t4.2.1 t4.2.2).2.1, (rd_Key t4.2.1 t4.2.2).2.2.1, (rd_Key t4.2.1 t4.2.2).2.2.2.1, (rd_Key t4.2.1 t4.2.2).2.2.2.2)) fun r1 => bif (!r1) then k0 false else again (t4.1, t4.2.1, (Go.IntKind.wrap .i64 (t4.2.2 + (1 : Int)))) else none else none else none else none else k1 ()
noncomputable def L_laws_eqKeyS_4 {R : Type} (k0 : Bool → Option R) (k1 : Unit → Option R) (t : T_laws_eqKeyS_4) : Option R := iter (S_laws_eqKeyS_4 k0 k1) FUEL t
noncomputable def F_laws_eqKeyS (x : Qz20) : Option Bool :=
  bif (((List.length x.1 : Nat) : Int) != ((List.length x.2 : Nat) : Int)) then some false else L_laws_eqKeyS_4 (fun x2 => some x2) (fun x3 => some true) (x.1, x.2, (0 : Int))
noncomputable def f282Q : List QF := [q303]
def f282e4_0 (t : Qz109) : St := ⟨v_Key t.1 :: v_Key t.2.1 :: dd 3 (vI t.2.2 :: dd 21 []), []⟩
noncomputable def f282g4 : Gk T_laws_eqKeyS_4 := fun κ => S_laws_eqKeyS_4 (fun t => κ none ⟨dd 4 (vB t :: dd 22 []), []⟩) (fun t => κ (some 0) ⟨dd 27 [], []⟩)
noncomputable def f282P : Lp := lpC 4 (unG qz109 f282e4_0) @f282g4 lpN
theorem f282C4 : LF f282Q f282P 282 4 Tryz.f282 0 f282e4_0 @f282g4 fun t => t := fun R κ again t => by kernel_rfl
theorem f282k4 : LK f282Q f282P 282 Tryz.f282 0 := loop_okG (u := (unG qz109 f282e4_0)) (by kernel_rfl) (unG_ok fun t => by kernel_rfl) (fun R κ s => by kernel_rfl) f282C4
theorem ev282 : EV f282Q f282P 282 Tryz.f282 sg282 qz20 [.bool] F_laws_eqKeyS := fun x => by kernel_rfl
noncomputable def q282 : QF := ⟨282, F_laws_eqKeyS, okN (n := 1) Tryz.func282 (by kernel_rfl) (by kernel_rfl) ⟨f282k4, trivial⟩ ev282⟩
abbrev T_laws_eqKeySS_4 : Type := Qz110
noncomputable def S_laws_eqKeySS_4 {R : Type} (k0 : Bool → Option R) (k1 : Unit → Option R) (again : T_laws_eqKeySS_4 → Option R) (t4 : T_laws_eqKeySS_4) : Option R :=
  bif (decide (t4.2.2 < ((List.length t4.1 : Nat) : Int))) then if (0 : Int) ≤ t4.2.2 then if t4.2.2 < ((List.length t4.1 : Nat) : Int) then if (0 : Int) ≤ t4.2.2 then if t4.2.2 < ((List.length t4.2.1 : Nat) : Int) then Option.bind (F_laws_eqKeyS ((rd_s_Key t4.1 t4.2.2), (rd_s_Key t4.2.1 t4.2.2))) fun r1 => bif (!r1) then k0 false else again (t4.1, t4.2.1, (Go.IntKind.wrap .i64 (t4.2.2 + (1 : Int)))) else none else none else none else none else k1 ()
noncomputable def L_laws_eqKeySS_4 {R : Type} (k0 : Bool → Option R) (k1 : Unit → Option R) (t : T_laws_eqKeySS_4) : Option R := iter (S_laws_eqKeySS_4 k0 k1) FUEL t
noncomputable def F_laws_eqKeySS (x : Qz111) : Option Bool :=
  bif (((List.length x.1 : Nat) : Int) != ((List.length x.2 : Nat) : Int)) then some false else L_laws_eqKeySS_4 (fun x2 => some x2) (fun x3 => some true) (x.1, x.2, (0 : Int))
noncomputable def f253Q : List QF := [q282]
def f253e4_0 (t : Qz110) : St := ⟨v_s_Key t.1 :: v_s_Key t.2.1 :: dd 3 (vI t.2.2 :: dd 21 []), []⟩
noncomputable def f253g4 : Gk T_laws_eqKeySS_4 := fun κ => S_laws_eqKeySS_4 (fun t => κ none ⟨dd 4 (vB t :: dd 22 []), []⟩) (fun t => κ (some 0) ⟨dd 27 [], []⟩)
noncomputable def f253P : Lp := lpC 4 (unG qz110 f253e4_0) @f253g4 lpN
theorem f253C4 : LF f253Q f253P 253 4 Tryz.f253 0 f253e4_0 @f253g4 fun t => t := fun R κ again t => by kernel_rfl
theorem f253k4 : LK f253Q f253P 253 Tryz.f253 0 := loop_okG (u := (unG qz110 f253e4_0)) (by kernel_rfl) (unG_ok fun t => by kernel_rfl) (fun R κ s => by kernel_rfl) f253C4
theorem ev253 : EV f253Q f253P 253 Tryz.f253 sg253 qz111 [.bool] F_laws_eqKeySS := fun x => by kernel_rfl
noncomputable def q253 : QF := ⟨253, F_laws_eqKeySS, okN (n := 1) Tryz.func253 (by kernel_rfl) (by kernel_rfl) ⟨f253k4, trivial⟩ ev253⟩
noncomputable def F_laws_eqNode (x : Qz111) : Option Bool :=
  Option.bind (F_laws_eqKeySS (x.1, x.2)) fun r1 => bif (!r1) then some false else some true
theorem ev216 : EV [q253] lpN 216 Tryz.f216 sg216 qz111 [.bool] F_laws_eqNode := fun x => by kernel_rfl
noncomputable def q216 : QF := ⟨216, F_laws_eqNode, okN (n := 0) Tryz.func216 (by kernel_rfl) (by kernel_rfl) trivial ev216⟩
abbrev T_laws_eqNodeS_4 : Type := Qz112
noncomputable def S_laws_eqNodeS_4 {R : Type} (k0 : Bool → Option R) (k1 : Unit → Option R) (again : T_laws_eqNodeS_4 → Option R) (t4 : T_laws_eqNodeS_4) : Option R :=
  bif (decide (t4.2.2 < ((List.length t4.1 : Nat) : Int))) then if (0 : Int) ≤ t4.2.2 then if t4.2.2 < ((List.length t4.1 : Nat) : Int) then if (0 : Int) ≤ t4.2.2 then if t4.2.2 < ((List.length t4.2.1 : Nat) : Int) then Option.bind (F_laws_eqNode ((rd_Node t4.1 t4.2.2), (rd_Node t4.2.1 t4.2.2))) fun r1 => bif (!r1) then k0 false else again (t4.1, t4.2.1, (Go.IntKind.wrap .i64 (t4.2.2 + (1 : Int)))) else none else none else none else none else k1 ()
noncomputable def L_laws_eqNodeS_4 {R : Type} (k0 : Bool → Option R) (k1 : Unit → Option R) (t : T_laws_eqNodeS_4) : Option R := iter (S_laws_eqNodeS_4 k0 k1) FUEL t
noncomputable def F_laws_eqNodeS (x : Qz113) : Option Bool :=
  bif (((List.length x.1 : Nat) : Int) != ((List.length x.2 : Nat) : Int)) then some false else L_laws_eqNodeS_4 (fun x2 => some x2) (fun x3 => some true) (x.1, x.2, (0 : Int))
noncomputable def f140Q : List QF := [q216]
def f140e4_0 (t : Qz112) : St := ⟨v_Node t.1 :: v_Node t.2.1 :: dd 3 (vI t.2.2 :: dd 21 []), []⟩
noncomputable def f140g4 : Gk T_laws_eqNodeS_4 := fun κ => S_laws_eqNodeS_4 (fun t => κ none ⟨dd 4 (vB t :: dd 22 []), []⟩) (fun t => κ (some 0) ⟨dd 27 [], []⟩)
noncomputable def f140P : Lp := lpC 4 (unG qz112 f140e4_0) @f140g4 lpN
theorem f140C4 : LF f140Q f140P 140 4 Tryz.f140 0 f140e4_0 @f140g4 fun t => t := fun R κ again t => by kernel_rfl
theorem f140k4 : LK f140Q f140P 140 Tryz.f140 0 := loop_okG (u := (unG qz112 f140e4_0)) (by kernel_rfl) (unG_ok fun t => by kernel_rfl) (fun R κ s => by kernel_rfl) f140C4
theorem ev140 : EV f140Q f140P 140 Tryz.f140 sg140 qz113 [.bool] F_laws_eqNodeS := fun x => by kernel_rfl
noncomputable def q140 : QF := ⟨140, F_laws_eqNodeS, okN (n := 1) Tryz.func140 (by kernel_rfl) (by kernel_rfl) ⟨f140k4, trivial⟩ ev140⟩
noncomputable def F_laws_eqTree (x : Qz114) : Option Bool :=
  Option.bind (F_laws_eqIntS (x.1, x.2.2.1)) fun r1 => bif (!r1) then some false else Option.bind (F_laws_eqNodeS (x.2.1, x.2.2.2)) fun r2 => bif (!r2) then some false else some true
theorem ev61 : EV [q139, q140] lpN 61 Tryz.f61 sg61 qz114 [.bool] F_laws_eqTree := fun x => by kernel_rfl
noncomputable def q61 : QF := ⟨61, F_laws_eqTree, okN (n := 0) Tryz.func61 (by kernel_rfl) (by kernel_rfl) trivial ev61⟩
noncomputable def F_laws_eqAge (x : Qz115) : Option Bool :=
  bif (x.1 != x.2.2.1) then some false else bif (x.2.1 != x.2.2.2) then some false else some true
theorem ev141 : EV [] lpN 141 Tryz.f141 sg141 qz115 [.bool] F_laws_eqAge := fun x => by kernel_rfl
noncomputable def q141 : QF := ⟨141, F_laws_eqAge, okN (n := 0) Tryz.func141 (by kernel_rfl) (by kernel_rfl) trivial ev141⟩
abbrev T_laws_eqAgeS_4 : Type := Qz116
noncomputable def S_laws_eqAgeS_4 {R : Type} (k0 : Bool → Option R) (k1 : Unit → Option R) (again : T_laws_eqAgeS_4 → Option R) (t4 : T_laws_eqAgeS_4) : Option R :=
  bif (decide (t4.2.2 < ((List.length t4.1 : Nat) : Int))) then if (0 : Int) ≤ t4.2.2 then if t4.2.2 < ((List.length t4.1 : Nat) : Int) then if (0 : Int) ≤ t4.2.2 then if t4.2.2 < ((List.length t4.2.1 : Nat) : Int) then Option.bind (F_laws_eqAge ((rd_Age t4.1 t4.2.2).1, (rd_Age t4.1 t4.2.2).2, (rd_Age t4.2.1 t4.2.2).1, (rd_Age t4.2.1 t4.2.2).2)) fun r1 => bif (!r1) then k0 false else again (t4.1, t4.2.1, (Go.IntKind.wrap .i64 (t4.2.2 + (1 : Int)))) else none else none else none else none else k1 ()
noncomputable def L_laws_eqAgeS_4 {R : Type} (k0 : Bool → Option R) (k1 : Unit → Option R) (t : T_laws_eqAgeS_4) : Option R := iter (S_laws_eqAgeS_4 k0 k1) FUEL t
noncomputable def F_laws_eqAgeS (x : Qz117) : Option Bool :=
  bif (((List.length x.1 : Nat) : Int) != ((List.length x.2 : Nat) : Int)) then some false else L_laws_eqAgeS_4 (fun x2 => some x2) (fun x3 => some true) (x.1, x.2, (0 : Int))
noncomputable def f62Q : List QF := [q141]
def f62e4_0 (t : Qz116) : St := ⟨v_Age t.1 :: v_Age t.2.1 :: dd 3 (vI t.2.2 :: dd 21 []), []⟩
noncomputable def f62g4 : Gk T_laws_eqAgeS_4 := fun κ => S_laws_eqAgeS_4 (fun t => κ none ⟨dd 4 (vB t :: dd 22 []), []⟩) (fun t => κ (some 0) ⟨dd 27 [], []⟩)
noncomputable def f62P : Lp := lpC 4 (unG qz116 f62e4_0) @f62g4 lpN
theorem f62C4 : LF f62Q f62P 62 4 Tryz.f62 0 f62e4_0 @f62g4 fun t => t := fun R κ again t => by kernel_rfl
theorem f62k4 : LK f62Q f62P 62 Tryz.f62 0 := loop_okG (u := (unG qz116 f62e4_0)) (by kernel_rfl) (unG_ok fun t => by kernel_rfl) (fun R κ s => by kernel_rfl) f62C4
theorem ev62 : EV f62Q f62P 62 Tryz.f62 sg62 qz117 [.bool] F_laws_eqAgeS := fun x => by kernel_rfl
noncomputable def q62 : QF := ⟨62, F_laws_eqAgeS, okN (n := 1) Tryz.func62 (by kernel_rfl) (by kernel_rfl) ⟨f62k4, trivial⟩ ev62⟩
noncomputable def F_laws_eqCell (x : Qz118) : Option Bool :=
  bif (x.1 != x.2.2.2.1) then some false else bif (!(x.2.1 == x.2.2.2.2.1)) then some false else bif (x.2.2.1 != x.2.2.2.2.2) then some false else some true
theorem ev142 : EV [] lpN 142 Tryz.f142 sg142 qz118 [.bool] F_laws_eqCell := fun x => by kernel_rfl
noncomputable def q142 : QF := ⟨142, F_laws_eqCell, okN (n := 0) Tryz.func142 (by kernel_rfl) (by kernel_rfl) trivial ev142⟩
abbrev T_laws_eqCellS_4 : Type := Qz119
noncomputable def S_laws_eqCellS_4 {R : Type} (k0 : Bool → Option R) (k1 : Unit → Option R) (again : T_laws_eqCellS_4 → Option R) (t4 : T_laws_eqCellS_4) : Option R :=
  bif (decide (t4.2.2 < ((List.length t4.1 : Nat) : Int))) then if (0 : Int) ≤ t4.2.2 then if t4.2.2 < ((List.length t4.1 : Nat) : Int) then if (0 : Int) ≤ t4.2.2 then if t4.2.2 < ((List.length t4.2.1 : Nat) : Int) then Option.bind (F_laws_eqCell ((rd_Cell t4.1 t4.2.2).1, (rd_Cell t4.1 t4.2.2).2.1, (rd_Cell t4.1 t4.2.2).2.2, (rd_Cell t4.2.1 t4.2.2).1, (rd_Cell t4.2.1 t4.2.2).2.1, (rd_Cell t4.2.1 t4.2.2).2.2)) fun r1 => bif (!r1) then k0 false else again (t4.1, t4.2.1, (Go.IntKind.wrap .i64 (t4.2.2 + (1 : Int)))) else none else none else none else none else k1 ()
noncomputable def L_laws_eqCellS_4 {R : Type} (k0 : Bool → Option R) (k1 : Unit → Option R) (t : T_laws_eqCellS_4) : Option R := iter (S_laws_eqCellS_4 k0 k1) FUEL t
noncomputable def F_laws_eqCellS (x : Qz120) : Option Bool :=
  bif (((List.length x.1 : Nat) : Int) != ((List.length x.2 : Nat) : Int)) then some false else L_laws_eqCellS_4 (fun x2 => some x2) (fun x3 => some true) (x.1, x.2, (0 : Int))
noncomputable def f63Q : List QF := [q142]
def f63e4_0 (t : Qz119) : St := ⟨v_Cell t.1 :: v_Cell t.2.1 :: dd 3 (vI t.2.2 :: dd 21 []), []⟩
noncomputable def f63g4 : Gk T_laws_eqCellS_4 := fun κ => S_laws_eqCellS_4 (fun t => κ none ⟨dd 4 (vB t :: dd 22 []), []⟩) (fun t => κ (some 0) ⟨dd 27 [], []⟩)
noncomputable def f63P : Lp := lpC 4 (unG qz119 f63e4_0) @f63g4 lpN
theorem f63C4 : LF f63Q f63P 63 4 Tryz.f63 0 f63e4_0 @f63g4 fun t => t := fun R κ again t => by kernel_rfl
theorem f63k4 : LK f63Q f63P 63 Tryz.f63 0 := loop_okG (u := (unG qz119 f63e4_0)) (by kernel_rfl) (unG_ok fun t => by kernel_rfl) (fun R κ s => by kernel_rfl) f63C4
theorem ev63 : EV f63Q f63P 63 Tryz.f63 sg63 qz120 [.bool] F_laws_eqCellS := fun x => by kernel_rfl
noncomputable def q63 : QF := ⟨63, F_laws_eqCellS, okN (n := 1) Tryz.func63 (by kernel_rfl) (by kernel_rfl) ⟨f63k4, trivial⟩ ev63⟩
noncomputable def F_laws_eqVol (x : Qz88) : Option Bool :=
  bif (!((ByteArray.toList x.1) == (ByteArray.toList x.2.2.2.2.1))) then some false else bif (x.2.1 != x.2.2.2.2.2.1) then some false else bif (x.2.2.1 != x.2.2.2.2.2.2.1) then some false else bif (!(x.2.2.2.1 == x.2.2.2.2.2.2.2)) then some false else some true
theorem ev143 : EV [] lpN 143 Tryz.f143 sg143 qz88 [.bool] F_laws_eqVol := fun x => by kernel_rfl
noncomputable def q143 : QF := ⟨143, F_laws_eqVol, okN (n := 0) Tryz.func143 (by kernel_rfl) (by kernel_rfl) trivial ev143⟩
abbrev T_laws_eqVolS_4 : Type := Qz121
noncomputable def S_laws_eqVolS_4 {R : Type} (k0 : Bool → Option R) (k1 : Unit → Option R) (again : T_laws_eqVolS_4 → Option R) (t4 : T_laws_eqVolS_4) : Option R :=
  bif (decide (t4.2.2 < ((List.length t4.1 : Nat) : Int))) then if (0 : Int) ≤ t4.2.2 then if t4.2.2 < ((List.length t4.1 : Nat) : Int) then if (0 : Int) ≤ t4.2.2 then if t4.2.2 < ((List.length t4.2.1 : Nat) : Int) then Option.bind (F_laws_eqVol ((rd_Vol t4.1 t4.2.2).1, (rd_Vol t4.1 t4.2.2).2.1, (rd_Vol t4.1 t4.2.2).2.2.1, (rd_Vol t4.1 t4.2.2).2.2.2, (rd_Vol t4.2.1 t4.2.2).1, (rd_Vol t4.2.1 t4.2.2).2.1, (rd_Vol t4.2.1 t4.2.2).2.2.1, (rd_Vol t4.2.1 t4.2.2).2.2.2)) fun r1 => bif (!r1) then k0 false else again (t4.1, t4.2.1, (Go.IntKind.wrap .i64 (t4.2.2 + (1 : Int)))) else none else none else none else none else k1 ()
noncomputable def L_laws_eqVolS_4 {R : Type} (k0 : Bool → Option R) (k1 : Unit → Option R) (t : T_laws_eqVolS_4) : Option R := iter (S_laws_eqVolS_4 k0 k1) FUEL t
noncomputable def F_laws_eqVolS (x : Qz122) : Option Bool :=
  bif (((List.length x.1 : Nat) : Int) != ((List.length x.2 : Nat) : Int)) then some false else L_laws_eqVolS_4 (fun x2 => some x2) (fun x3 => some true) (x.1, x.2, (0 : Int))
noncomputable def f64Q : List QF := [q143]
def f64e4_0 (t : Qz121) : St := ⟨v_Vol t.1 :: v_Vol t.2.1 :: dd 3 (vI t.2.2 :: dd 21 []), []⟩
noncomputable def f64g4 : Gk T_laws_eqVolS_4 := fun κ => S_laws_eqVolS_4 (fun t => κ none ⟨dd 4 (vB t :: dd 22 []), []⟩) (fun t => κ (some 0) ⟨dd 27 [], []⟩)
noncomputable def f64P : Lp := lpC 4 (unG qz121 f64e4_0) @f64g4 lpN
theorem f64C4 : LF f64Q f64P 64 4 Tryz.f64 0 f64e4_0 @f64g4 fun t => t := fun R κ again t => by kernel_rfl
theorem f64k4 : LK f64Q f64P 64 Tryz.f64 0 := loop_okG (u := (unG qz121 f64e4_0)) (by kernel_rfl) (unG_ok fun t => by kernel_rfl) (fun R κ s => by kernel_rfl) f64C4
theorem ev64 : EV f64Q f64P 64 Tryz.f64 sg64 qz122 [.bool] F_laws_eqVolS := fun x => by kernel_rfl
noncomputable def q64 : QF := ⟨64, F_laws_eqVolS, okN (n := 1) Tryz.func64 (by kernel_rfl) (by kernel_rfl) ⟨f64k4, trivial⟩ ev64⟩
noncomputable def F_laws_eqPool (x : Qz123) : Option Bool :=
  Option.bind (F_laws_eqTree (x.1, x.2.1, x.2.2.2.2.2.2.1, x.2.2.2.2.2.2.2.1)) fun r1 => bif (!r1) then some false else Option.bind (F_laws_eqAgeS (x.2.2.1, x.2.2.2.2.2.2.2.2.1)) fun r2 => bif (!r2) then some false else Option.bind (F_laws_eqCellS (x.2.2.2.1, x.2.2.2.2.2.2.2.2.2.1)) fun r3 => bif (!r3) then some false else Option.bind (F_laws_eqVolS (x.2.2.2.2.1, x.2.2.2.2.2.2.2.2.2.2.1)) fun r4 => bif (!r4) then some false else bif (x.2.2.2.2.2.1 != x.2.2.2.2.2.2.2.2.2.2.2) then some false else some true
theorem ev15 : EV [q61, q62, q63, q64] lpN 15 Tryz.f15 sg15 qz123 [.bool] F_laws_eqPool := fun x => by kernel_rfl
noncomputable def q15 : QF := ⟨15, F_laws_eqPool, okN (n := 0) Tryz.func15 (by kernel_rfl) (by kernel_rfl) trivial ev15⟩
abbrev T_laws_markIntS_2 : Type := Qz124
noncomputable def S_laws_markIntS_2 {R : Type} (k0 : Qz125 → Option R) (again : T_laws_markIntS_2 → Option R) (t2 : T_laws_markIntS_2) : Option R :=
  bif (decide (t2.2.1 < ((List.length t2.2.2 : Nat) : Int))) then if (0 : Int) ≤ t2.2.1 then if t2.2.1 < ((List.length t2.2.2 : Nat) : Int) then again ((Go.IntKind.wrap .i64 (t2.1 + (1 : Int))), (Go.IntKind.wrap .i64 (t2.2.1 + (1 : Int))), (List.set t2.2.2 (Int.toNat t2.2.1) t2.1)) else none else none else k0 (t2.1, t2.2.2)
noncomputable def L_laws_markIntS_2 {R : Type} (k0 : Qz125 → Option R) (t : T_laws_markIntS_2) : Option R := iter (S_laws_markIntS_2 k0) FUEL t
noncomputable def F_laws_markIntS (x : Qz0) : Option Qz125 :=
  L_laws_markIntS_2 (fun x1 => some (x1.1, x1.2)) (x.2, (0 : Int), x.1)
noncomputable def f144Q : List QF := []
def f144e2_0 (t : Qz124) : St := ⟨.own 10000000 :: vI t.1 :: dd 3 (vI t.2.1 :: dd 13 []), [(10000000, .deep true 1 3 ts_i64 t.2.2)]⟩
noncomputable def f144g2 : Gk T_laws_markIntS_2 := fun κ => S_laws_markIntS_2 (fun t => κ (some 0) ⟨.own 10000000 :: vI t.1 :: dd 17 [], [(10000000, .deep true 1 3 ts_i64 t.2)]⟩)
noncomputable def f144P : Lp := lpC 2 (unG qz124 f144e2_0) @f144g2 lpN
theorem f144C2 : LF f144Q f144P 144 2 Tryz.f144 0 f144e2_0 @f144g2 fun t => t := fun R κ again t => by kernel_rfl
theorem f144k2 : LK f144Q f144P 144 Tryz.f144 0 := loop_okG (u := (unG qz124 f144e2_0)) (by kernel_rfl) (unG_ok fun t => by kernel_rfl) (fun R κ s => by kernel_rfl) f144C2
theorem ev144 : EV f144Q f144P 144 Tryz.f144 sg144 qz0 qz125 F_laws_markIntS := fun x => by kernel_rfl
noncomputable def q144 : QF := ⟨144, F_laws_markIntS, okN (n := 1) Tryz.func144 (by kernel_rfl) (by kernel_rfl) ⟨f144k2, trivial⟩ ev144⟩
abbrev T_laws_markKeyS_2 : Type := Qz126
noncomputable def S_laws_markKeyS_2 {R : Type} (k0 : Qz127 → Option R) (again : T_laws_markKeyS_2 → Option R) (t2 : T_laws_markKeyS_2) : Option R :=
  bif (decide (t2.2.1 < ((List.length t2.2.2 : Nat) : Int))) then if (0 : Int) ≤ t2.2.1 then if t2.2.1 < ((List.length t2.2.2 : Nat) : Int) then if (0 : Int) ≤ t2.2.1 then if t2.2.1 < ((List.length (List.set t2.2.2 (Int.toNat t2.2.1) (t2.1, (rd_Key t2.2.2 t2.2.1).2)) : Nat) : Int) then if (0 : Int) ≤ t2.2.1 then if t2.2.1 < ((List.length (List.set (List.set t2.2.2 (Int.toNat t2.2.1) (t2.1, (rd_Key t2.2.2 t2.2.1).2)) (Int.toNat t2.2.1) ((rd_Key (List.set t2.2.2 (Int.toNat t2.2.1) (t2.1, (rd_Key t2.2.2 t2.2.1).2)) t2.2.1).1, (Go.IntKind.wrap .i64 (t2.1 + (1 : Int))), (rd_Key (List.set t2.2.2 (Int.toNat t2.2.1) (t2.1, (rd_Key t2.2.2 t2.2.1).2)) t2.2.1).2.2)) : Nat) : Int) then let l1 : List E_Key := (List.set (List.set (List.set t2.2.2 (Int.toNat t2.2.1) (t2.1, (rd_Key t2.2.2 t2.2.1).2)) (Int.toNat t2.2.1) ((rd_Key (List.set t2.2.2 (Int.toNat t2.2.1) (t2.1, (rd_Key t2.2.2 t2.2.1).2)) t2.2.1).1, (Go.IntKind.wrap .i64 (t2.1 + (1 : Int))), (rd_Key (List.set t2.2.2 (Int.toNat t2.2.1) (t2.1, (rd_Key t2.2.2 t2.2.1).2)) t2.2.1).2.2)) (Int.toNat t2.2.1) ((rd_Key (List.set (List.set t2.2.2 (Int.toNat t2.2.1) (t2.1, (rd_Key t2.2.2 t2.2.1).2)) (Int.toNat t2.2.1) ((rd_Key (List.set t2.2.2 (Int.toNat t2.2.1) (t2.1, (rd_Key t2.2.2 t2.2.1).2)) t2.2.1).1, (Go.IntKind.wrap .i64 (t2.1 + (1 : Int))), (rd_Key (List.set t2.2.2 (Int.toNat t2.2.1) (t2.1, (rd_Key t2.2.2 t2.2.1).2)) t2.2.1).2.2)) t2.2.1).1, (rd_Key (List.set (List.set t2.2.2 (Int.toNat t2.2.1) (t2.1, (rd_Key t2.2.2 t2.2.1).2)) (Int.toNat t2.2.1) ((rd_Key (List.set t2.2.2 (Int.toNat t2.2.1) (t2.1, (rd_Key t2.2.2 t2.2.1).2)) t2.2.1).1, (Go.IntKind.wrap .i64 (t2.1 + (1 : Int))), (rd_Key (List.set t2.2.2 (Int.toNat t2.2.1) (t2.1, (rd_Key t2.2.2 t2.2.1).2)) t2.2.1).2.2)) t2.2.1).2.1, (Go.IntKind.wrap .i64 ((Go.IntKind.wrap .i64 (t2.1 + (1 : Int))) + (1 : Int))), (rd_Key (List.set (List.set t2.2.2 (Int.toNat t2.2.1) (t2.1, (rd_Key t2.2.2 t2.2.1).2)) (Int.toNat t2.2.1) ((rd_Key (List.set t2.2.2 (Int.toNat t2.2.1) (t2.1, (rd_Key t2.2.2 t2.2.1).2)) t2.2.1).1, (Go.IntKind.wrap .i64 (t2.1 + (1 : Int))), (rd_Key (List.set t2.2.2 (Int.toNat t2.2.1) (t2.1, (rd_Key t2.2.2 t2.2.1).2)) t2.2.1).2.2)) t2.2.1).2.2.2)); if (0 : Int) ≤ t2.2.1 then if t2.2.1 < ((List.length l1 : Nat) : Int) then if (0 : Int) ≤ t2.2.1 then if t2.2.1 < ((List.length (List.set l1 (Int.toNat t2.2.1) ((rd_Key l1 t2.2.1).1, (rd_Key l1 t2.2.1).2.1, (rd_Key l1 t2.2.1).2.2.1, (Go.IntKind.wrap .i64 ((Go.IntKind.wrap .i64 ((Go.IntKind.wrap .i64 (t2.1 + (1 : Int))) + (1 : Int))) + (1 : Int))), (rd_Key l1 t2.2.1).2.2.2.2)) : Nat) : Int) then let l2 : List E_Key := (List.set (List.set l1 (Int.toNat t2.2.1) ((rd_Key l1 t2.2.1).1, (rd_Key l1 t2.2.1).2.1, (rd_Key l1 t2.2.1).2.2.1, (Go.IntKind.wrap .i64 ((Go.IntKind.wrap .i64 ((Go.IntKind.wrap .i64 (t2.1 + (1 : Int))) + (1 : Int))) + (1 : Int))), (rd_Key l1 t2.2.1).2.2.2.2)) (Int.toNat t2.2.1) ((rd_Key (List.set l1 (Int.toNat t2.2.1) ((rd_Key l1 t2.2.1).1, (rd_Key l1 t2.2.1).2.1, (rd_Key l1 t2.2.1).2.2.1, (Go.IntKind.wrap .i64 ((Go.IntKind.wrap .i64 ((Go.IntKind.wrap .i64 (t2.1 + (1 : Int))) + (1 : Int))) + (1 : Int))), (rd_Key l1 t2.2.1).2.2.2.2)) t2.2.1).1, (rd_Key (List.set l1 (Int.toNat t2.2.1) ((rd_Key l1 t2.2.1).1, (rd_Key l1 t2.2.1).2.1, (rd_Key l1 t2.2.1).2.2.1, (Go.IntKind.wrap .i64 ((Go.IntKind.wrap .i64 ((Go.IntKind.wrap .i64 (t2.1 + (1 : Int))) + (1 : Int))) + (1 : Int))), (rd_Key l1 t2.2.1).2.2.2.2)) t2.2.1).2.1, (rd_Key (List.set l1 (Int.toNat t2.2.1) ((rd_Key l1 t2.2.1).1, (rd_Key l1 t2.2.1).2.1, (rd_Key l1 t2.2.1).2.2.1, (Go.IntKind.wrap .i64 ((Go.IntKind.wrap .i64 ((Go.IntKind.wrap .i64 (t2.1 + (1 : Int))) + (1 : Int))) + (1 : Int))), (rd_Key l1 t2.2.1).2.2.2.2)) t2.2.1).2.2.1, (rd_Key (List.set l1 (Int.toNat t2.2.1) ((rd_Key l1 t2.2.1).1, (rd_Key l1 t2.2.1).2.1, (rd_Key l1 t2.2.1).2.2.1, (Go.IntKind.wrap .i64 ((Go.IntKind.wrap .i64 ((Go.IntKind.wrap .i64 (t2.1 + (1 : Int))) + (1 : Int))) + (1 : Int))), (rd_Key l1 t2.2.1).2.2.2.2)) t2.2.1).2.2.2.1, (Go.IntKind.wrap .i64 ((Go.IntKind.wrap .i64 ((Go.IntKind.wrap .i64 ((Go.IntKind.wrap .i64 (t2.1 + (1 : Int))) + (1 : Int))) + (1 : Int))) + (1 : Int))))); again ((Go.IntKind.wrap .i64 ((Go.IntKind.wrap .i64 ((Go.IntKind.wrap .i64 ((Go.IntKind.wrap .i64 ((Go.IntKind.wrap .i64 (t2.1 + (1 : Int))) + (1 : Int))) + (1 : Int))) + (1 : Int))) + (1 : Int))), (Go.IntKind.wrap .i64 (t2.2.1 + (1 : Int))), l2) else none else none else none else none else none else none else none else none else none else none else k0 (t2.1, t2.2.2)
noncomputable def L_laws_markKeyS_2 {R : Type} (k0 : Qz127 → Option R) (t : T_laws_markKeyS_2) : Option R := iter (S_laws_markKeyS_2 k0) FUEL t
noncomputable def F_laws_markKeyS (x : Qz25) : Option Qz127 :=
  L_laws_markKeyS_2 (fun x3 => some (x3.1, x3.2)) (x.2, (0 : Int), x.1)
noncomputable def f254Q : List QF := []
def f254e2_0 (t : Qz126) : St := ⟨.own 10000000 :: vI t.1 :: dd 3 (vI t.2.1 :: dd 42 []), [(10000000, .deep true 1 106 ts_Key t.2.2)]⟩
noncomputable def f254g2 : Gk T_laws_markKeyS_2 := fun κ => S_laws_markKeyS_2 (fun t => κ (some 0) ⟨.own 10000000 :: vI t.1 :: dd 46 [], [(10000000, .deep true 1 106 ts_Key t.2)]⟩)
noncomputable def f254P : Lp := lpC 2 (unG qz126 f254e2_0) @f254g2 lpN
theorem f254C2 : LF f254Q f254P 254 2 Tryz.f254 0 f254e2_0 @f254g2 fun t => t := fun R κ again t => by kernel_rfl
theorem f254k2 : LK f254Q f254P 254 Tryz.f254 0 := loop_okG (u := (unG qz126 f254e2_0)) (by kernel_rfl) (unG_ok fun t => by kernel_rfl) (fun R κ s => by kernel_rfl) f254C2
theorem ev254 : EV f254Q f254P 254 Tryz.f254 sg254 qz25 qz127 F_laws_markKeyS := fun x => by kernel_rfl
noncomputable def q254 : QF := ⟨254, F_laws_markKeyS, okN (n := 1) Tryz.func254 (by kernel_rfl) (by kernel_rfl) ⟨f254k2, trivial⟩ ev254⟩
abbrev T_laws_markKeySS_2 : Type := Qz27
noncomputable def S_laws_markKeySS_2 {R : Type} (k0 : Qz28 → Option R) (again : T_laws_markKeySS_2 → Option R) (t2 : T_laws_markKeySS_2) : Option R :=
  bif (decide (t2.2.1 < ((List.length t2.2.2 : Nat) : Int))) then if (0 : Int) ≤ t2.2.1 then if t2.2.1 < ((List.length t2.2.2 : Nat) : Int) then Option.bind (F_laws_markKeyS ((rd_s_Key t2.2.2 t2.2.1), t2.1)) fun r1 => again (r1.1, (Go.IntKind.wrap .i64 (t2.2.1 + (1 : Int))), (List.set t2.2.2 (Int.toNat t2.2.1) r1.2)) else none else none else k0 (t2.1, t2.2.2)
noncomputable def L_laws_markKeySS_2 {R : Type} (k0 : Qz28 → Option R) (t : T_laws_markKeySS_2) : Option R := iter (S_laws_markKeySS_2 k0) FUEL t
noncomputable def F_laws_markKeySS (x : Qz128) : Option Qz28 :=
  L_laws_markKeySS_2 (fun x2 => some (x2.1, x2.2)) (x.2, (0 : Int), x.1)
noncomputable def f217Q : List QF := [q254]
def f217e2_0 (t : Qz27) : St := ⟨.own 10000000 :: vI t.1 :: dd 3 (vI t.2.1 :: dd 13 []), [(10000000, .deep true 1 100 ts_s_Key t.2.2)]⟩
noncomputable def f217g2 : Gk T_laws_markKeySS_2 := fun κ => S_laws_markKeySS_2 (fun t => κ (some 0) ⟨.own 10000000 :: vI t.1 :: dd 17 [], [(10000000, .deep true 1 100 ts_s_Key t.2)]⟩)
noncomputable def f217P : Lp := lpC 2 (unG qz27 f217e2_0) @f217g2 lpN
theorem f217C2 : LF f217Q f217P 217 2 Tryz.f217 0 f217e2_0 @f217g2 fun t => t := fun R κ again t => by kernel_rfl
theorem f217k2 : LK f217Q f217P 217 Tryz.f217 0 := loop_okG (u := (unG qz27 f217e2_0)) (by kernel_rfl) (unG_ok fun t => by kernel_rfl) (fun R κ s => by kernel_rfl) f217C2
theorem ev217 : EV f217Q f217P 217 Tryz.f217 sg217 qz128 qz28 F_laws_markKeySS := fun x => by kernel_rfl
noncomputable def q217 : QF := ⟨217, F_laws_markKeySS, okN (n := 1) Tryz.func217 (by kernel_rfl) (by kernel_rfl) ⟨f217k2, trivial⟩ ev217⟩
abbrev T_laws_markNodeS_2 : Type := Qz129
noncomputable def S_laws_markNodeS_2 {R : Type} (k0 : Qz130 → Option R) (again : T_laws_markNodeS_2 → Option R) (t2 : T_laws_markNodeS_2) : Option R :=
  bif (decide (t2.2.1 < ((List.length t2.2.2 : Nat) : Int))) then if (0 : Int) ≤ t2.2.1 then if t2.2.1 < ((List.length t2.2.2 : Nat) : Int) then Option.bind (F_laws_markKeySS ((rd_Node t2.2.2 t2.2.1), t2.1)) fun r1 => again (r1.1, (Go.IntKind.wrap .i64 (t2.2.1 + (1 : Int))), (List.set t2.2.2 (Int.toNat t2.2.1) r1.2)) else none else none else k0 (t2.1, t2.2.2)
noncomputable def L_laws_markNodeS_2 {R : Type} (k0 : Qz130 → Option R) (t : T_laws_markNodeS_2) : Option R := iter (S_laws_markNodeS_2 k0) FUEL t
noncomputable def F_laws_markNodeS (x : Qz131) : Option Qz130 :=
  L_laws_markNodeS_2 (fun x2 => some (x2.1, x2.2)) (x.2, (0 : Int), x.1)
noncomputable def f145Q : List QF := [q217]
def f145e2_0 (t : Qz129) : St := ⟨.own 10000000 :: vI t.1 :: dd 3 (vI t.2.1 :: dd 14 []), [(10000000, .deep true 1 98 ts_Node t.2.2)]⟩
noncomputable def f145g2 : Gk T_laws_markNodeS_2 := fun κ => S_laws_markNodeS_2 (fun t => κ (some 0) ⟨.own 10000000 :: vI t.1 :: dd 18 [], [(10000000, .deep true 1 98 ts_Node t.2)]⟩)
noncomputable def f145P : Lp := lpC 2 (unG qz129 f145e2_0) @f145g2 lpN
theorem f145C2 : LF f145Q f145P 145 2 Tryz.f145 0 f145e2_0 @f145g2 fun t => t := fun R κ again t => by kernel_rfl
theorem f145k2 : LK f145Q f145P 145 Tryz.f145 0 := loop_okG (u := (unG qz129 f145e2_0)) (by kernel_rfl) (unG_ok fun t => by kernel_rfl) (fun R κ s => by kernel_rfl) f145C2
theorem ev145 : EV f145Q f145P 145 Tryz.f145 sg145 qz131 qz130 F_laws_markNodeS := fun x => by kernel_rfl
noncomputable def q145 : QF := ⟨145, F_laws_markNodeS, okN (n := 1) Tryz.func145 (by kernel_rfl) (by kernel_rfl) ⟨f145k2, trivial⟩ ev145⟩
noncomputable def F_laws_markTree (x : Qz33) : Option Qz34 :=
  Option.bind (F_laws_markIntS (x.1, x.2.2)) fun r1 => Option.bind (F_laws_markNodeS (x.2.1, r1.1)) fun r2 => some (r2.1, r1.2, r2.2)
theorem ev65 : EV [q144, q145] lpN 65 Tryz.f65 sg65 qz33 qz34 F_laws_markTree := fun x => by kernel_rfl
noncomputable def q65 : QF := ⟨65, F_laws_markTree, okN (n := 0) Tryz.func65 (by kernel_rfl) (by kernel_rfl) trivial ev65⟩
abbrev T_laws_markAgeS_2 : Type := Qz132
noncomputable def S_laws_markAgeS_2 {R : Type} (k0 : Qz133 → Option R) (again : T_laws_markAgeS_2 → Option R) (t2 : T_laws_markAgeS_2) : Option R :=
  bif (decide (t2.2.1 < ((List.length t2.2.2 : Nat) : Int))) then if (0 : Int) ≤ t2.2.1 then if t2.2.1 < ((List.length t2.2.2 : Nat) : Int) then if (0 : Int) ≤ t2.2.1 then if t2.2.1 < ((List.length (List.set t2.2.2 (Int.toNat t2.2.1) (t2.1, (rd_Age t2.2.2 t2.2.1).2)) : Nat) : Int) then again ((Go.IntKind.wrap .i64 ((Go.IntKind.wrap .i64 (t2.1 + (1 : Int))) + (1 : Int))), (Go.IntKind.wrap .i64 (t2.2.1 + (1 : Int))), (List.set (List.set t2.2.2 (Int.toNat t2.2.1) (t2.1, (rd_Age t2.2.2 t2.2.1).2)) (Int.toNat t2.2.1) ((rd_Age (List.set t2.2.2 (Int.toNat t2.2.1) (t2.1, (rd_Age t2.2.2 t2.2.1).2)) t2.2.1).1, (Go.IntKind.wrap .i64 (t2.1 + (1 : Int)))))) else none else none else none else none else k0 (t2.1, t2.2.2)
noncomputable def L_laws_markAgeS_2 {R : Type} (k0 : Qz133 → Option R) (t : T_laws_markAgeS_2) : Option R := iter (S_laws_markAgeS_2 k0) FUEL t
noncomputable def F_laws_markAgeS (x : Qz37) : Option Qz133 :=
  L_laws_markAgeS_2 (fun x1 => some (x1.1, x1.2)) (x.2, (0 : Int), x.1)
noncomputable def f66Q : List QF := []
def f66e2_0 (t : Qz132) : St := ⟨.own 10000000 :: vI t.1 :: dd 3 (vI t.2.1 :: dd 21 []), [(10000000, .deep true 1 89 ts_Age t.2.2)]⟩
noncomputable def f66g2 : Gk T_laws_markAgeS_2 := fun κ => S_laws_markAgeS_2 (fun t => κ (some 0) ⟨.own 10000000 :: vI t.1 :: dd 25 [], [(10000000, .deep true 1 89 ts_Age t.2)]⟩)
noncomputable def f66P : Lp := lpC 2 (unG qz132 f66e2_0) @f66g2 lpN
theorem f66C2 : LF f66Q f66P 66 2 Tryz.f66 0 f66e2_0 @f66g2 fun t => t := fun R κ again t => by kernel_rfl
theorem f66k2 : LK f66Q f66P 66 Tryz.f66 0 := loop_okG (u := (unG qz132 f66e2_0)) (by kernel_rfl) (unG_ok fun t => by kernel_rfl) (fun R κ s => by kernel_rfl) f66C2
theorem ev66 : EV f66Q f66P 66 Tryz.f66 sg66 qz37 qz133 F_laws_markAgeS := fun x => by kernel_rfl
noncomputable def q66 : QF := ⟨66, F_laws_markAgeS, okN (n := 1) Tryz.func66 (by kernel_rfl) (by kernel_rfl) ⟨f66k2, trivial⟩ ev66⟩
abbrev T_laws_markCellS_2 : Type := Qz134
noncomputable def S_laws_markCellS_2 {R : Type} (k0 : Qz135 → Option R) (again : T_laws_markCellS_2 → Option R) (t2 : T_laws_markCellS_2) : Option R :=
  bif (decide (t2.2.1 < ((List.length t2.2.2 : Nat) : Int))) then if (0 : Int) ≤ t2.2.1 then if t2.2.1 < ((List.length t2.2.2 : Nat) : Int) then if (0 : Int) ≤ t2.2.1 then if t2.2.1 < ((List.length (List.set t2.2.2 (Int.toNat t2.2.1) (t2.1, (rd_Cell t2.2.2 t2.2.1).2)) : Nat) : Int) then if (0 : Int) ≤ t2.2.1 then if t2.2.1 < ((List.length (List.set (List.set t2.2.2 (Int.toNat t2.2.1) (t2.1, (rd_Cell t2.2.2 t2.2.1).2)) (Int.toNat t2.2.1) ((rd_Cell (List.set t2.2.2 (Int.toNat t2.2.1) (t2.1, (rd_Cell t2.2.2 t2.2.1).2)) t2.2.1).1, ((Int.tmod (Go.IntKind.wrap .i64 (t2.1 + (1 : Int))) (3 : Int)) == (0 : Int)), (rd_Cell (List.set t2.2.2 (Int.toNat t2.2.1) (t2.1, (rd_Cell t2.2.2 t2.2.1).2)) t2.2.1).2.2)) : Nat) : Int) then let l1 : List E_Cell := (List.set (List.set (List.set t2.2.2 (Int.toNat t2.2.1) (t2.1, (rd_Cell t2.2.2 t2.2.1).2)) (Int.toNat t2.2.1) ((rd_Cell (List.set t2.2.2 (Int.toNat t2.2.1) (t2.1, (rd_Cell t2.2.2 t2.2.1).2)) t2.2.1).1, ((Int.tmod (Go.IntKind.wrap .i64 (t2.1 + (1 : Int))) (3 : Int)) == (0 : Int)), (rd_Cell (List.set t2.2.2 (Int.toNat t2.2.1) (t2.1, (rd_Cell t2.2.2 t2.2.1).2)) t2.2.1).2.2)) (Int.toNat t2.2.1) ((rd_Cell (List.set (List.set t2.2.2 (Int.toNat t2.2.1) (t2.1, (rd_Cell t2.2.2 t2.2.1).2)) (Int.toNat t2.2.1) ((rd_Cell (List.set t2.2.2 (Int.toNat t2.2.1) (t2.1, (rd_Cell t2.2.2 t2.2.1).2)) t2.2.1).1, ((Int.tmod (Go.IntKind.wrap .i64 (t2.1 + (1 : Int))) (3 : Int)) == (0 : Int)), (rd_Cell (List.set t2.2.2 (Int.toNat t2.2.1) (t2.1, (rd_Cell t2.2.2 t2.2.1).2)) t2.2.1).2.2)) t2.2.1).1, (rd_Cell (List.set (List.set t2.2.2 (Int.toNat t2.2.1) (t2.1, (rd_Cell t2.2.2 t2.2.1).2)) (Int.toNat t2.2.1) ((rd_Cell (List.set t2.2.2 (Int.toNat t2.2.1) (t2.1, (rd_Cell t2.2.2 t2.2.1).2)) t2.2.1).1, ((Int.tmod (Go.IntKind.wrap .i64 (t2.1 + (1 : Int))) (3 : Int)) == (0 : Int)), (rd_Cell (List.set t2.2.2 (Int.toNat t2.2.1) (t2.1, (rd_Cell t2.2.2 t2.2.1).2)) t2.2.1).2.2)) t2.2.1).2.1, (Go.IntKind.wrap .i64 ((Go.IntKind.wrap .i64 (t2.1 + (1 : Int))) + (1 : Int))))); again ((Go.IntKind.wrap .i64 ((Go.IntKind.wrap .i64 ((Go.IntKind.wrap .i64 (t2.1 + (1 : Int))) + (1 : Int))) + (1 : Int))), (Go.IntKind.wrap .i64 (t2.2.1 + (1 : Int))), l1) else none else none else none else none else none else none else k0 (t2.1, t2.2.2)
noncomputable def L_laws_markCellS_2 {R : Type} (k0 : Qz135 → Option R) (t : T_laws_markCellS_2) : Option R := iter (S_laws_markCellS_2 k0) FUEL t
noncomputable def F_laws_markCellS (x : Qz39) : Option Qz135 :=
  L_laws_markCellS_2 (fun x2 => some (x2.1, x2.2)) (x.2, (0 : Int), x.1)
noncomputable def f67Q : List QF := []
def f67e2_0 (t : Qz134) : St := ⟨.own 10000000 :: vI t.1 :: dd 3 (vI t.2.1 :: dd 30 []), [(10000000, .deep true 1 95 ts_Cell t.2.2)]⟩
noncomputable def f67g2 : Gk T_laws_markCellS_2 := fun κ => S_laws_markCellS_2 (fun t => κ (some 0) ⟨.own 10000000 :: vI t.1 :: dd 34 [], [(10000000, .deep true 1 95 ts_Cell t.2)]⟩)
noncomputable def f67P : Lp := lpC 2 (unG qz134 f67e2_0) @f67g2 lpN
theorem f67C2 : LF f67Q f67P 67 2 Tryz.f67 0 f67e2_0 @f67g2 fun t => t := fun R κ again t => by kernel_rfl
theorem f67k2 : LK f67Q f67P 67 Tryz.f67 0 := loop_okG (u := (unG qz134 f67e2_0)) (by kernel_rfl) (unG_ok fun t => by kernel_rfl) (fun R κ s => by kernel_rfl) f67C2
theorem ev67 : EV f67Q f67P 67 Tryz.f67 sg67 qz39 qz135 F_laws_markCellS := fun x => by kernel_rfl
noncomputable def q67 : QF := ⟨67, F_laws_markCellS, okN (n := 1) Tryz.func67 (by kernel_rfl) (by kernel_rfl) ⟨f67k2, trivial⟩ ev67⟩
abbrev T_laws_markText_4 : Type := Qz136
noncomputable def S_laws_markText_4 {R : Type} (k0 : ByteArray → Option R) (again : T_laws_markText_4 → Option R) (t4 : T_laws_markText_4) : Option R :=
  bif (decide (t4.1 > (0 : Int))) then if ByteArray.size (textOf ([(Go.IntKind.wrap .u8 (Go.IntKind.wrap .i64 ((48 : Int) + (Int.tmod t4.1 (10 : Int)))))] : List E_u8)) + ByteArray.size t4.2 < 140737488355328 then again ((Go.IntKind.wrap .i64 (Int.tdiv t4.1 (10 : Int))), (show ByteArray from (show ByteArray from (textOf ([(Go.IntKind.wrap .u8 (Go.IntKind.wrap .i64 ((48 : Int) + (Int.tmod t4.1 (10 : Int)))))] : List E_u8))) ++ (show ByteArray from t4.2))) else none else k0 t4.2
noncomputable def L_laws_markText_4 {R : Type} (k0 : ByteArray → Option R) (t : T_laws_markText_4) : Option R := iter (S_laws_markText_4 k0) FUEL t
noncomputable def F_laws_markText (x : Int) : Option ByteArray :=
  bif (decide (x ≤ (0 : Int))) then some ({ data := #[109, 48] }) else L_laws_markText_4 (fun x1 => if ByteArray.size ({ data := #[109] }) + ByteArray.size x1 < 140737488355328 then some (show ByteArray from (show ByteArray from { data := #[109] }) ++ (show ByteArray from x1)) else none) (x, { data := #[] })
noncomputable def f146Q : List QF := []
def f146e4_0 (t : Qz136) : St := ⟨vI t.1 :: dd 2 (vS t.2 :: dd 16 []), []⟩
noncomputable def f146g4 : Gk T_laws_markText_4 := fun κ => S_laws_markText_4 (fun t => κ (some 0) ⟨dd 3 (vS t :: dd 16 []), []⟩)
noncomputable def f146P : Lp := lpC 4 (unG qz136 f146e4_0) @f146g4 lpN
theorem f146C4 : LF f146Q f146P 146 4 Tryz.f146 0 f146e4_0 @f146g4 fun t => t := fun R κ again t => by kernel_rfl
theorem f146k4 : LK f146Q f146P 146 Tryz.f146 0 := loop_okG (u := (unG qz136 f146e4_0)) (by kernel_rfl) (unG_ok fun t => by kernel_rfl) (fun R κ s => by kernel_rfl) f146C4
theorem ev146 : EV f146Q f146P 146 Tryz.f146 sg146 [(.int .i64)] [.str] F_laws_markText := fun x => by kernel_rfl
noncomputable def q146 : QF := ⟨146, F_laws_markText, okN (n := 1) Tryz.func146 (by kernel_rfl) (by kernel_rfl) ⟨f146k4, trivial⟩ ev146⟩
abbrev T_laws_markVolS_2 : Type := Qz137
noncomputable def S_laws_markVolS_2 {R : Type} (k0 : Qz138 → Option R) (again : T_laws_markVolS_2 → Option R) (t2 : T_laws_markVolS_2) : Option R :=
  bif (decide (t2.2.1 < ((List.length t2.2.2 : Nat) : Int))) then Option.bind (F_laws_markText t2.1) fun r1 => if (0 : Int) ≤ t2.2.1 then if t2.2.1 < ((List.length t2.2.2 : Nat) : Int) then if (0 : Int) ≤ t2.2.1 then if t2.2.1 < ((List.length (List.set t2.2.2 (Int.toNat t2.2.1) (r1, (rd_Vol t2.2.2 t2.2.1).2)) : Nat) : Int) then if (0 : Int) ≤ t2.2.1 then if t2.2.1 < ((List.length (List.set (List.set t2.2.2 (Int.toNat t2.2.1) (r1, (rd_Vol t2.2.2 t2.2.1).2)) (Int.toNat t2.2.1) ((rd_Vol (List.set t2.2.2 (Int.toNat t2.2.1) (r1, (rd_Vol t2.2.2 t2.2.1).2)) t2.2.1).1, (Go.IntKind.wrap .i64 (t2.1 + (1 : Int))), (rd_Vol (List.set t2.2.2 (Int.toNat t2.2.1) (r1, (rd_Vol t2.2.2 t2.2.1).2)) t2.2.1).2.2)) : Nat) : Int) then let l2 : List E_Vol := (List.set (List.set (List.set t2.2.2 (Int.toNat t2.2.1) (r1, (rd_Vol t2.2.2 t2.2.1).2)) (Int.toNat t2.2.1) ((rd_Vol (List.set t2.2.2 (Int.toNat t2.2.1) (r1, (rd_Vol t2.2.2 t2.2.1).2)) t2.2.1).1, (Go.IntKind.wrap .i64 (t2.1 + (1 : Int))), (rd_Vol (List.set t2.2.2 (Int.toNat t2.2.1) (r1, (rd_Vol t2.2.2 t2.2.1).2)) t2.2.1).2.2)) (Int.toNat t2.2.1) ((rd_Vol (List.set (List.set t2.2.2 (Int.toNat t2.2.1) (r1, (rd_Vol t2.2.2 t2.2.1).2)) (Int.toNat t2.2.1) ((rd_Vol (List.set t2.2.2 (Int.toNat t2.2.1) (r1, (rd_Vol t2.2.2 t2.2.1).2)) t2.2.1).1, (Go.IntKind.wrap .i64 (t2.1 + (1 : Int))), (rd_Vol (List.set t2.2.2 (Int.toNat t2.2.1) (r1, (rd_Vol t2.2.2 t2.2.1).2)) t2.2.1).2.2)) t2.2.1).1, (rd_Vol (List.set (List.set t2.2.2 (Int.toNat t2.2.1) (r1, (rd_Vol t2.2.2 t2.2.1).2)) (Int.toNat t2.2.1) ((rd_Vol (List.set t2.2.2 (Int.toNat t2.2.1) (r1, (rd_Vol t2.2.2 t2.2.1).2)) t2.2.1).1, (Go.IntKind.wrap .i64 (t2.1 + (1 : Int))), (rd_Vol (List.set t2.2.2 (Int.toNat t2.2.1) (r1, (rd_Vol t2.2.2 t2.2.1).2)) t2.2.1).2.2)) t2.2.1).2.1, (Go.IntKind.wrap .i64 ((Go.IntKind.wrap .i64 (t2.1 + (1 : Int))) + (1 : Int))), (rd_Vol (List.set (List.set t2.2.2 (Int.toNat t2.2.1) (r1, (rd_Vol t2.2.2 t2.2.1).2)) (Int.toNat t2.2.1) ((rd_Vol (List.set t2.2.2 (Int.toNat t2.2.1) (r1, (rd_Vol t2.2.2 t2.2.1).2)) t2.2.1).1, (Go.IntKind.wrap .i64 (t2.1 + (1 : Int))), (rd_Vol (List.set t2.2.2 (Int.toNat t2.2.1) (r1, (rd_Vol t2.2.2 t2.2.1).2)) t2.2.1).2.2)) t2.2.1).2.2.2)); if (0 : Int) ≤ t2.2.1 then if t2.2.1 < ((List.length l2 : Nat) : Int) then again ((Go.IntKind.wrap .i64 ((Go.IntKind.wrap .i64 ((Go.IntKind.wrap .i64 ((Go.IntKind.wrap .i64 (t2.1 + (1 : Int))) + (1 : Int))) + (1 : Int))) + (1 : Int))), (Go.IntKind.wrap .i64 (t2.2.1 + (1 : Int))), (List.set l2 (Int.toNat t2.2.1) ((rd_Vol l2 t2.2.1).1, (rd_Vol l2 t2.2.1).2.1, (rd_Vol l2 t2.2.1).2.2.1, ((Int.tmod (Go.IntKind.wrap .i64 ((Go.IntKind.wrap .i64 ((Go.IntKind.wrap .i64 (t2.1 + (1 : Int))) + (1 : Int))) + (1 : Int))) (3 : Int)) == (0 : Int))))) else none else none else none else none else none else none else none else none else k0 (t2.1, t2.2.2)
noncomputable def L_laws_markVolS_2 {R : Type} (k0 : Qz138 → Option R) (t : T_laws_markVolS_2) : Option R := iter (S_laws_markVolS_2 k0) FUEL t
noncomputable def F_laws_markVolS (x : Qz139) : Option Qz138 :=
  L_laws_markVolS_2 (fun x3 => some (x3.1, x3.2)) (x.2, (0 : Int), x.1)
noncomputable def f68Q : List QF := [q146]
def f68e2_0 (t : Qz137) : St := ⟨.own 10000000 :: vI t.1 :: dd 3 (vI t.2.1 :: dd 38 []), [(10000000, .deep true 1 91 ts_Vol t.2.2)]⟩
noncomputable def f68g2 : Gk T_laws_markVolS_2 := fun κ => S_laws_markVolS_2 (fun t => κ (some 0) ⟨.own 10000000 :: vI t.1 :: dd 42 [], [(10000000, .deep true 1 91 ts_Vol t.2)]⟩)
noncomputable def f68P : Lp := lpC 2 (unG qz137 f68e2_0) @f68g2 lpN
theorem f68C2 : LF f68Q f68P 68 2 Tryz.f68 0 f68e2_0 @f68g2 fun t => t := fun R κ again t => by kernel_rfl
theorem f68k2 : LK f68Q f68P 68 Tryz.f68 0 := loop_okG (u := (unG qz137 f68e2_0)) (by kernel_rfl) (unG_ok fun t => by kernel_rfl) (fun R κ s => by kernel_rfl) f68C2
theorem ev68 : EV f68Q f68P 68 Tryz.f68 sg68 qz139 qz138 F_laws_markVolS := fun x => by kernel_rfl
noncomputable def q68 : QF := ⟨68, F_laws_markVolS, okN (n := 1) Tryz.func68 (by kernel_rfl) (by kernel_rfl) ⟨f68k2, trivial⟩ ev68⟩
noncomputable def F_laws_markPool (x : Qz140) : Option Qz141 :=
  Option.bind (F_laws_markTree (x.1, x.2.1, x.2.2.2.2.2.2)) fun r1 => Option.bind (F_laws_markAgeS (x.2.2.1, r1.1)) fun r2 => Option.bind (F_laws_markCellS (x.2.2.2.1, r2.1)) fun r3 => Option.bind (F_laws_markVolS (x.2.2.2.2.1, r3.1)) fun r4 => some (r4.1, r1.2.1, r1.2.2, r2.2, r3.2, r4.2)
theorem ev16 : EV [q65, q66, q67, q68] lpN 16 Tryz.f16 sg16 qz140 qz141 F_laws_markPool := fun x => by kernel_rfl
noncomputable def q16 : QF := ⟨16, F_laws_markPool, okN (n := 0) Tryz.func16 (by kernel_rfl) (by kernel_rfl) trivial ev16⟩
abbrev T_laws_markByteS_2 : Type := Qz142
noncomputable def S_laws_markByteS_2 {R : Type} (k0 : Qz143 → Option R) (again : T_laws_markByteS_2 → Option R) (t2 : T_laws_markByteS_2) : Option R :=
  bif (decide (t2.2.1 < ((List.length t2.2.2 : Nat) : Int))) then if (0 : Int) ≤ t2.2.1 then if t2.2.1 < ((List.length t2.2.2 : Nat) : Int) then again ((Go.IntKind.wrap .i64 (t2.1 + (1 : Int))), (Go.IntKind.wrap .i64 (t2.2.1 + (1 : Int))), (List.set t2.2.2 (Int.toNat t2.2.1) (Go.IntKind.wrap .u8 t2.1))) else none else none else k0 (t2.1, t2.2.2)
noncomputable def L_laws_markByteS_2 {R : Type} (k0 : Qz143 → Option R) (t : T_laws_markByteS_2) : Option R := iter (S_laws_markByteS_2 k0) FUEL t
noncomputable def F_laws_markByteS (x : Qz54) : Option Qz143 :=
  L_laws_markByteS_2 (fun x1 => some (x1.1, x1.2)) (x.2, (0 : Int), x.1)
noncomputable def f17Q : List QF := []
def f17e2_0 (t : Qz142) : St := ⟨.own 10000000 :: vI t.1 :: dd 3 (vI t.2.1 :: dd 14 []), [(10000000, .deep true 1 5 ts_u8 t.2.2)]⟩
noncomputable def f17g2 : Gk T_laws_markByteS_2 := fun κ => S_laws_markByteS_2 (fun t => κ (some 0) ⟨.own 10000000 :: vI t.1 :: dd 18 [], [(10000000, .deep true 1 5 ts_u8 t.2)]⟩)
noncomputable def f17P : Lp := lpC 2 (unG qz142 f17e2_0) @f17g2 lpN
theorem f17C2 : LF f17Q f17P 17 2 Tryz.f17 0 f17e2_0 @f17g2 fun t => t := fun R κ again t => by kernel_rfl
theorem f17k2 : LK f17Q f17P 17 Tryz.f17 0 := loop_okG (u := (unG qz142 f17e2_0)) (by kernel_rfl) (unG_ok fun t => by kernel_rfl) (fun R κ s => by kernel_rfl) f17C2
theorem ev17 : EV f17Q f17P 17 Tryz.f17 sg17 qz54 qz143 F_laws_markByteS := fun x => by kernel_rfl
noncomputable def q17 : QF := ⟨17, F_laws_markByteS, okN (n := 1) Tryz.func17 (by kernel_rfl) (by kernel_rfl) ⟨f17k2, trivial⟩ ev17⟩
abbrev T_laws_heldByteS_2 : Type := Qz144
noncomputable def S_laws_heldByteS_2 {R : Type} (k0 : Qz3 → Option R) (k1 : Int → Option R) (again : T_laws_heldByteS_2 → Option R) (t2 : T_laws_heldByteS_2) : Option R :=
  bif (decide (t2.2.2 < ((List.length t2.1 : Nat) : Int))) then if (0 : Int) ≤ t2.2.2 then if t2.2.2 < ((List.length t2.1 : Nat) : Int) then bif ((rd_u8 t2.1 t2.2.2) != (Go.IntKind.wrap .u8 t2.2.1)) then k0 (t2.2.1, (-1 : Int)) else again (t2.1, (Go.IntKind.wrap .i64 (t2.2.1 + (1 : Int))), (Go.IntKind.wrap .i64 (t2.2.2 + (1 : Int)))) else none else none else k1 t2.2.1
noncomputable def L_laws_heldByteS_2 {R : Type} (k0 : Qz3 → Option R) (k1 : Int → Option R) (t : T_laws_heldByteS_2) : Option R := iter (S_laws_heldByteS_2 k0 k1) FUEL t
noncomputable def F_laws_heldByteS (x : Qz54) : Option Int :=
  L_laws_heldByteS_2 (fun x1 => some x1.2) (fun x2 => some x2) (x.1, x.2, (0 : Int))
noncomputable def f18Q : List QF := []
def f18e2_0 (t : Qz144) : St := ⟨v_u8 t.1 :: vI t.2.1 :: dd 3 (vI t.2.2 :: dd 16 []), []⟩
noncomputable def f18g2 : Gk T_laws_heldByteS_2 := fun κ => S_laws_heldByteS_2 (fun t => κ none ⟨.dead :: vI t.1 :: dd 2 (vI t.2 :: dd 17 []), []⟩) (fun t => κ (some 0) ⟨.dead :: vI t :: dd 20 [], []⟩)
noncomputable def f18P : Lp := lpC 2 (unG qz144 f18e2_0) @f18g2 lpN
theorem f18C2 : LF f18Q f18P 18 2 Tryz.f18 0 f18e2_0 @f18g2 fun t => t := fun R κ again t => by kernel_rfl
theorem f18k2 : LK f18Q f18P 18 Tryz.f18 0 := loop_okG (u := (unG qz144 f18e2_0)) (by kernel_rfl) (unG_ok fun t => by kernel_rfl) (fun R κ s => by kernel_rfl) f18C2
theorem ev18 : EV f18Q f18P 18 Tryz.f18 sg18 qz54 [(.int .i64)] F_laws_heldByteS := fun x => by kernel_rfl
noncomputable def q18 : QF := ⟨18, F_laws_heldByteS, okN (n := 1) Tryz.func18 (by kernel_rfl) (by kernel_rfl) ⟨f18k2, trivial⟩ ev18⟩
noncomputable def F_laws_FnExactPutPool (x : Qz72) : Option Bool :=
  Option.bind (F_laws_szPool (x.1, x.2.1, x.2.2.1, x.2.2.2.1, x.2.2.2.2.1, x.2.2.2.2.2, (1048576 : Int))) fun r1 => bif (decide (r1 < (0 : Int))) then some true else Option.bind (F_laws_toPool (x.1, x.2.1, x.2.2.1, x.2.2.2.1, x.2.2.2.2.1, x.2.2.2.2.2)) fun r2 => Option.bind (F_spec_PutPool (r2.1, r2.2.1, r2.2.2.1, r2.2.2.2.1, r2.2.2.2.2.1, r2.2.2.2.2.2)) fun r3 => Option.bind (F_laws_toPool (x.1, x.2.1, x.2.2.1, x.2.2.2.1, x.2.2.2.2.1, x.2.2.2.2.2)) fun r4 => Option.bind (F_impl_PutPool (r4.1, r4.2.1, r4.2.2.1, r4.2.2.2.1, r4.2.2.2.2.1, r4.2.2.2.2.2)) fun r5 => Option.bind (F_laws_eqByteS (r5, r3)) fun r6 => bif (!r6) then some false else Option.bind (F_laws_toPool (x.1, x.2.1, x.2.2.1, x.2.2.2.1, x.2.2.2.2.1, x.2.2.2.2.2)) fun r7 => Option.bind (F_laws_eqPool (r4.1, r4.2.1, r4.2.2.1, r4.2.2.2.1, r4.2.2.2.2.1, r4.2.2.2.2.2, r7.1, r7.2.1, r7.2.2.1, r7.2.2.2.1, r7.2.2.2.2.1, r7.2.2.2.2.2)) fun r8 => bif (!r8) then some false else Option.bind (F_laws_markPool (r4.1, r4.2.1, r4.2.2.1, r4.2.2.2.1, r4.2.2.2.2.1, r4.2.2.2.2.2, (1 : Int))) fun r9 => Option.bind (bif (decide (r9.1 < (0 : Int))) then some true else Option.bind (F_laws_eqByteS (r5, r3)) fun r11 => some (!r11)) fun u10 => bif u10 then some false else Option.bind (F_laws_markByteS (r5, (1 : Int))) fun r12 => Option.bind (F_laws_heldByteS (r12.2, (1 : Int))) fun r13 => bif (decide (r13 < (0 : Int))) then some false else bif (r13 != r12.1) then some false else Option.bind (F_laws_toPool (x.1, x.2.1, x.2.2.1, x.2.2.2.1, x.2.2.2.2.1, x.2.2.2.2.2)) fun r14 => Option.bind (F_impl_PutPool (r14.1, r14.2.1, r14.2.2.1, r14.2.2.2.1, r14.2.2.2.2.1, r14.2.2.2.2.2)) fun r15 => Option.bind (F_laws_eqByteS (r15, r3)) fun r16 => bif (!r16) then some false else Option.bind (F_laws_heldByteS (r12.2, (1 : Int))) fun r17 => bif (decide (r17 < (0 : Int))) then some false else bif (r17 != r12.1) then some false else some true
theorem ev3 : EV [q10, q11, q12, q13, q14, q15, q16, q17, q18] lpN 3 Tryz.f3 sg3 qz72 [.bool] F_laws_FnExactPutPool := fun x => by kernel_rfl
noncomputable def q3 : QF := ⟨3, F_laws_FnExactPutPool, okN (n := 0) Tryz.func3 (by kernel_rfl) (by kernel_rfl) trivial ev3⟩
end Go.Proofs.YtmapoakbdgpamaaGreat.XJ
