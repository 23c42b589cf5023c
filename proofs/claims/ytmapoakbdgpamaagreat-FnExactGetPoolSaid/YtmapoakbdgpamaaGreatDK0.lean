/- What functions compute, and that they do; part 0 of K; by a program (dec.py). No condition. -/
import Derived.Test.YtmapoakbdgpamaaGreatXK
set_option linter.all false
namespace Go.Proofs.YtmapoakbdgpamaaGreat.XK
open Go.Proofs.YtmapoakbdgpamaaGreat.R
set_option maxRecDepth 100000
abbrev T_laws_eqByteS_4 : Type := Qz0
noncomputable def S_laws_eqByteS_4 {R : Type} (k0 : Bool → Option R) (k1 : Unit → Option R) (again : T_laws_eqByteS_4 → Option R) (t4 : T_laws_eqByteS_4) : Option R :=
  bif (decide (t4.2.2 < ((List.length t4.1 : Nat) : Int))) then if (0 : Int) ≤ t4.2.2 then if t4.2.2 < ((List.length t4.1 : Nat) : Int) then if (0 : Int) ≤ t4.2.2 then if t4.2.2 < ((List.length t4.2.1 : Nat) : Int) then bif ((rd_u8 t4.1 t4.2.2) != (rd_u8 t4.2.1 t4.2.2)) then k0 false else again (t4.1, t4.2.1, (Go.IntKind.wrap .i64 (t4.2.2 + (1 : Int)))) else none else none else none else none else k1 ()
noncomputable def L_laws_eqByteS_4 {R : Type} (k0 : Bool → Option R) (k1 : Unit → Option R) (t : T_laws_eqByteS_4) : Option R := iter (S_laws_eqByteS_4 k0 k1) FUEL t
noncomputable def F_laws_eqByteS (x : Qz1) : Option Bool :=
  bif (((List.length x.1 : Nat) : Int) != ((List.length x.2 : Nat) : Int)) then some false else L_laws_eqByteS_4 (fun x1 => some x1) (fun x2 => some true) (x.1, x.2, (0 : Int))
noncomputable def f14Q : List QF := []
def f14e4_0 (t : Qz0) : St := ⟨v_u8 t.1 :: v_u8 t.2.1 :: dd 3 (vI t.2.2 :: dd 20 []), []⟩
noncomputable def f14g4 : Gk T_laws_eqByteS_4 := fun κ => S_laws_eqByteS_4 (fun t => κ none ⟨dd 4 (vB t :: dd 21 []), []⟩) (fun t => κ (some 0) ⟨dd 26 [], []⟩)
noncomputable def f14P : Lp := lpC 4 (unG qz0 f14e4_0) @f14g4 lpN
theorem f14C4 : LF f14Q f14P 14 4 Tryz.f14 0 f14e4_0 @f14g4 fun t => t := fun R κ again t => by kernel_rfl
theorem f14k4 : LK f14Q f14P 14 Tryz.f14 0 := loop_okG (u := (unG qz0 f14e4_0)) (by kernel_rfl) (unG_ok fun t => by kernel_rfl) (fun R κ s => by kernel_rfl) f14C4
theorem ev14 : EV f14Q f14P 14 Tryz.f14 sg14 qz1 [.bool] F_laws_eqByteS := fun x => by kernel_rfl
noncomputable def q14 : QF := ⟨14, F_laws_eqByteS, okN (n := 1) Tryz.func14 (by kernel_rfl) (by kernel_rfl) ⟨f14k4, trivial⟩ ev14⟩
abbrev T_laws_eqIntS_4 : Type := Qz2
noncomputable def S_laws_eqIntS_4 {R : Type} (k0 : Bool → Option R) (k1 : Unit → Option R) (again : T_laws_eqIntS_4 → Option R) (t4 : T_laws_eqIntS_4) : Option R :=
  bif (decide (t4.2.2 < ((List.length t4.1 : Nat) : Int))) then if (0 : Int) ≤ t4.2.2 then if t4.2.2 < ((List.length t4.1 : Nat) : Int) then if (0 : Int) ≤ t4.2.2 then if t4.2.2 < ((List.length t4.2.1 : Nat) : Int) then bif ((rd_i64 t4.1 t4.2.2) != (rd_i64 t4.2.1 t4.2.2)) then k0 false else again (t4.1, t4.2.1, (Go.IntKind.wrap .i64 (t4.2.2 + (1 : Int)))) else none else none else none else none else k1 ()
noncomputable def L_laws_eqIntS_4 {R : Type} (k0 : Bool → Option R) (k1 : Unit → Option R) (t : T_laws_eqIntS_4) : Option R := iter (S_laws_eqIntS_4 k0 k1) FUEL t
noncomputable def F_laws_eqIntS (x : Qz3) : Option Bool :=
  bif (((List.length x.1 : Nat) : Int) != ((List.length x.2 : Nat) : Int)) then some false else L_laws_eqIntS_4 (fun x1 => some x1) (fun x2 => some true) (x.1, x.2, (0 : Int))
noncomputable def f139Q : List QF := []
def f139e4_0 (t : Qz2) : St := ⟨v_i64 t.1 :: v_i64 t.2.1 :: dd 3 (vI t.2.2 :: dd 20 []), []⟩
noncomputable def f139g4 : Gk T_laws_eqIntS_4 := fun κ => S_laws_eqIntS_4 (fun t => κ none ⟨dd 4 (vB t :: dd 21 []), []⟩) (fun t => κ (some 0) ⟨dd 26 [], []⟩)
noncomputable def f139P : Lp := lpC 4 (unG qz2 f139e4_0) @f139g4 lpN
theorem f139C4 : LF f139Q f139P 139 4 Tryz.f139 0 f139e4_0 @f139g4 fun t => t := fun R κ again t => by kernel_rfl
theorem f139k4 : LK f139Q f139P 139 Tryz.f139 0 := loop_okG (u := (unG qz2 f139e4_0)) (by kernel_rfl) (unG_ok fun t => by kernel_rfl) (fun R κ s => by kernel_rfl) f139C4
theorem ev139 : EV f139Q f139P 139 Tryz.f139 sg139 qz3 [.bool] F_laws_eqIntS := fun x => by kernel_rfl
noncomputable def q139 : QF := ⟨139, F_laws_eqIntS, okN (n := 1) Tryz.func139 (by kernel_rfl) (by kernel_rfl) ⟨f139k4, trivial⟩ ev139⟩
noncomputable def F_laws_eqKey (x : Qz4) : Option Bool :=
  bif (x.1 != x.2.2.2.2.2.1) then some false else bif (x.2.1 != x.2.2.2.2.2.2.1) then some false else bif (x.2.2.1 != x.2.2.2.2.2.2.2.1) then some false else bif (x.2.2.2.1 != x.2.2.2.2.2.2.2.2.1) then some false else bif (x.2.2.2.2.1 != x.2.2.2.2.2.2.2.2.2) then some false else some true
theorem ev303 : EV [] lpN 303 Tryz.f303 sg303 qz4 [.bool] F_laws_eqKey := fun x => by kernel_rfl
noncomputable def q303 : QF := ⟨303, F_laws_eqKey, okN (n := 0) Tryz.func303 (by kernel_rfl) (by kernel_rfl) trivial ev303⟩
abbrev T_laws_eqKeyS_4 : Type := Qz5
noncomputable def S_laws_eqKeyS_4 {R : Type} (k0 : Bool → Option R) (k1 : Unit → Option R) (again : T_laws_eqKeyS_4 → Option R) (t4 : T_laws_eqKeyS_4) : Option R :=
  bif (decide (t4.2.2 < ((List.length t4.1 : Nat) : Int))) then if (0 : Int) ≤ t4.2.2 then if t4.2.2 < ((List.length t4.1 : Nat) : Int) then if (0 : Int) ≤ t4.2.2 then if t4.2.2 < ((List.length t4.2.1 : Nat) : Int) then Option.bind (F_laws_eqKey ((rd_Key t4.1 t4.2.2).1, (rd_Key t4.1 t4.2.2).2.1, (rd_Key t4.1 t4.2.2).2.2.1, (rd_Key t4.1 t4.2.2).2.2.2.1, (rd_Key t4.1 t4.2.2).2.2.2.2, (rd_Key t4.2.1 t4.2.2).1, (rd_Key t4.2.1 t4.2.2).2.1, (rd_Key t4.2.1 t4.2.2).2.2.1, (rd_Key t4.2.1 t4.2.2).2.2.2.1, (rd_Key t4.2.1 t4.2.2).2.2.2.2)) fun r1 => bif (!r1) then k0 false else again (t4.1, t4.2.1, (Go.IntKind.wrap .i64 (t4.2.2 + (1 : Int)))) else none else none else none else none else k1 ()
noncomputable def L_laws_eqKeyS_4 {R : Type} (k0 : Bool → Option R) (k1 : Unit → Option R) (t : T_laws_eqKeyS_4) : Option R := iter (S_laws_eqKeyS_4 k0 k1) FUEL t
noncomputable def F_laws_eqKeyS (x : Qz6) : Option Bool :=
  bif (((List.length x.1 : Nat) : Int) != ((List.length x.2 : Nat) : Int)) then some false else L_laws_eqKeyS_4 (fun x2 => some x2) (fun x3 => some true) (x.1, x.2, (0 : Int))
noncomputable def f282Q : List QF := [q303]
def f282e4_0 (t : Qz5) : St := ⟨v_Key t.1 :: v_Key t.2.1 :: dd 3 (vI t.2.2 :: dd 21 []), []⟩
noncomputable def f282g4 : Gk T_laws_eqKeyS_4 := fun κ => S_laws_eqKeyS_4 (fun t => κ none ⟨dd 4 (vB t :: dd 22 []), []⟩) (fun t => κ (some 0) ⟨dd 27 [], []⟩)
noncomputable def f282P : Lp := lpC 4 (unG qz5 f282e4_0) @f282g4 lpN
theorem f282C4 : LF f282Q f282P 282 4 Tryz.f282 0 f282e4_0 @f282g4 fun t => t := fun R κ again t => by kernel_rfl
theorem f282k4 : LK f282Q f282P 282 Tryz.f282 0 := loop_okG (u := (unG qz5 f282e4_0)) (by kernel_rfl) (unG_ok fun t => by kernel_rfl) (fun R κ s => by kernel_rfl) f282C4
theorem ev282 : EV f282Q f282P 282 Tryz.f282 sg282 qz6 [.bool] F_laws_eqKeyS := fun x => by kernel_rfl
noncomputable def q282 : QF := ⟨282, F_laws_eqKeyS, okN (n := 1) Tryz.func282 (by kernel_rfl) (by kernel_rfl) ⟨f282k4, trivial⟩ ev282⟩
abbrev T_laws_eqKeySS_4 : Type := Qz7
noncomputable def S_laws_eqKeySS_4 {R : Type} (k0 : Bool → Option R) (k1 : Unit → Option R) (again : T_laws_eqKeySS_4 → Option R) (t4 : T_laws_eqKeySS_4) : Option R :=
  bif (decide (t4.2.2 < ((List.length t4.1 : Nat) : Int))) then if (0 : Int) ≤ t4.2.2 then if t4.2.2 < ((List.length t4.1 : Nat) : Int) then if (0 : Int) ≤ t4.2.2 then if t4.2.2 < ((List.length t4.2.1 : Nat) : Int) then Option.bind (F_laws_eqKeyS ((rd_s_Key t4.1 t4.2.2), (rd_s_Key t4.2.1 t4.2.2))) fun r1 => bif (!r1) then k0 false else again (t4.1, t4.2.1, (Go.IntKind.wrap .i64 (t4.2.2 + (1 : Int)))) else none else none else none else none else k1 ()
noncomputable def L_laws_eqKeySS_4 {R : Type} (k0 : Bool → Option R) (k1 : Unit → Option R) (t : T_laws_eqKeySS_4) : Option R := iter (S_laws_eqKeySS_4 k0 k1) FUEL t
noncomputable def F_laws_eqKeySS (x : Qz8) : Option Bool :=
  bif (((List.length x.1 : Nat) : Int) != ((List.length x.2 : Nat) : Int)) then some false else L_laws_eqKeySS_4 (fun x2 => some x2) (fun x3 => some true) (x.1, x.2, (0 : Int))
noncomputable def f253Q : List QF := [q282]
def f253e4_0 (t : Qz7) : St := ⟨v_s_Key t.1 :: v_s_Key t.2.1 :: dd 3 (vI t.2.2 :: dd 21 []), []⟩
noncomputable def f253g4 : Gk T_laws_eqKeySS_4 := fun κ => S_laws_eqKeySS_4 (fun t => κ none ⟨dd 4 (vB t :: dd 22 []), []⟩) (fun t => κ (some 0) ⟨dd 27 [], []⟩)
noncomputable def f253P : Lp := lpC 4 (unG qz7 f253e4_0) @f253g4 lpN
theorem f253C4 : LF f253Q f253P 253 4 Tryz.f253 0 f253e4_0 @f253g4 fun t => t := fun R κ again t => by kernel_rfl
theorem f253k4 : LK f253Q f253P 253 Tryz.f253 0 := loop_okG (u := (unG qz7 f253e4_0)) (by kernel_rfl) (unG_ok fun t => by kernel_rfl) (fun R κ s => by kernel_rfl) f253C4
theorem ev253 : EV f253Q f253P 253 Tryz.f253 sg253 qz8 [.bool] F_laws_eqKeySS := fun x => by kernel_rfl
noncomputable def q253 : QF := ⟨253, F_laws_eqKeySS, okN (n := 1) Tryz.func253 (by kernel_rfl) (by kernel_rfl) ⟨f253k4, trivial⟩ ev253⟩
noncomputable def F_laws_eqNode (x : Qz8) : Option Bool :=
  Option.bind (F_laws_eqKeySS (x.1, x.2)) fun r1 => bif (!r1) then some false else some true
theorem ev216 : EV [q253] lpN 216 Tryz.f216 sg216 qz8 [.bool] F_laws_eqNode := fun x => by kernel_rfl
noncomputable def q216 : QF := ⟨216, F_laws_eqNode, okN (n := 0) Tryz.func216 (by kernel_rfl) (by kernel_rfl) trivial ev216⟩
abbrev T_laws_eqNodeS_4 : Type := Qz9
noncomputable def S_laws_eqNodeS_4 {R : Type} (k0 : Bool → Option R) (k1 : Unit → Option R) (again : T_laws_eqNodeS_4 → Option R) (t4 : T_laws_eqNodeS_4) : Option R :=
  bif (decide (t4.2.2 < ((List.length t4.1 : Nat) : Int))) then if (0 : Int) ≤ t4.2.2 then if t4.2.2 < ((List.length t4.1 : Nat) : Int) then if (0 : Int) ≤ t4.2.2 then if t4.2.2 < ((List.length t4.2.1 : Nat) : Int) then Option.bind (F_laws_eqNode ((rd_Node t4.1 t4.2.2), (rd_Node t4.2.1 t4.2.2))) fun r1 => bif (!r1) then k0 false else again (t4.1, t4.2.1, (Go.IntKind.wrap .i64 (t4.2.2 + (1 : Int)))) else none else none else none else none else k1 ()
noncomputable def L_laws_eqNodeS_4 {R : Type} (k0 : Bool → Option R) (k1 : Unit → Option R) (t : T_laws_eqNodeS_4) : Option R := iter (S_laws_eqNodeS_4 k0 k1) FUEL t
noncomputable def F_laws_eqNodeS (x : Qz10) : Option Bool :=
  bif (((List.length x.1 : Nat) : Int) != ((List.length x.2 : Nat) : Int)) then some false else L_laws_eqNodeS_4 (fun x2 => some x2) (fun x3 => some true) (x.1, x.2, (0 : Int))
noncomputable def f140Q : List QF := [q216]
def f140e4_0 (t : Qz9) : St := ⟨v_Node t.1 :: v_Node t.2.1 :: dd 3 (vI t.2.2 :: dd 21 []), []⟩
noncomputable def f140g4 : Gk T_laws_eqNodeS_4 := fun κ => S_laws_eqNodeS_4 (fun t => κ none ⟨dd 4 (vB t :: dd 22 []), []⟩) (fun t => κ (some 0) ⟨dd 27 [], []⟩)
noncomputable def f140P : Lp := lpC 4 (unG qz9 f140e4_0) @f140g4 lpN
theorem f140C4 : LF f140Q f140P 140 4 Tryz.f140 0 f140e4_0 @f140g4 fun t => t := fun R κ again t => by kernel_rfl
theorem f140k4 : LK f140Q f140P 140 Tryz.f140 0 := loop_okG (u := (unG qz9 f140e4_0)) (by kernel_rfl) (unG_ok fun t => by kernel_rfl) (fun R κ s => by kernel_rfl) f140C4
theorem ev140 : EV f140Q f140P 140 Tryz.f140 sg140 qz10 [.bool] F_laws_eqNodeS := fun x => by kernel_rfl
noncomputable def q140 : QF := ⟨140, F_laws_eqNodeS, okN (n := 1) Tryz.func140 (by kernel_rfl) (by kernel_rfl) ⟨f140k4, trivial⟩ ev140⟩
noncomputable def F_laws_eqTree (x : Qz11) : Option Bool :=
  Option.bind (F_laws_eqIntS (x.1, x.2.2.1)) fun r1 => bif (!r1) then some false else Option.bind (F_laws_eqNodeS (x.2.1, x.2.2.2)) fun r2 => bif (!r2) then some false else some true
theorem ev61 : EV [q139, q140] lpN 61 Tryz.f61 sg61 qz11 [.bool] F_laws_eqTree := fun x => by kernel_rfl
noncomputable def q61 : QF := ⟨61, F_laws_eqTree, okN (n := 0) Tryz.func61 (by kernel_rfl) (by kernel_rfl) trivial ev61⟩
noncomputable def F_laws_eqAge (x : Qz12) : Option Bool :=
  bif (x.1 != x.2.2.1) then some false else bif (x.2.1 != x.2.2.2) then some false else some true
theorem ev141 : EV [] lpN 141 Tryz.f141 sg141 qz12 [.bool] F_laws_eqAge := fun x => by kernel_rfl
noncomputable def q141 : QF := ⟨141, F_laws_eqAge, okN (n := 0) Tryz.func141 (by kernel_rfl) (by kernel_rfl) trivial ev141⟩
abbrev T_laws_eqAgeS_4 : Type := Qz13
noncomputable def S_laws_eqAgeS_4 {R : Type} (k0 : Bool → Option R) (k1 : Unit → Option R) (again : T_laws_eqAgeS_4 → Option R) (t4 : T_laws_eqAgeS_4) : Option R :=
  bif (decide (t4.2.2 < ((List.length t4.1 : Nat) : Int))) then if (0 : Int) ≤ t4.2.2 then if t4.2.2 < ((List.length t4.1 : Nat) : Int) then if (0 : Int) ≤ t4.2.2 then if t4.2.2 < ((List.length t4.2.1 : Nat) : Int) then Option.bind (F_laws_eqAge ((rd_Age t4.1 t4.2.2).1, (rd_Age t4.1 t4.2.2).2, (rd_Age t4.2.1 t4.2.2).1, (rd_Age t4.2.1 t4.2.2).2)) fun r1 => bif (!r1) then k0 false else again (t4.1, t4.2.1, (Go.IntKind.wrap .i64 (t4.2.2 + (1 : Int)))) else none else none else none else none else k1 ()
noncomputable def L_laws_eqAgeS_4 {R : Type} (k0 : Bool → Option R) (k1 : Unit → Option R) (t : T_laws_eqAgeS_4) : Option R := iter (S_laws_eqAgeS_4 k0 k1) FUEL t
noncomputable def F_laws_eqAgeS (x : Qz14) : Option Bool :=
  bif (((List.length x.1 : Nat) : Int) != ((List.length x.2 : Nat) : Int)) then some false else L_laws_eqAgeS_4 (fun x2 => some x2) (fun x3 => some true) (x.1, x.2, (0 : Int))
noncomputable def f62Q : List QF := [q141]
def f62e4_0 (t : Qz13) : St := ⟨v_Age t.1 :: v_Age t.2.1 :: dd 3 (vI t.2.2 :: dd 21 []), []⟩
noncomputable def f62g4 : Gk T_laws_eqAgeS_4 := fun κ => S_laws_eqAgeS_4 (fun t => κ none ⟨dd 4 (vB t :: dd 22 []), []⟩) (fun t => κ (some 0) ⟨dd 27 [], []⟩)
noncomputable def f62P : Lp := lpC 4 (unG qz13 f62e4_0) @f62g4 lpN
theorem f62C4 : LF f62Q f62P 62 4 Tryz.f62 0 f62e4_0 @f62g4 fun t => t := fun R κ again t => by kernel_rfl
theorem f62k4 : LK f62Q f62P 62 Tryz.f62 0 := loop_okG (u := (unG qz13 f62e4_0)) (by kernel_rfl) (unG_ok fun t => by kernel_rfl) (fun R κ s => by kernel_rfl) f62C4
theorem ev62 : EV f62Q f62P 62 Tryz.f62 sg62 qz14 [.bool] F_laws_eqAgeS := fun x => by kernel_rfl
noncomputable def q62 : QF := ⟨62, F_laws_eqAgeS, okN (n := 1) Tryz.func62 (by kernel_rfl) (by kernel_rfl) ⟨f62k4, trivial⟩ ev62⟩
noncomputable def F_laws_eqCell (x : Qz15) : Option Bool :=
  bif (x.1 != x.2.2.2.1) then some false else bif (!(x.2.1 == x.2.2.2.2.1)) then some false else bif (x.2.2.1 != x.2.2.2.2.2) then some false else some true
theorem ev142 : EV [] lpN 142 Tryz.f142 sg142 qz15 [.bool] F_laws_eqCell := fun x => by kernel_rfl
noncomputable def q142 : QF := ⟨142, F_laws_eqCell, okN (n := 0) Tryz.func142 (by kernel_rfl) (by kernel_rfl) trivial ev142⟩
abbrev T_laws_eqCellS_4 : Type := Qz16
noncomputable def S_laws_eqCellS_4 {R : Type} (k0 : Bool → Option R) (k1 : Unit → Option R) (again : T_laws_eqCellS_4 → Option R) (t4 : T_laws_eqCellS_4) : Option R :=
  bif (decide (t4.2.2 < ((List.length t4.1 : Nat) : Int))) then if (0 : Int) ≤ t4.2.2 then if t4.2.2 < ((List.length t4.1 : Nat) : Int) then if (0 : Int) ≤ t4.2.2 then if t4.2.2 < ((List.length t4.2.1 : Nat) : Int) then Option.bind (F_laws_eqCell ((rd_Cell t4.1 t4.2.2).1, (rd_Cell t4.1 t4.2.2).2.1, (rd_Cell t4.1 t4.2.2).2.2, (rd_Cell t4.2.1 t4.2.2).1, (rd_Cell t4.2.1 t4.2.2).2.1, (rd_Cell t4.2.1 t4.2.2).2.2)) fun r1 => bif (!r1) then k0 false else again (t4.1, t4.2.1, (Go.IntKind.wrap .i64 (t4.2.2 + (1 : Int)))) else none else none else none else none else k1 ()
noncomputable def L_laws_eqCellS_4 {R : Type} (k0 : Bool → Option R) (k1 : Unit → Option R) (t : T_laws_eqCellS_4) : Option R := iter (S_laws_eqCellS_4 k0 k1) FUEL t
noncomputable def F_laws_eqCellS (x : Qz17) : Option Bool :=
  bif (((List.length x.1 : Nat) : Int) != ((List.length x.2 : Nat) : Int)) then some false else L_laws_eqCellS_4 (fun x2 => some x2) (fun x3 => some true) (x.1, x.2, (0 : Int))
noncomputable def f63Q : List QF := [q142]
def f63e4_0 (t : Qz16) : St := ⟨v_Cell t.1 :: v_Cell t.2.1 :: dd 3 (vI t.2.2 :: dd 21 []), []⟩
noncomputable def f63g4 : Gk T_laws_eqCellS_4 := fun κ => S_laws_eqCellS_4 (fun t => κ none ⟨dd 4 (vB t :: dd 22 []), []⟩) (fun t => κ (some 0) ⟨dd 27 [], []⟩)
noncomputable def f63P : Lp := lpC 4 (unG qz16 f63e4_0) @f63g4 lpN
theorem f63C4 : LF f63Q f63P 63 4 Tryz.f63 0 f63e4_0 @f63g4 fun t => t := fun R κ again t => by kernel_rfl
theorem f63k4 : LK f63Q f63P 63 Tryz.f63 0 := loop_okG (u := (unG qz16 f63e4_0)) (by kernel_rfl) (unG_ok fun t => by kernel_rfl) (fun R κ s => by kernel_rfl) f63C4
theorem ev63 : EV f63Q f63P 63 Tryz.f63 sg63 qz17 [.bool] F_laws_eqCellS := fun x => by kernel_rfl
noncomputable def q63 : QF := ⟨63, F_laws_eqCellS, okN (n := 1) Tryz.func63 (by kernel_rfl) (by kernel_rfl) ⟨f63k4, trivial⟩ ev63⟩
noncomputable def F_laws_eqVol (x : Qz18) : Option Bool :=
  bif (!((ByteArray.toList x.1) == (ByteArray.toList x.2.2.2.2.1))) then some false else bif (x.2.1 != x.2.2.2.2.2.1) then some false else bif (x.2.2.1 != x.2.2.2.2.2.2.1) then some false else bif (!(x.2.2.2.1 == x.2.2.2.2.2.2.2)) then some false else some true
theorem ev143 : EV [] lpN 143 Tryz.f143 sg143 qz18 [.bool] F_laws_eqVol := fun x => by kernel_rfl
noncomputable def q143 : QF := ⟨143, F_laws_eqVol, okN (n := 0) Tryz.func143 (by kernel_rfl) (by kernel_rfl) trivial ev143⟩
abbrev T_laws_eqVolS_4 : Type := Qz19
noncomputable def S_laws_eqVolS_4 {R : Type} (k0 : Bool → Option R) (k1 : Unit → Option R) (again : T_laws_eqVolS_4 → Option R) (t4 : T_laws_eqVolS_4) : Option R :=
  bif (decide (t4.2.2 < ((List.length t4.1 : Nat) : Int))) then if (0 : Int) ≤ t4.2.2 then if t4.2.2 < ((List.length t4.1 : Nat) : Int) then if (0 : Int) ≤ t4.2.2 then if t4.2.2 < ((List.length t4.2.1 : Nat) : Int) then Option.bind (F_laws_eqVol ((rd_Vol t4.1 t4.2.2).1, (rd_Vol t4.1 t4.2.2).2.1, (rd_Vol t4.1 t4.2.2).2.2.1, (rd_Vol t4.1 t4.2.2).2.2.2, (rd_Vol t4.2.1 t4.2.2).1, (rd_Vol t4.2.1 t4.2.2).2.1, (rd_Vol t4.2.1 t4.2.2).2.2.1, (rd_Vol t4.2.1 t4.2.2).2.2.2)) fun r1 => bif (!r1) then k0 false else again (t4.1, t4.2.1, (Go.IntKind.wrap .i64 (t4.2.2 + (1 : Int)))) else none else none else none else none else k1 ()
noncomputable def L_laws_eqVolS_4 {R : Type} (k0 : Bool → Option R) (k1 : Unit → Option R) (t : T_laws_eqVolS_4) : Option R := iter (S_laws_eqVolS_4 k0 k1) FUEL t
noncomputable def F_laws_eqVolS (x : Qz20) : Option Bool :=
  bif (((List.length x.1 : Nat) : Int) != ((List.length x.2 : Nat) : Int)) then some false else L_laws_eqVolS_4 (fun x2 => some x2) (fun x3 => some true) (x.1, x.2, (0 : Int))
noncomputable def f64Q : List QF := [q143]
def f64e4_0 (t : Qz19) : St := ⟨v_Vol t.1 :: v_Vol t.2.1 :: dd 3 (vI t.2.2 :: dd 21 []), []⟩
noncomputable def f64g4 : Gk T_laws_eqVolS_4 := fun κ => S_laws_eqVolS_4 (fun t => κ none ⟨dd 4 (vB t :: dd 22 []), []⟩) (fun t => κ (some 0) ⟨dd 27 [], []⟩)
noncomputable def f64P : Lp := lpC 4 (unG qz19 f64e4_0) @f64g4 lpN
theorem f64C4 : LF f64Q f64P 64 4 Tryz.f64 0 f64e4_0 @f64g4 fun t => t := fun R κ again t => by kernel_rfl
theorem f64k4 : LK f64Q f64P 64 Tryz.f64 0 := loop_okG (u := (unG qz19 f64e4_0)) (by kernel_rfl) (unG_ok fun t => by kernel_rfl) (fun R κ s => by kernel_rfl) f64C4
theorem ev64 : EV f64Q f64P 64 Tryz.f64 sg64 qz20 [.bool] F_laws_eqVolS := fun x => by kernel_rfl
noncomputable def q64 : QF := ⟨64, F_laws_eqVolS, okN (n := 1) Tryz.func64 (by kernel_rfl) (by kernel_rfl) ⟨f64k4, trivial⟩ ev64⟩
noncomputable def F_laws_eqPool (x : Qz21) : Option Bool :=
  Option.bind (F_laws_eqTree (x.1, x.2.1, x.2.2.2.2.2.2.1, x.2.2.2.2.2.2.2.1)) fun r1 => bif (!r1) then some false else Option.bind (F_laws_eqAgeS (x.2.2.1, x.2.2.2.2.2.2.2.2.1)) fun r2 => bif (!r2) then some false else Option.bind (F_laws_eqCellS (x.2.2.2.1, x.2.2.2.2.2.2.2.2.2.1)) fun r3 => bif (!r3) then some false else Option.bind (F_laws_eqVolS (x.2.2.2.2.1, x.2.2.2.2.2.2.2.2.2.2.1)) fun r4 => bif (!r4) then some false else bif (x.2.2.2.2.2.1 != x.2.2.2.2.2.2.2.2.2.2.2) then some false else some true
theorem ev15 : EV [q61, q62, q63, q64] lpN 15 Tryz.f15 sg15 qz21 [.bool] F_laws_eqPool := fun x => by kernel_rfl
noncomputable def q15 : QF := ⟨15, F_laws_eqPool, okN (n := 0) Tryz.func15 (by kernel_rfl) (by kernel_rfl) trivial ev15⟩
abbrev T_laws_markIntS_2 : Type := Qz22
noncomputable def S_laws_markIntS_2 {R : Type} (k0 : Qz23 → Option R) (again : T_laws_markIntS_2 → Option R) (t2 : T_laws_markIntS_2) : Option R :=
  bif (decide (t2.2.1 < ((List.length t2.2.2 : Nat) : Int))) then if (0 : Int) ≤ t2.2.1 then if t2.2.1 < ((List.length t2.2.2 : Nat) : Int) then again ((Go.IntKind.wrap .i64 (t2.1 + (1 : Int))), (Go.IntKind.wrap .i64 (t2.2.1 + (1 : Int))), (List.set t2.2.2 (Int.toNat t2.2.1) t2.1)) else none else none else k0 (t2.1, t2.2.2)
noncomputable def L_laws_markIntS_2 {R : Type} (k0 : Qz23 → Option R) (t : T_laws_markIntS_2) : Option R := iter (S_laws_markIntS_2 k0) FUEL t
noncomputable def F_laws_markIntS (x : Qz24) : Option Qz23 :=
  L_laws_markIntS_2 (fun x1 => some (x1.1, x1.2)) (x.2, (0 : Int), x.1)
noncomputable def f144Q : List QF := []
def f144e2_0 (t : Qz22) : St := ⟨.own 10000000 :: vI t.1 :: dd 3 (vI t.2.1 :: dd 13 []), [(10000000, .deep true 1 3 ts_i64 t.2.2)]⟩
noncomputable def f144g2 : Gk T_laws_markIntS_2 := fun κ => S_laws_markIntS_2 (fun t => κ (some 0) ⟨.own 10000000 :: vI t.1 :: dd 17 [], [(10000000, .deep true 1 3 ts_i64 t.2)]⟩)
noncomputable def f144P : Lp := lpC 2 (unG qz22 f144e2_0) @f144g2 lpN
theorem f144C2 : LF f144Q f144P 144 2 Tryz.f144 0 f144e2_0 @f144g2 fun t => t := fun R κ again t => by kernel_rfl
theorem f144k2 : LK f144Q f144P 144 Tryz.f144 0 := loop_okG (u := (unG qz22 f144e2_0)) (by kernel_rfl) (unG_ok fun t => by kernel_rfl) (fun R κ s => by kernel_rfl) f144C2
theorem ev144 : EV f144Q f144P 144 Tryz.f144 sg144 qz24 qz23 F_laws_markIntS := fun x => by kernel_rfl
noncomputable def q144 : QF := ⟨144, F_laws_markIntS, okN (n := 1) Tryz.func144 (by kernel_rfl) (by kernel_rfl) ⟨f144k2, trivial⟩ ev144⟩
abbrev T_laws_markKeyS_2 : Type := Qz25
noncomputable def S_laws_markKeyS_2 {R : Type} (k0 : Qz26 → Option R) (again : T_laws_markKeyS_2 → Option R) (t2 : T_laws_markKeyS_2) : Option R :=
  bif (decide (t2.2.1 < ((List.length t2.2.2 : Nat) : Int))) then if (0 : Int) ≤ t2.2.1 then if t2.2.1 < ((List.length t2.2.2 : Nat) : Int) then if (0 : Int) ≤ t2.2.1 then if t2.2.1 < ((List.length (List.set t2.2.2 (Int.toNat t2.2.1) (t2.1, (rd_Key t2.2.2 t2.2.1).2)) : Nat) : Int) then if (0 : Int) ≤ t2.2.1 then if t2.2.1 < ((List.length (List.set (List.set t2.2.2 (Int.toNat t2.2.1) (t2.1, (rd_Key t2.2.2 t2.2.1).2)) (Int.toNat t2.2.1) ((rd_Key (List.set t2.2.2 (Int.toNat t2.2.1) (t2.1, (rd_Key t2.2.2 t2.2.1).2)) t2.2.1).1, (Go.IntKind.wrap .i64 (t2.1 + (1 : Int))), (rd_Key (List.set t2.2.2 (Int.toNat t2.2.1) (t2.1, (rd_Key t2.2.2 t2.2.1).2)) t2.2.1).2.2)) : Nat) : Int) then let l1 : List E_Key := (List.set (List.set (List.set t2.2.2 (Int.toNat t2.2.1) (t2.1, (rd_Key t2.2.2 t2.2.1).2)) (Int.toNat t2.2.1) ((rd_Key (List.set t2.2.2 (Int.toNat t2.2.1) (t2.1, (rd_Key t2.2.2 t2.2.1).2)) t2.2.1).1, (Go.IntKind.wrap .i64 (t2.1 + (1 : Int))), (rd_Key (List.set t2.2.2 (Int.toNat t2.2.1) (t2.1, (rd_Key t2.2.2 t2.2.1).2)) t2.2.1).2.2)) (Int.toNat t2.2.1) ((rd_Key (List.set (List.set t2.2.2 (Int.toNat t2.2.1) (t2.1, (rd_Key t2.2.2 t2.2.1).2)) (Int.toNat t2.2.1) ((rd_Key (List.set t2.2.2 (Int.toNat t2.2.1) (t2.1, (rd_Key t2.2.2 t2.2.1).2)) t2.2.1).1, (Go.IntKind.wrap .i64 (t2.1 + (1 : Int))), (rd_Key (List.set t2.2.2 (Int.toNat t2.2.1) (t2.1, (rd_Key t2.2.2 t2.2.1).2)) t2.2.1).2.2)) t2.2.1).1, (rd_Key (List.set (List.set t2.2.2 (Int.toNat t2.2.1) (t2.1, (rd_Key t2.2.2 t2.2.1).2)) (Int.toNat t2.2.1) ((rd_Key (List.set t2.2.2 (Int.toNat t2.2.1) (t2.1, (rd_Key t2.2.2 t2.2.1).2)) t2.2.1).1, (Go.IntKind.wrap .i64 (t2.1 + (1 : Int))), (rd_Key (List.set t2.2.2 (Int.toNat t2.2.1) (t2.1, (rd_Key t2.2.2 t2.2.1).2)) t2.2.1).2.2)) t2.2.1).2.1, (Go.IntKind.wrap .i64 ((Go.IntKind.wrap .i64 (t2.1 + (1 : Int))) + (1 : Int))), (rd_Key (List.set (List.set t2.2.2 (Int.toNat t2.2.1) (t2.1, (rd_Key t2.2.2 t2.2.1).2)) (Int.toNat t2.2.1) ((rd_Key (List.set t2.2.2 (Int.toNat t2.2.1) (t2.1, (rd_Key t2.2.2 t2.2.1).2)) t2.2.1).1, (Go.IntKind.wrap .i64 (t2.1 + (1 : Int))), (rd_Key (List.set t2.2.2 (Int.toNat t2.2.1) (t2.1, (rd_Key t2.2.2 t2.2.1).2)) t2.2.1).2.2)) t2.2.1).2.2.2)); if (0 : Int) ≤ t2.2.1 then if t2.2.1 < ((List.length l1 : Nat) : Int) then if (0 : Int) ≤ t2.2.1 then if t2.2.1 < ((List.length (List.set l1 (Int.toNat t2.2.1) ((rd_Key l1 t2.2.1).1, (rd_Key l1 t2.2.1).2.1, (rd_Key l1 t2.2.1).2.2.1, (Go.IntKind.wrap .i64 ((Go.IntKind.wrap .i64 ((Go.IntKind.wrap .i64 (t2.1 + (1 : Int))) + (1 : Int))) + (1 : Int))), (rd_Key l1 t2.2.1).2.2.2.2)) : Nat) : Int) then let l2 : List E_Key := (List.set (List.set l1 (Int.toNat t2.2.1) ((rd_Key l1 t2.2.1).1, (rd_Key l1 t2.2.1).2.1, (rd_Key l1 t2.2.1).2.2.1, (Go.IntKind.wrap .i64 ((Go.IntKind.wrap .i64 ((Go.IntKind.wrap .i64 (t2.1 + (1 : Int))) + (1 : Int))) + (1 : Int))), (rd_Key l1 t2.2.1).2.2.2.2)) (Int.toNat t2.2.1) ((rd_Key (List.set l1 (Int.toNat t2.2.1) ((rd_Key l1 t2.2.1).1, (rd_Key l1 t2.2.1).2.1, (rd_Key l1 t2.2.1).2.2.1, (Go.IntKind.wrap .i64 ((Go.IntKind.wrap .i64 ((Go.IntKind.wrap .i64 (t2.1 + (1 : Int))) + (1 : Int))) + (1 : Int))), (rd_Key l1 t2.2.1).2.2.2.2)) t2.2.1).1, (rd_Key (List.set l1 (Int.toNat t2.2.1) ((rd_Key l1 t2.2.1).1, (rd_Key l1 t2.2.1).2.1, (rd_Key l1 t2.2.1).2.2.1, (Go.IntKind.wrap .i64 ((Go.IntKind.wrap .i64 ((Go.IntKind.wrap .i64 (t2.1 + (1 : Int))) + (1 : Int))) + (1 : Int))), (rd_Key l1 t2.2.1).2.2.2.2)) t2.2.1).2.1, (rd_Key (List.set l1 (Int.toNat t2.2.1) ((rd_Key l1 t2.2.1).1, (rd_Key l1 t2.2.1).2.1, (rd_Key l1 t2.2.1).2.2.1, (Go.IntKind.wrap .i64 ((Go.IntKind.wrap .i64 ((Go.IntKind.wrap .i64 (t2.1 + (1 : Int))) + (1 : Int))) + (1 : Int))), (rd_Key l1 t2.2.1).2.2.2.2)) t2.2.1).2.2.1, (rd_Key (List.set l1 (Int.toNat t2.2.1) ((rd_Key l1 t2.2.1).1, (rd_Key l1 t2.2.1).2.1, (rd_Key l1 t2.2.1).2.2.1, (Go.IntKind.wrap .i64 ((Go.IntKind.wrap .i64 ((Go.IntKind.wrap .i64 (t2.1 + (1 : Int))) + (1 : Int))) + (1 : Int))), (rd_Key l1 t2.2.1).2.2.2.2)) t2.2.1).2.2.2.1, (Go.IntKind.wrap .i64 ((Go.IntKind.wrap .i64 ((Go.IntKind.wrap .i64 ((Go.IntKind.wrap .i64 (t2.1 + (1 : Int))) + (1 : Int))) + (1 : Int))) + (1 : Int))))); again ((Go.IntKind.wrap .i64 ((Go.IntKind.wrap .i64 ((Go.IntKind.wrap .i64 ((Go.IntKind.wrap .i64 ((Go.IntKind.wrap .i64 (t2.1 + (1 : Int))) + (1 : Int))) + (1 : Int))) + (1 : Int))) + (1 : Int))), (Go.IntKind.wrap .i64 (t2.2.1 + (1 : Int))), l2) else none else none else none else none else none else none else none else none else none else none else k0 (t2.1, t2.2.2)
noncomputable def L_laws_markKeyS_2 {R : Type} (k0 : Qz26 → Option R) (t : T_laws_markKeyS_2) : Option R := iter (S_laws_markKeyS_2 k0) FUEL t
noncomputable def F_laws_markKeyS (x : Qz27) : Option Qz26 :=
  L_laws_markKeyS_2 (fun x3 => some (x3.1, x3.2)) (x.2, (0 : Int), x.1)
noncomputable def f254Q : List QF := []
def f254e2_0 (t : Qz25) : St := ⟨.own 10000000 :: vI t.1 :: dd 3 (vI t.2.1 :: dd 42 []), [(10000000, .deep true 1 106 ts_Key t.2.2)]⟩
noncomputable def f254g2 : Gk T_laws_markKeyS_2 := fun κ => S_laws_markKeyS_2 (fun t => κ (some 0) ⟨.own 10000000 :: vI t.1 :: dd 46 [], [(10000000, .deep true 1 106 ts_Key t.2)]⟩)
noncomputable def f254P : Lp := lpC 2 (unG qz25 f254e2_0) @f254g2 lpN
theorem f254C2 : LF f254Q f254P 254 2 Tryz.f254 0 f254e2_0 @f254g2 fun t => t := fun R κ again t => by kernel_rfl
theorem f254k2 : LK f254Q f254P 254 Tryz.f254 0 := loop_okG (u := (unG qz25 f254e2_0)) (by kernel_rfl) (unG_ok fun t => by kernel_rfl) (fun R κ s => by kernel_rfl) f254C2
theorem ev254 : EV f254Q f254P 254 Tryz.f254 sg254 qz27 qz26 F_laws_markKeyS := fun x => by kernel_rfl
noncomputable def q254 : QF := ⟨254, F_laws_markKeyS, okN (n := 1) Tryz.func254 (by kernel_rfl) (by kernel_rfl) ⟨f254k2, trivial⟩ ev254⟩
abbrev T_laws_markKeySS_2 : Type := Qz28
noncomputable def S_laws_markKeySS_2 {R : Type} (k0 : Qz29 → Option R) (again : T_laws_markKeySS_2 → Option R) (t2 : T_laws_markKeySS_2) : Option R :=
  bif (decide (t2.2.1 < ((List.length t2.2.2 : Nat) : Int))) then if (0 : Int) ≤ t2.2.1 then if t2.2.1 < ((List.length t2.2.2 : Nat) : Int) then Option.bind (F_laws_markKeyS ((rd_s_Key t2.2.2 t2.2.1), t2.1)) fun r1 => again (r1.1, (Go.IntKind.wrap .i64 (t2.2.1 + (1 : Int))), (List.set t2.2.2 (Int.toNat t2.2.1) r1.2)) else none else none else k0 (t2.1, t2.2.2)
noncomputable def L_laws_markKeySS_2 {R : Type} (k0 : Qz29 → Option R) (t : T_laws_markKeySS_2) : Option R := iter (S_laws_markKeySS_2 k0) FUEL t
noncomputable def F_laws_markKeySS (x : Qz30) : Option Qz29 :=
  L_laws_markKeySS_2 (fun x2 => some (x2.1, x2.2)) (x.2, (0 : Int), x.1)
noncomputable def f217Q : List QF := [q254]
def f217e2_0 (t : Qz28) : St := ⟨.own 10000000 :: vI t.1 :: dd 3 (vI t.2.1 :: dd 13 []), [(10000000, .deep true 1 100 ts_s_Key t.2.2)]⟩
noncomputable def f217g2 : Gk T_laws_markKeySS_2 := fun κ => S_laws_markKeySS_2 (fun t => κ (some 0) ⟨.own 10000000 :: vI t.1 :: dd 17 [], [(10000000, .deep true 1 100 ts_s_Key t.2)]⟩)
noncomputable def f217P : Lp := lpC 2 (unG qz28 f217e2_0) @f217g2 lpN
theorem f217C2 : LF f217Q f217P 217 2 Tryz.f217 0 f217e2_0 @f217g2 fun t => t := fun R κ again t => by kernel_rfl
theorem f217k2 : LK f217Q f217P 217 Tryz.f217 0 := loop_okG (u := (unG qz28 f217e2_0)) (by kernel_rfl) (unG_ok fun t => by kernel_rfl) (fun R κ s => by kernel_rfl) f217C2
theorem ev217 : EV f217Q f217P 217 Tryz.f217 sg217 qz30 qz29 F_laws_markKeySS := fun x => by kernel_rfl
noncomputable def q217 : QF := ⟨217, F_laws_markKeySS, okN (n := 1) Tryz.func217 (by kernel_rfl) (by kernel_rfl) ⟨f217k2, trivial⟩ ev217⟩
abbrev T_laws_markNodeS_2 : Type := Qz31
noncomputable def S_laws_markNodeS_2 {R : Type} (k0 : Qz32 → Option R) (again : T_laws_markNodeS_2 → Option R) (t2 : T_laws_markNodeS_2) : Option R :=
  bif (decide (t2.2.1 < ((List.length t2.2.2 : Nat) : Int))) then if (0 : Int) ≤ t2.2.1 then if t2.2.1 < ((List.length t2.2.2 : Nat) : Int) then Option.bind (F_laws_markKeySS ((rd_Node t2.2.2 t2.2.1), t2.1)) fun r1 => again (r1.1, (Go.IntKind.wrap .i64 (t2.2.1 + (1 : Int))), (List.set t2.2.2 (Int.toNat t2.2.1) r1.2)) else none else none else k0 (t2.1, t2.2.2)
noncomputable def L_laws_markNodeS_2 {R : Type} (k0 : Qz32 → Option R) (t : T_laws_markNodeS_2) : Option R := iter (S_laws_markNodeS_2 k0) FUEL t
noncomputable def F_laws_markNodeS (x : Qz33) : Option Qz32 :=
  L_laws_markNodeS_2 (fun x2 => some (x2.1, x2.2)) (x.2, (0 : Int), x.1)
noncomputable def f145Q : List QF := [q217]
def f145e2_0 (t : Qz31) : St := ⟨.own 10000000 :: vI t.1 :: dd 3 (vI t.2.1 :: dd 14 []), [(10000000, .deep true 1 98 ts_Node t.2.2)]⟩
noncomputable def f145g2 : Gk T_laws_markNodeS_2 := fun κ => S_laws_markNodeS_2 (fun t => κ (some 0) ⟨.own 10000000 :: vI t.1 :: dd 18 [], [(10000000, .deep true 1 98 ts_Node t.2)]⟩)
noncomputable def f145P : Lp := lpC 2 (unG qz31 f145e2_0) @f145g2 lpN
theorem f145C2 : LF f145Q f145P 145 2 Tryz.f145 0 f145e2_0 @f145g2 fun t => t := fun R κ again t => by kernel_rfl
theorem f145k2 : LK f145Q f145P 145 Tryz.f145 0 := loop_okG (u := (unG qz31 f145e2_0)) (by kernel_rfl) (unG_ok fun t => by kernel_rfl) (fun R κ s => by kernel_rfl) f145C2
theorem ev145 : EV f145Q f145P 145 Tryz.f145 sg145 qz33 qz32 F_laws_markNodeS := fun x => by kernel_rfl
noncomputable def q145 : QF := ⟨145, F_laws_markNodeS, okN (n := 1) Tryz.func145 (by kernel_rfl) (by kernel_rfl) ⟨f145k2, trivial⟩ ev145⟩
noncomputable def F_laws_markTree (x : Qz34) : Option Qz35 :=
  Option.bind (F_laws_markIntS (x.1, x.2.2)) fun r1 => Option.bind (F_laws_markNodeS (x.2.1, r1.1)) fun r2 => some (r2.1, r1.2, r2.2)
theorem ev65 : EV [q144, q145] lpN 65 Tryz.f65 sg65 qz34 qz35 F_laws_markTree := fun x => by kernel_rfl
noncomputable def q65 : QF := ⟨65, F_laws_markTree, okN (n := 0) Tryz.func65 (by kernel_rfl) (by kernel_rfl) trivial ev65⟩
abbrev T_laws_markAgeS_2 : Type := Qz36
noncomputable def S_laws_markAgeS_2 {R : Type} (k0 : Qz37 → Option R) (again : T_laws_markAgeS_2 → Option R) (t2 : T_laws_markAgeS_2) : Option R :=
  bif (decide (t2.2.1 < ((List.length t2.2.2 : Nat) : Int))) then if (0 : Int) ≤ t2.2.1 then if t2.2.1 < ((List.length t2.2.2 : Nat) : Int) then if (0 : Int) ≤ t2.2.1 then if t2.2.1 < ((List.length (List.set t2.2.2 (Int.toNat t2.2.1) (t2.1, (rd_Age t2.2.2 t2.2.1).2)) : Nat) : Int) then again ((Go.IntKind.wrap .i64 ((Go.IntKind.wrap .i64 (t2.1 + (1 : Int))) + (1 : Int))), (Go.IntKind.wrap .i64 (t2.2.1 + (1 : Int))), (List.set (List.set t2.2.2 (Int.toNat t2.2.1) (t2.1, (rd_Age t2.2.2 t2.2.1).2)) (Int.toNat t2.2.1) ((rd_Age (List.set t2.2.2 (Int.toNat t2.2.1) (t2.1, (rd_Age t2.2.2 t2.2.1).2)) t2.2.1).1, (Go.IntKind.wrap .i64 (t2.1 + (1 : Int)))))) else none else none else none else none else k0 (t2.1, t2.2.2)
noncomputable def L_laws_markAgeS_2 {R : Type} (k0 : Qz37 → Option R) (t : T_laws_markAgeS_2) : Option R := iter (S_laws_markAgeS_2 k0) FUEL t
noncomputable def F_laws_markAgeS (x : Qz38) : Option Qz37 :=
  L_laws_markAgeS_2 (fun x1 => some (x1.1, x1.2)) (x.2, (0 : Int), x.1)
noncomputable def f66Q : List QF := []
def f66e2_0 (t : Qz36) : St := ⟨.own 10000000 :: vI t.1 :: dd 3 (vI t.2.1 :: dd 21 []), [(10000000, .deep true 1 89 ts_Age t.2.2)]⟩
noncomputable def f66g2 : Gk T_laws_markAgeS_2 := fun κ => S_laws_markAgeS_2 (fun t => κ (some 0) ⟨.own 10000000 :: vI t.1 :: dd 25 [], [(10000000, .deep true 1 89 ts_Age t.2)]⟩)
noncomputable def f66P : Lp := lpC 2 (unG qz36 f66e2_0) @f66g2 lpN
theorem f66C2 : LF f66Q f66P 66 2 Tryz.f66 0 f66e2_0 @f66g2 fun t => t := fun R κ again t => by kernel_rfl
theorem f66k2 : LK f66Q f66P 66 Tryz.f66 0 := loop_okG (u := (unG qz36 f66e2_0)) (by kernel_rfl) (unG_ok fun t => by kernel_rfl) (fun R κ s => by kernel_rfl) f66C2
theorem ev66 : EV f66Q f66P 66 Tryz.f66 sg66 qz38 qz37 F_laws_markAgeS := fun x => by kernel_rfl
noncomputable def q66 : QF := ⟨66, F_laws_markAgeS, okN (n := 1) Tryz.func66 (by kernel_rfl) (by kernel_rfl) ⟨f66k2, trivial⟩ ev66⟩
abbrev T_laws_markCellS_2 : Type := Qz39
noncomputable def S_laws_markCellS_2 {R : Type} (k0 : Qz40 → Option R) (again : T_laws_markCellS_2 → Option R) (t2 : T_laws_markCellS_2) : Option R :=
  bif (decide (t2.2.1 < ((List.length t2.2.2 : Nat) : Int))) then if (0 : Int) ≤ t2.2.1 then if t2.2.1 < ((List.length t2.2.2 : Nat) : Int) then if (0 : Int) ≤ t2.2.1 then if t2.2.1 < ((List.length (List.set t2.2.2 (Int.toNat t2.2.1) (t2.1, (rd_Cell t2.2.2 t2.2.1).2)) : Nat) : Int) then if (0 : Int) ≤ t2.2.1 then if t2.2.1 < ((List.length (List.set (List.set t2.2.2 (Int.toNat t2.2.1) (t2.1, (rd_Cell t2.2.2 t2.2.1).2)) (Int.toNat t2.2.1) ((rd_Cell (List.set t2.2.2 (Int.toNat t2.2.1) (t2.1, (rd_Cell t2.2.2 t2.2.1).2)) t2.2.1).1, ((Int.tmod (Go.IntKind.wrap .i64 (t2.1 + (1 : Int))) (3 : Int)) == (0 : Int)), (rd_Cell (List.set t2.2.2 (Int.toNat t2.2.1) (t2.1, (rd_Cell t2.2.2 t2.2.1).2)) t2.2.1).2.2)) : Nat) : Int) then let l1 : List E_Cell := (List.set (List.set (List.set t2.2.2 (Int.toNat t2.2.1) (t2.1, (rd_Cell t2.2.2 t2.2.1).2)) (Int.toNat t2.2.1) ((rd_Cell (List.set t2.2.2 (Int.toNat t2.2.1) (t2.1, (rd_Cell t2.2.2 t2.2.1).2)) t2.2.1).1, ((Int.tmod (Go.IntKind.wrap .i64 (t2.1 + (1 : Int))) (3 : Int)) == (0 : Int)), (rd_Cell (List.set t2.2.2 (Int.toNat t2.2.1) (t2.1, (rd_Cell t2.2.2 t2.2.1).2)) t2.2.1).2.2)) (Int.toNat t2.2.1) ((rd_Cell (List.set (List.set t2.2.2 (Int.toNat t2.2.1) (t2.1, (rd_Cell t2.2.2 t2.2.1).2)) (Int.toNat t2.2.1) ((rd_Cell (List.set t2.2.2 (Int.toNat t2.2.1) (t2.1, (rd_Cell t2.2.2 t2.2.1).2)) t2.2.1).1, ((Int.tmod (Go.IntKind.wrap .i64 (t2.1 + (1 : Int))) (3 : Int)) == (0 : Int)), (rd_Cell (List.set t2.2.2 (Int.toNat t2.2.1) (t2.1, (rd_Cell t2.2.2 t2.2.1).2)) t2.2.1).2.2)) t2.2.1).1, (rd_Cell (List.set (List.set t2.2.2 (Int.toNat t2.2.1) (t2.1, (rd_Cell t2.2.2 t2.2.1).2)) (Int.toNat t2.2.1) ((rd_Cell (List.set t2.2.2 (Int.toNat t2.2.1) (t2.1, (rd_Cell t2.2.2 t2.2.1).2)) t2.2.1).1, ((Int.tmod (Go.IntKind.wrap .i64 (t2.1 + (1 : Int))) (3 : Int)) == (0 : Int)), (rd_Cell (List.set t2.2.2 (Int.toNat t2.2.1) (t2.1, (rd_Cell t2.2.2 t2.2.1).2)) t2.2.1).2.2)) t2.2.1).2.1, (Go.IntKind.wrap .i64 ((Go.IntKind.wrap .i64 (t2.1 + (1 : Int))) + (1 : Int))))); again ((Go.IntKind.wrap .i64 ((Go.IntKind.wrap .i64 ((Go.IntKind.wrap .i64 (t2.1 + (1 : Int))) + (1 : Int))) + (1 : Int))), (Go.IntKind.wrap .i64 (t2.2.1 + (1 : Int))), l1) else none else none else none else none else none else none else k0 (t2.1, t2.2.2)
noncomputable def L_laws_markCellS_2 {R : Type} (k0 : Qz40 → Option R) (t : T_laws_markCellS_2) : Option R := iter (S_laws_markCellS_2 k0) FUEL t
noncomputable def F_laws_markCellS (x : Qz41) : Option Qz40 :=
  L_laws_markCellS_2 (fun x2 => some (x2.1, x2.2)) (x.2, (0 : Int), x.1)
noncomputable def f67Q : List QF := []
def f67e2_0 (t : Qz39) : St := ⟨.own 10000000 :: vI t.1 :: dd 3 (vI t.2.1 :: dd 30 []), [(10000000, .deep true 1 95 ts_Cell t.2.2)]⟩
noncomputable def f67g2 : Gk T_laws_markCellS_2 := fun κ => S_laws_markCellS_2 (fun t => κ (some 0) ⟨.own 10000000 :: vI t.1 :: dd 34 [], [(10000000, .deep true 1 95 ts_Cell t.2)]⟩)
noncomputable def f67P : Lp := lpC 2 (unG qz39 f67e2_0) @f67g2 lpN
theorem f67C2 : LF f67Q f67P 67 2 Tryz.f67 0 f67e2_0 @f67g2 fun t => t := fun R κ again t => by kernel_rfl
theorem f67k2 : LK f67Q f67P 67 Tryz.f67 0 := loop_okG (u := (unG qz39 f67e2_0)) (by kernel_rfl) (unG_ok fun t => by kernel_rfl) (fun R κ s => by kernel_rfl) f67C2
theorem ev67 : EV f67Q f67P 67 Tryz.f67 sg67 qz41 qz40 F_laws_markCellS := fun x => by kernel_rfl
noncomputable def q67 : QF := ⟨67, F_laws_markCellS, okN (n := 1) Tryz.func67 (by kernel_rfl) (by kernel_rfl) ⟨f67k2, trivial⟩ ev67⟩
abbrev T_laws_markText_4 : Type := Qz42
noncomputable def S_laws_markText_4 {R : Type} (k0 : ByteArray → Option R) (again : T_laws_markText_4 → Option R) (t4 : T_laws_markText_4) : Option R :=
  bif (decide (t4.1 > (0 : Int))) then if ByteArray.size (textOf ([(Go.IntKind.wrap .u8 (Go.IntKind.wrap .i64 ((48 : Int) + (Int.tmod t4.1 (10 : Int)))))] : List E_u8)) + ByteArray.size t4.2 < 140737488355328 then again ((Go.IntKind.wrap .i64 (Int.tdiv t4.1 (10 : Int))), (show ByteArray from (show ByteArray from (textOf ([(Go.IntKind.wrap .u8 (Go.IntKind.wrap .i64 ((48 : Int) + (Int.tmod t4.1 (10 : Int)))))] : List E_u8))) ++ (show ByteArray from t4.2))) else none else k0 t4.2
noncomputable def L_laws_markText_4 {R : Type} (k0 : ByteArray → Option R) (t : T_laws_markText_4) : Option R := iter (S_laws_markText_4 k0) FUEL t
noncomputable def F_laws_markText (x : Int) : Option ByteArray :=
  bif (decide (x ≤ (0 : Int))) then some ({ data := #[109, 48] }) else L_laws_markText_4 (fun x1 => if ByteArray.size ({ data := #[109] }) + ByteArray.size x1 < 140737488355328 then some (show ByteArray from (show ByteArray from { data := #[109] }) ++ (show ByteArray from x1)) else none) (x, { data := #[] })
noncomputable def f146Q : List QF := []
def f146e4_0 (t : Qz42) : St := ⟨vI t.1 :: dd 2 (vS t.2 :: dd 16 []), []⟩
noncomputable def f146g4 : Gk T_laws_markText_4 := fun κ => S_laws_markText_4 (fun t => κ (some 0) ⟨dd 3 (vS t :: dd 16 []), []⟩)
noncomputable def f146P : Lp := lpC 4 (unG qz42 f146e4_0) @f146g4 lpN
theorem f146C4 : LF f146Q f146P 146 4 Tryz.f146 0 f146e4_0 @f146g4 fun t => t := fun R κ again t => by kernel_rfl
theorem f146k4 : LK f146Q f146P 146 Tryz.f146 0 := loop_okG (u := (unG qz42 f146e4_0)) (by kernel_rfl) (unG_ok fun t => by kernel_rfl) (fun R κ s => by kernel_rfl) f146C4
theorem ev146 : EV f146Q f146P 146 Tryz.f146 sg146 [(.int .i64)] [.str] F_laws_markText := fun x => by kernel_rfl
noncomputable def q146 : QF := ⟨146, F_laws_markText, okN (n := 1) Tryz.func146 (by kernel_rfl) (by kernel_rfl) ⟨f146k4, trivial⟩ ev146⟩
abbrev T_laws_markVolS_2 : Type := Qz43
noncomputable def S_laws_markVolS_2 {R : Type} (k0 : Qz44 → Option R) (again : T_laws_markVolS_2 → Option R) (t2 : T_laws_markVolS_2) : Option R :=
  bif (decide (t2.2.1 < ((List.length t2.2.2 : Nat) : Int))) then Option.bind (F_laws_markText t2.1) fun r1 => if (0 : Int) ≤ t2.2.1 then if t2.2.1 < ((List.length t2.2.2 : Nat) : Int) then if (0 : Int) ≤ t2.2.1 then if t2.2.1 < ((List.length (List.set t2.2.2 (Int.toNat t2.2.1) (r1, (rd_Vol t2.2.2 t2.2.1).2)) : Nat) : Int) then if (0 : Int) ≤ t2.2.1 then if t2.2.1 < ((List.length (List.set (List.set t2.2.2 (Int.toNat t2.2.1) (r1, (rd_Vol t2.2.2 t2.2.1).2)) (Int.toNat t2.2.1) ((rd_Vol (List.set t2.2.2 (Int.toNat t2.2.1) (r1, (rd_Vol t2.2.2 t2.2.1).2)) t2.2.1).1, (Go.IntKind.wrap .i64 (t2.1 + (1 : Int))), (rd_Vol (List.set t2.2.2 (Int.toNat t2.2.1) (r1, (rd_Vol t2.2.2 t2.2.1).2)) t2.2.1).2.2)) : Nat) : Int) then let l2 : List E_Vol := (List.set (List.set (List.set t2.2.2 (Int.toNat t2.2.1) (r1, (rd_Vol t2.2.2 t2.2.1).2)) (Int.toNat t2.2.1) ((rd_Vol (List.set t2.2.2 (Int.toNat t2.2.1) (r1, (rd_Vol t2.2.2 t2.2.1).2)) t2.2.1).1, (Go.IntKind.wrap .i64 (t2.1 + (1 : Int))), (rd_Vol (List.set t2.2.2 (Int.toNat t2.2.1) (r1, (rd_Vol t2.2.2 t2.2.1).2)) t2.2.1).2.2)) (Int.toNat t2.2.1) ((rd_Vol (List.set (List.set t2.2.2 (Int.toNat t2.2.1) (r1, (rd_Vol t2.2.2 t2.2.1).2)) (Int.toNat t2.2.1) ((rd_Vol (List.set t2.2.2 (Int.toNat t2.2.1) (r1, (rd_Vol t2.2.2 t2.2.1).2)) t2.2.1).1, (Go.IntKind.wrap .i64 (t2.1 + (1 : Int))), (rd_Vol (List.set t2.2.2 (Int.toNat t2.2.1) (r1, (rd_Vol t2.2.2 t2.2.1).2)) t2.2.1).2.2)) t2.2.1).1, (rd_Vol (List.set (List.set t2.2.2 (Int.toNat t2.2.1) (r1, (rd_Vol t2.2.2 t2.2.1).2)) (Int.toNat t2.2.1) ((rd_Vol (List.set t2.2.2 (Int.toNat t2.2.1) (r1, (rd_Vol t2.2.2 t2.2.1).2)) t2.2.1).1, (Go.IntKind.wrap .i64 (t2.1 + (1 : Int))), (rd_Vol (List.set t2.2.2 (Int.toNat t2.2.1) (r1, (rd_Vol t2.2.2 t2.2.1).2)) t2.2.1).2.2)) t2.2.1).2.1, (Go.IntKind.wrap .i64 ((Go.IntKind.wrap .i64 (t2.1 + (1 : Int))) + (1 : Int))), (rd_Vol (List.set (List.set t2.2.2 (Int.toNat t2.2.1) (r1, (rd_Vol t2.2.2 t2.2.1).2)) (Int.toNat t2.2.1) ((rd_Vol (List.set t2.2.2 (Int.toNat t2.2.1) (r1, (rd_Vol t2.2.2 t2.2.1).2)) t2.2.1).1, (Go.IntKind.wrap .i64 (t2.1 + (1 : Int))), (rd_Vol (List.set t2.2.2 (Int.toNat t2.2.1) (r1, (rd_Vol t2.2.2 t2.2.1).2)) t2.2.1).2.2)) t2.2.1).2.2.2)); if (0 : Int) ≤ t2.2.1 then if t2.2.1 < ((List.length l2 : Nat) : Int) then again ((Go.IntKind.wrap .i64 ((Go.IntKind.wrap .i64 ((Go.IntKind.wrap .i64 ((Go.IntKind.wrap .i64 (t2.1 + (1 : Int))) + (1 : Int))) + (1 : Int))) + (1 : Int))), (Go.IntKind.wrap .i64 (t2.2.1 + (1 : Int))), (List.set l2 (Int.toNat t2.2.1) ((rd_Vol l2 t2.2.1).1, (rd_Vol l2 t2.2.1).2.1, (rd_Vol l2 t2.2.1).2.2.1, ((Int.tmod (Go.IntKind.wrap .i64 ((Go.IntKind.wrap .i64 ((Go.IntKind.wrap .i64 (t2.1 + (1 : Int))) + (1 : Int))) + (1 : Int))) (3 : Int)) == (0 : Int))))) else none else none else none else none else none else none else none else none else k0 (t2.1, t2.2.2)
noncomputable def L_laws_markVolS_2 {R : Type} (k0 : Qz44 → Option R) (t : T_laws_markVolS_2) : Option R := iter (S_laws_markVolS_2 k0) FUEL t
noncomputable def F_laws_markVolS (x : Qz45) : Option Qz44 :=
  L_laws_markVolS_2 (fun x3 => some (x3.1, x3.2)) (x.2, (0 : Int), x.1)
noncomputable def f68Q : List QF := [q146]
def f68e2_0 (t : Qz43) : St := ⟨.own 10000000 :: vI t.1 :: dd 3 (vI t.2.1 :: dd 38 []), [(10000000, .deep true 1 91 ts_Vol t.2.2)]⟩
noncomputable def f68g2 : Gk T_laws_markVolS_2 := fun κ => S_laws_markVolS_2 (fun t => κ (some 0) ⟨.own 10000000 :: vI t.1 :: dd 42 [], [(10000000, .deep true 1 91 ts_Vol t.2)]⟩)
noncomputable def f68P : Lp := lpC 2 (unG qz43 f68e2_0) @f68g2 lpN
theorem f68C2 : LF f68Q f68P 68 2 Tryz.f68 0 f68e2_0 @f68g2 fun t => t := fun R κ again t => by kernel_rfl
theorem f68k2 : LK f68Q f68P 68 Tryz.f68 0 := loop_okG (u := (unG qz43 f68e2_0)) (by kernel_rfl) (unG_ok fun t => by kernel_rfl) (fun R κ s => by kernel_rfl) f68C2
theorem ev68 : EV f68Q f68P 68 Tryz.f68 sg68 qz45 qz44 F_laws_markVolS := fun x => by kernel_rfl
noncomputable def q68 : QF := ⟨68, F_laws_markVolS, okN (n := 1) Tryz.func68 (by kernel_rfl) (by kernel_rfl) ⟨f68k2, trivial⟩ ev68⟩
noncomputable def F_laws_markPool (x : Qz46) : Option Qz47 :=
  Option.bind (F_laws_markTree (x.1, x.2.1, x.2.2.2.2.2.2)) fun r1 => Option.bind (F_laws_markAgeS (x.2.2.1, r1.1)) fun r2 => Option.bind (F_laws_markCellS (x.2.2.2.1, r2.1)) fun r3 => Option.bind (F_laws_markVolS (x.2.2.2.2.1, r3.1)) fun r4 => some (r4.1, r1.2.1, r1.2.2, r2.2, r3.2, r4.2)
theorem ev16 : EV [q65, q66, q67, q68] lpN 16 Tryz.f16 sg16 qz46 qz47 F_laws_markPool := fun x => by kernel_rfl
noncomputable def q16 : QF := ⟨16, F_laws_markPool, okN (n := 0) Tryz.func16 (by kernel_rfl) (by kernel_rfl) trivial ev16⟩
abbrev T_laws_markByteS_2 : Type := Qz48
noncomputable def S_laws_markByteS_2 {R : Type} (k0 : Qz49 → Option R) (again : T_laws_markByteS_2 → Option R) (t2 : T_laws_markByteS_2) : Option R :=
  bif (decide (t2.2.1 < ((List.length t2.2.2 : Nat) : Int))) then if (0 : Int) ≤ t2.2.1 then if t2.2.1 < ((List.length t2.2.2 : Nat) : Int) then again ((Go.IntKind.wrap .i64 (t2.1 + (1 : Int))), (Go.IntKind.wrap .i64 (t2.2.1 + (1 : Int))), (List.set t2.2.2 (Int.toNat t2.2.1) (Go.IntKind.wrap .u8 t2.1))) else none else none else k0 (t2.1, t2.2.2)
noncomputable def L_laws_markByteS_2 {R : Type} (k0 : Qz49 → Option R) (t : T_laws_markByteS_2) : Option R := iter (S_laws_markByteS_2 k0) FUEL t
noncomputable def F_laws_markByteS (x : Qz50) : Option Qz49 :=
  L_laws_markByteS_2 (fun x1 => some (x1.1, x1.2)) (x.2, (0 : Int), x.1)
noncomputable def f17Q : List QF := []
def f17e2_0 (t : Qz48) : St := ⟨.own 10000000 :: vI t.1 :: dd 3 (vI t.2.1 :: dd 14 []), [(10000000, .deep true 1 5 ts_u8 t.2.2)]⟩
noncomputable def f17g2 : Gk T_laws_markByteS_2 := fun κ => S_laws_markByteS_2 (fun t => κ (some 0) ⟨.own 10000000 :: vI t.1 :: dd 18 [], [(10000000, .deep true 1 5 ts_u8 t.2)]⟩)
noncomputable def f17P : Lp := lpC 2 (unG qz48 f17e2_0) @f17g2 lpN
theorem f17C2 : LF f17Q f17P 17 2 Tryz.f17 0 f17e2_0 @f17g2 fun t => t := fun R κ again t => by kernel_rfl
theorem f17k2 : LK f17Q f17P 17 Tryz.f17 0 := loop_okG (u := (unG qz48 f17e2_0)) (by kernel_rfl) (unG_ok fun t => by kernel_rfl) (fun R κ s => by kernel_rfl) f17C2
theorem ev17 : EV f17Q f17P 17 Tryz.f17 sg17 qz50 qz49 F_laws_markByteS := fun x => by kernel_rfl
noncomputable def q17 : QF := ⟨17, F_laws_markByteS, okN (n := 1) Tryz.func17 (by kernel_rfl) (by kernel_rfl) ⟨f17k2, trivial⟩ ev17⟩
noncomputable def F_spec_l1In (x : Qz51) : Option Bool :=
  Option.bind (bif (decide (x.1 ≥ x.2.1)) then some (decide (x.1 ≤ x.2.2)) else some false) fun u1 => some u1
theorem ev107 : EV [] lpN 107 Tryz.f107 sg107 qz51 [.bool] F_spec_l1In := fun x => by kernel_rfl
noncomputable def q107 : QF := ⟨107, F_spec_l1In, okN (n := 0) Tryz.func107 (by kernel_rfl) (by kernel_rfl) trivial ev107⟩
abbrev T_spec_Drop_3 : Type := Qz52
noncomputable def S_spec_Drop_3 {R : Type} (k0 : List E_Key → Option R) (again : T_spec_Drop_3 → Option R) (t3 : T_spec_Drop_3) : Option R :=
  bif (decide (t3.2.1 < ((List.length t3.1 : Nat) : Int))) then if (0 : Int) ≤ t3.2.1 then if t3.2.1 < ((List.length t3.1 : Nat) : Int) then bif ((rd_Key t3.1 t3.2.1).2.2.1 != (0 : Int)) then if (0 : Int) ≤ t3.2.1 then if t3.2.1 < ((List.length t3.1 : Nat) : Int) then if (List.length t3.2.2 + List.length ([((rd_Key t3.1 t3.2.1).1, (rd_Key t3.1 t3.2.1).2.1, (rd_Key t3.1 t3.2.1).2.2.1, (rd_Key t3.1 t3.2.1).2.2.2.1, (rd_Key t3.1 t3.2.1).2.2.2.2)] : List E_Key)) * 40 < 140737488355328 then again (t3.1, (Go.IntKind.wrap .i64 (t3.2.1 + (1 : Int))), (t3.2.2 ++ ([((rd_Key t3.1 t3.2.1).1, (rd_Key t3.1 t3.2.1).2.1, (rd_Key t3.1 t3.2.1).2.2.1, (rd_Key t3.1 t3.2.1).2.2.2.1, (rd_Key t3.1 t3.2.1).2.2.2.2)] : List E_Key))) else none else none else none else again (t3.1, (Go.IntKind.wrap .i64 (t3.2.1 + (1 : Int))), t3.2.2) else none else none else k0 t3.2.2
noncomputable def L_spec_Drop_3 {R : Type} (k0 : List E_Key → Option R) (t : T_spec_Drop_3) : Option R := iter (S_spec_Drop_3 k0) FUEL t
noncomputable def F_spec_Drop (x : List E_Key) : Option (List E_Key) :=
  L_spec_Drop_3 (fun x1 => some x1) (x, (0 : Int), ([] : List E_Key))
noncomputable def f235Q : List QF := []
def f235e3_0 (t : Qz52) : St := ⟨v_Key t.1 :: dd 2 (.own 10000000 :: vI t.2.1 :: dd 21 []), [(10000000, .root true 106 ts_Key t.2.2)]⟩
noncomputable def f235g3 : Gk T_spec_Drop_3 := fun κ => S_spec_Drop_3 (fun t => κ (some 0) ⟨dd 3 (.own 10000000 :: dd 22 []), [(10000000, .root true 106 ts_Key t)]⟩)
noncomputable def f235P : Lp := lpC 3 (unG qz52 f235e3_0) @f235g3 lpN
theorem f235C3 : LF f235Q f235P 235 3 Tryz.f235 0 f235e3_0 @f235g3 fun t => t := fun R κ again t => by kernel_rfl
theorem f235k3 : LK f235Q f235P 235 Tryz.f235 0 := loop_okG (u := (unG qz52 f235e3_0)) (by kernel_rfl) (unG_ok fun t => by kernel_rfl) (fun R κ s => by kernel_rfl) f235C3
theorem ev235 : EV f235Q f235P 235 Tryz.f235 sg235 [(.sl 106 ts_Key)] [(.sl 106 ts_Key)] F_spec_Drop := fun x => by kernel_rfl
noncomputable def q235 : QF := ⟨235, F_spec_Drop, okN (n := 1) Tryz.func235 (by kernel_rfl) (by kernel_rfl) ⟨f235k3, trivial⟩ ev235⟩
noncomputable def F_spec_LessKey (x : Qz4) : Option Bool :=
  bif (x.1 != x.2.2.2.2.2.1) then some (decide (x.1 < x.2.2.2.2.2.1)) else some (decide (x.2.1 < x.2.2.2.2.2.2.1))
theorem ev266 : EV [] lpN 266 Tryz.f266 sg266 qz4 [.bool] F_spec_LessKey := fun x => by kernel_rfl
noncomputable def q266 : QF := ⟨266, F_spec_LessKey, okN (n := 0) Tryz.func266 (by kernel_rfl) (by kernel_rfl) trivial ev266⟩
noncomputable def F_spec_SameSpot (x : Qz4) : Option Bool :=
  Option.bind (bif (x.1 == x.2.2.2.2.2.1) then some (x.2.1 == x.2.2.2.2.2.2.1) else some false) fun u1 => some u1
theorem ev267 : EV [] lpN 267 Tryz.f267 sg267 qz4 [.bool] F_spec_SameSpot := fun x => by kernel_rfl
noncomputable def q267 : QF := ⟨267, F_spec_SameSpot, okN (n := 0) Tryz.func267 (by kernel_rfl) (by kernel_rfl) trivial ev267⟩
abbrev T_spec_SetPut_4 : Type := Qz53
noncomputable def S_spec_SetPut_4 {R : Type} (k0 : Qz54 → Option R) (again : T_spec_SetPut_4 → Option R) (t4 : T_spec_SetPut_4) : Option R :=
  bif (decide (t4.2.2.1 < ((List.length t4.1 : Nat) : Int))) then Option.bind (bif (!t4.2.1) then if (0 : Int) ≤ t4.2.2.1 then if t4.2.2.1 < ((List.length t4.1 : Nat) : Int) then Option.bind (F_spec_LessKey ((rd_Key t4.1 t4.2.2.1).1, (rd_Key t4.1 t4.2.2.1).2.1, (rd_Key t4.1 t4.2.2.1).2.2.1, (rd_Key t4.1 t4.2.2.1).2.2.2.1, (rd_Key t4.1 t4.2.2.1).2.2.2.2, t4.2.2.2.1, t4.2.2.2.2.1, t4.2.2.2.2.2.1, t4.2.2.2.2.2.2.1, t4.2.2.2.2.2.2.2.1)) fun r2 => some (!r2) else none else none else some false) fun u1 => bif u1 then if (List.length t4.2.2.2.2.2.2.2.2 + List.length ([(t4.2.2.2.1, t4.2.2.2.2.1, t4.2.2.2.2.2.1, t4.2.2.2.2.2.2.1, t4.2.2.2.2.2.2.2.1)] : List E_Key)) * 40 < 140737488355328 then if (0 : Int) ≤ t4.2.2.1 then if t4.2.2.1 < ((List.length t4.1 : Nat) : Int) then Option.bind (F_spec_SameSpot ((rd_Key t4.1 t4.2.2.1).1, (rd_Key t4.1 t4.2.2.1).2.1, (rd_Key t4.1 t4.2.2.1).2.2.1, (rd_Key t4.1 t4.2.2.1).2.2.2.1, (rd_Key t4.1 t4.2.2.1).2.2.2.2, t4.2.2.2.1, t4.2.2.2.2.1, t4.2.2.2.2.2.1, t4.2.2.2.2.2.2.1, t4.2.2.2.2.2.2.2.1)) fun r3 => bif (!r3) then if (0 : Int) ≤ t4.2.2.1 then if t4.2.2.1 < ((List.length t4.1 : Nat) : Int) then if (List.length (t4.2.2.2.2.2.2.2.2 ++ ([(t4.2.2.2.1, t4.2.2.2.2.1, t4.2.2.2.2.2.1, t4.2.2.2.2.2.2.1, t4.2.2.2.2.2.2.2.1)] : List E_Key)) + List.length ([((rd_Key t4.1 t4.2.2.1).1, (rd_Key t4.1 t4.2.2.1).2.1, (rd_Key t4.1 t4.2.2.1).2.2.1, (rd_Key t4.1 t4.2.2.1).2.2.2.1, (rd_Key t4.1 t4.2.2.1).2.2.2.2)] : List E_Key)) * 40 < 140737488355328 then again (t4.1, true, (Go.IntKind.wrap .i64 (t4.2.2.1 + (1 : Int))), t4.2.2.2.1, t4.2.2.2.2.1, t4.2.2.2.2.2.1, t4.2.2.2.2.2.2.1, t4.2.2.2.2.2.2.2.1, ((t4.2.2.2.2.2.2.2.2 ++ ([(t4.2.2.2.1, t4.2.2.2.2.1, t4.2.2.2.2.2.1, t4.2.2.2.2.2.2.1, t4.2.2.2.2.2.2.2.1)] : List E_Key)) ++ ([((rd_Key t4.1 t4.2.2.1).1, (rd_Key t4.1 t4.2.2.1).2.1, (rd_Key t4.1 t4.2.2.1).2.2.1, (rd_Key t4.1 t4.2.2.1).2.2.2.1, (rd_Key t4.1 t4.2.2.1).2.2.2.2)] : List E_Key))) else none else none else none else again (t4.1, true, (Go.IntKind.wrap .i64 (t4.2.2.1 + (1 : Int))), t4.2.2.2.1, t4.2.2.2.2.1, t4.2.2.2.2.2.1, t4.2.2.2.2.2.2.1, t4.2.2.2.2.2.2.2.1, (t4.2.2.2.2.2.2.2.2 ++ ([(t4.2.2.2.1, t4.2.2.2.2.1, t4.2.2.2.2.2.1, t4.2.2.2.2.2.2.1, t4.2.2.2.2.2.2.2.1)] : List E_Key))) else none else none else none else if (0 : Int) ≤ t4.2.2.1 then if t4.2.2.1 < ((List.length t4.1 : Nat) : Int) then Option.bind (F_spec_SameSpot ((rd_Key t4.1 t4.2.2.1).1, (rd_Key t4.1 t4.2.2.1).2.1, (rd_Key t4.1 t4.2.2.1).2.2.1, (rd_Key t4.1 t4.2.2.1).2.2.2.1, (rd_Key t4.1 t4.2.2.1).2.2.2.2, t4.2.2.2.1, t4.2.2.2.2.1, t4.2.2.2.2.2.1, t4.2.2.2.2.2.2.1, t4.2.2.2.2.2.2.2.1)) fun r4 => bif (!r4) then if (0 : Int) ≤ t4.2.2.1 then if t4.2.2.1 < ((List.length t4.1 : Nat) : Int) then if (List.length t4.2.2.2.2.2.2.2.2 + List.length ([((rd_Key t4.1 t4.2.2.1).1, (rd_Key t4.1 t4.2.2.1).2.1, (rd_Key t4.1 t4.2.2.1).2.2.1, (rd_Key t4.1 t4.2.2.1).2.2.2.1, (rd_Key t4.1 t4.2.2.1).2.2.2.2)] : List E_Key)) * 40 < 140737488355328 then again (t4.1, t4.2.1, (Go.IntKind.wrap .i64 (t4.2.2.1 + (1 : Int))), t4.2.2.2.1, t4.2.2.2.2.1, t4.2.2.2.2.2.1, t4.2.2.2.2.2.2.1, t4.2.2.2.2.2.2.2.1, (t4.2.2.2.2.2.2.2.2 ++ ([((rd_Key t4.1 t4.2.2.1).1, (rd_Key t4.1 t4.2.2.1).2.1, (rd_Key t4.1 t4.2.2.1).2.2.1, (rd_Key t4.1 t4.2.2.1).2.2.2.1, (rd_Key t4.1 t4.2.2.1).2.2.2.2)] : List E_Key))) else none else none else none else again (t4.1, t4.2.1, (Go.IntKind.wrap .i64 (t4.2.2.1 + (1 : Int))), t4.2.2.2.1, t4.2.2.2.2.1, t4.2.2.2.2.2.1, t4.2.2.2.2.2.2.1, t4.2.2.2.2.2.2.2.1, t4.2.2.2.2.2.2.2.2) else none else none else k0 (t4.2.1, t4.2.2.2.1, t4.2.2.2.2.1, t4.2.2.2.2.2.1, t4.2.2.2.2.2.2.1, t4.2.2.2.2.2.2.2.1, t4.2.2.2.2.2.2.2.2)
noncomputable def L_spec_SetPut_4 {R : Type} (k0 : Qz54 → Option R) (t : T_spec_SetPut_4) : Option R := iter (S_spec_SetPut_4 k0) FUEL t
noncomputable def F_spec_SetPut (x : Qz55) : Option (List E_Key) :=
  L_spec_SetPut_4 (fun x5 => bif (!x5.1) then if (List.length x5.2.2.2.2.2.2 + List.length ([(x5.2.1, x5.2.2.1, x5.2.2.2.1, x5.2.2.2.2.1, x5.2.2.2.2.2.1)] : List E_Key)) * 40 < 140737488355328 then some (x5.2.2.2.2.2.2 ++ ([(x5.2.1, x5.2.2.1, x5.2.2.2.1, x5.2.2.2.2.1, x5.2.2.2.2.2.1)] : List E_Key)) else none else some x5.2.2.2.2.2.2) (x.1, false, (0 : Int), x.2.1, x.2.2.1, x.2.2.2.1, x.2.2.2.2.1, x.2.2.2.2.2, ([] : List E_Key))
noncomputable def f236Q : List QF := [q266, q267]
def f236e4_0 (t : Qz53) : St := ⟨v_Key t.1 :: dd 2 (.box 3 0 :: .dead :: .own 10000000 :: vB t.2.1 :: vI t.2.2.1 :: dd 43 []), [(3, .box [vI t.2.2.2.1, vI t.2.2.2.2.1, vI t.2.2.2.2.2.1, vI t.2.2.2.2.2.2.1, vI t.2.2.2.2.2.2.2.1]), (10000000, .root true 106 ts_Key t.2.2.2.2.2.2.2.2)]⟩
noncomputable def f236g4 : Gk T_spec_SetPut_4 := fun κ => S_spec_SetPut_4 (fun t => κ (some 0) ⟨dd 3 (.box 3 0 :: .dead :: .own 10000000 :: vB t.1 :: dd 44 []), [(3, .box [vI t.2.1, vI t.2.2.1, vI t.2.2.2.1, vI t.2.2.2.2.1, vI t.2.2.2.2.2.1]), (10000000, .root true 106 ts_Key t.2.2.2.2.2.2)]⟩)
noncomputable def f236P : Lp := lpC 4 (unG qz53 f236e4_0) @f236g4 lpN
theorem f236C4 : LF f236Q f236P 236 4 Tryz.f236 0 f236e4_0 @f236g4 fun t => t := fun R κ again t => by kernel_rfl
theorem f236k4 : LK f236Q f236P 236 Tryz.f236 0 := loop_okG (u := (unG qz53 f236e4_0)) (by kernel_rfl) (unG_ok fun t => by kernel_rfl) (fun R κ s => by kernel_rfl) f236C4
theorem ev236 : EV f236Q f236P 236 Tryz.f236 sg236 qz55 [(.sl 106 ts_Key)] F_spec_SetPut := fun x => by kernel_rfl
noncomputable def q236 : QF := ⟨236, F_spec_SetPut, okN (n := 1) Tryz.func236 (by kernel_rfl) (by kernel_rfl) ⟨f236k4, trivial⟩ ev236⟩
abbrev T_spec_MergeSets_3 : Type := Qz52
noncomputable def S_spec_MergeSets_3 {R : Type} (k0 : List E_Key → Option R) (again : T_spec_MergeSets_3 → Option R) (t3 : T_spec_MergeSets_3) : Option R :=
  bif (decide (t3.2.1 < ((List.length t3.1 : Nat) : Int))) then if (0 : Int) ≤ t3.2.1 then if t3.2.1 < ((List.length t3.1 : Nat) : Int) then Option.bind (F_spec_SetPut (t3.2.2, (rd_Key t3.1 t3.2.1).1, (rd_Key t3.1 t3.2.1).2.1, (rd_Key t3.1 t3.2.1).2.2.1, (rd_Key t3.1 t3.2.1).2.2.2.1, (rd_Key t3.1 t3.2.1).2.2.2.2)) fun r1 => again (t3.1, (Go.IntKind.wrap .i64 (t3.2.1 + (1 : Int))), r1) else none else none else k0 t3.2.2
noncomputable def L_spec_MergeSets_3 {R : Type} (k0 : List E_Key → Option R) (t : T_spec_MergeSets_3) : Option R := iter (S_spec_MergeSets_3 k0) FUEL t
noncomputable def F_spec_MergeSets (x : Qz6) : Option (List E_Key) :=
  if (List.length ([] : List E_Key) + List.length x.1) * 40 < 140737488355328 then L_spec_MergeSets_3 (fun x2 => some x2) (x.2, (0 : Int), (([] : List E_Key) ++ x.1)) else none
noncomputable def f261Q : List QF := [q236]
def f261e3_0 (t : Qz52) : St := ⟨.dead :: v_Key t.1 :: dd 3 (.own 10000000 :: vI t.2.1 :: dd 16 []), [(10000000, .root true 106 ts_Key t.2.2)]⟩
noncomputable def f261g3 : Gk T_spec_MergeSets_3 := fun κ => S_spec_MergeSets_3 (fun t => κ (some 0) ⟨dd 5 (.own 10000000 :: dd 17 []), [(10000000, .root true 106 ts_Key t)]⟩)
noncomputable def f261P : Lp := lpC 3 (unG qz52 f261e3_0) @f261g3 lpN
theorem f261C3 : LF f261Q f261P 261 3 Tryz.f261 0 f261e3_0 @f261g3 fun t => t := fun R κ again t => by kernel_rfl
theorem f261k3 : LK f261Q f261P 261 Tryz.f261 0 := loop_okG (u := (unG qz52 f261e3_0)) (by kernel_rfl) (unG_ok fun t => by kernel_rfl) (fun R κ s => by kernel_rfl) f261C3
theorem ev261 : EV f261Q f261P 261 Tryz.f261 sg261 qz6 [(.sl 106 ts_Key)] F_spec_MergeSets := fun x => by kernel_rfl
noncomputable def q261 : QF := ⟨261, F_spec_MergeSets, okN (n := 1) Tryz.func261 (by kernel_rfl) (by kernel_rfl) ⟨f261k3, trivial⟩ ev261⟩
abbrev T_spec_NodeKeys_3 : Type := Qz56
noncomputable def S_spec_NodeKeys_3 {R : Type} (k0 : List E_Key → Option R) (again : T_spec_NodeKeys_3 → Option R) (t3 : T_spec_NodeKeys_3) : Option R :=
  bif (decide (t3.1 < ((List.length t3.2.1 : Nat) : Int))) then if (0 : Int) ≤ t3.1 then if t3.1 < ((List.length t3.2.1 : Nat) : Int) then Option.bind (F_spec_MergeSets (t3.2.2, (rd_s_Key t3.2.1 t3.1))) fun r1 => again ((Go.IntKind.wrap .i64 (t3.1 + (1 : Int))), t3.2.1, r1) else none else none else k0 t3.2.2
noncomputable def L_spec_NodeKeys_3 {R : Type} (k0 : List E_Key → Option R) (t : T_spec_NodeKeys_3) : Option R := iter (S_spec_NodeKeys_3 k0) FUEL t
noncomputable def F_spec_NodeKeys (x : List E_s_Key) : Option (List E_Key) :=
  L_spec_NodeKeys_3 (fun x2 => Option.bind (F_spec_Drop x2) fun r3 => some r3) ((0 : Int), x, ([] : List E_Key))
noncomputable def f230Q : List QF := [q235, q261]
def f230e3_0 (t : Qz56) : St := ⟨.dead :: .box 1 0 :: .dead :: .own 10000000 :: vI t.1 :: dd 17 [], [(1, .box [v_s_Key t.2.1]), (10000000, .root true 106 ts_Key t.2.2)]⟩
noncomputable def f230g3 : Gk T_spec_NodeKeys_3 := fun κ => S_spec_NodeKeys_3 (fun t => κ (some 0) ⟨dd 3 (.own 10000000 :: dd 18 []), [(10000000, .root true 106 ts_Key t)]⟩)
noncomputable def f230P : Lp := lpC 3 (unG qz56 f230e3_0) @f230g3 lpN
theorem f230C3 : LF f230Q f230P 230 3 Tryz.f230 0 f230e3_0 @f230g3 fun t => t := fun R κ again t => by kernel_rfl
theorem f230k3 : LK f230Q f230P 230 Tryz.f230 0 := loop_okG (u := (unG qz56 f230e3_0)) (by kernel_rfl) (unG_ok fun t => by kernel_rfl) (fun R κ s => by kernel_rfl) f230C3
theorem ev230 : EV f230Q f230P 230 Tryz.f230 sg230 [(.sl 100 ts_s_Key)] [(.sl 106 ts_Key)] F_spec_NodeKeys := fun x => by kernel_rfl
noncomputable def q230 : QF := ⟨230, F_spec_NodeKeys, okN (n := 1) Tryz.func230 (by kernel_rfl) (by kernel_rfl) ⟨f230k3, trivial⟩ ev230⟩
abbrev T_spec_TreeKeys_3 : Type := Qz57
noncomputable def S_spec_TreeKeys_3 {R : Type} (k0 : List E_Key → Option R) (again : T_spec_TreeKeys_3 → Option R) (t3 : T_spec_TreeKeys_3) : Option R :=
  bif (decide (t3.1 < ((List.length t3.2.2.1 : Nat) : Int))) then if (0 : Int) ≤ t3.1 then if t3.1 < ((List.length t3.2.2.1 : Nat) : Int) then Option.bind (F_spec_NodeKeys (rd_Node t3.2.2.1 t3.1)) fun r1 => if (List.length t3.2.2.2 + List.length r1) * 40 < 140737488355328 then again ((Go.IntKind.wrap .i64 (t3.1 + (1 : Int))), t3.2.1, t3.2.2.1, (t3.2.2.2 ++ r1)) else none else none else none else k0 t3.2.2.2
noncomputable def L_spec_TreeKeys_3 {R : Type} (k0 : List E_Key → Option R) (t : T_spec_TreeKeys_3) : Option R := iter (S_spec_TreeKeys_3 k0) FUEL t
noncomputable def F_spec_TreeKeys (x : Qz58) : Option (List E_Key) :=
  L_spec_TreeKeys_3 (fun x2 => some x2) ((0 : Int), x.1, x.2, ([] : List E_Key))
noncomputable def f188Q : List QF := [q230]
def f188e3_0 (t : Qz57) : St := ⟨.dead :: .box 1 0 :: .dead :: .own 10000000 :: vI t.1 :: dd 17 [], [(1, .box [v_i64 t.2.1, v_Node t.2.2.1]), (10000000, .root true 106 ts_Key t.2.2.2)]⟩
noncomputable def f188g3 : Gk T_spec_TreeKeys_3 := fun κ => S_spec_TreeKeys_3 (fun t => κ (some 0) ⟨dd 3 (.own 10000000 :: dd 18 []), [(10000000, .root true 106 ts_Key t)]⟩)
noncomputable def f188P : Lp := lpC 3 (unG qz57 f188e3_0) @f188g3 lpN
theorem f188C3 : LF f188Q f188P 188 3 Tryz.f188 0 f188e3_0 @f188g3 fun t => t := fun R κ again t => by kernel_rfl
theorem f188k3 : LK f188Q f188P 188 Tryz.f188 0 := loop_okG (u := (unG qz57 f188e3_0)) (by kernel_rfl) (unG_ok fun t => by kernel_rfl) (fun R κ s => by kernel_rfl) f188C3
theorem ev188 : EV f188Q f188P 188 Tryz.f188 sg188 qz58 [(.sl 106 ts_Key)] F_spec_TreeKeys := fun x => by kernel_rfl
noncomputable def q188 : QF := ⟨188, F_spec_TreeKeys, okN (n := 1) Tryz.func188 (by kernel_rfl) (by kernel_rfl) ⟨f188k3, trivial⟩ ev188⟩
noncomputable def F_spec_SpotOf (x : Qz59) : Option Int :=
  some (Go.IntKind.wrap .i64 ((Go.IntKind.wrap .i64 ((64 : Int) * x.1)) + x.2))
theorem ev264 : EV [] lpN 264 Tryz.f264 sg264 qz59 [(.int .i64)] F_spec_SpotOf := fun x => by kernel_rfl
noncomputable def q264 : QF := ⟨264, F_spec_SpotOf, okN (n := 0) Tryz.func264 (by kernel_rfl) (by kernel_rfl) trivial ev264⟩
noncomputable def F_spec_l6Spot (x : Qz60) : Option Int :=
  Option.bind (F_spec_SpotOf (x.1, x.2.1)) fun r1 => some r1
theorem ev237 : EV [q264] lpN 237 Tryz.f237 sg237 qz60 [(.int .i64)] F_spec_l6Spot := fun x => by kernel_rfl
noncomputable def q237 : QF := ⟨237, F_spec_l6Spot, okN (n := 0) Tryz.func237 (by kernel_rfl) (by kernel_rfl) trivial ev237⟩
noncomputable def F_spec_KeyOk (x : Qz60) : Option Bool :=
  Option.bind (F_spec_l1In (x.1, (0 : Int), (15 : Int))) fun r1 => Option.bind (bif (!r1) then some true else Option.bind (F_spec_l1In (x.2.1, (1 : Int), (60 : Int))) fun r3 => some (!r3)) fun u2 => Option.bind (bif u2 then some true else Option.bind (F_spec_l1In (x.2.2.1, (0 : Int), (2 : Int))) fun r5 => some (!r5)) fun u4 => bif u4 then some false else bif (x.2.2.1 == (1 : Int)) then Option.bind (F_spec_l1In (x.2.2.2.1, (0 : Int), (23 : Int))) fun r6 => Option.bind (bif r6 then Option.bind (F_spec_l1In (x.2.2.2.2, (0 : Int), (999 : Int))) fun r8 => some r8 else some false) fun u7 => some u7 else Option.bind (bif (x.2.2.2.1 == (0 : Int)) then some (x.2.2.2.2 == (0 : Int)) else some false) fun u9 => some u9
theorem ev202 : EV [q107] lpN 202 Tryz.f202 sg202 qz60 [.bool] F_spec_KeyOk := fun x => by kernel_rfl
noncomputable def q202 : QF := ⟨202, F_spec_KeyOk, okN (n := 0) Tryz.func202 (by kernel_rfl) (by kernel_rfl) trivial ev202⟩
abbrev T_spec_l4Rises_2 : Type := Qz27
noncomputable def S_spec_l4Rises_2 {R : Type} (k0 : Bool → Option R) (k1 : Unit → Option R) (again : T_spec_l4Rises_2 → Option R) (t2 : T_spec_l4Rises_2) : Option R :=
  bif (decide (t2.2 < ((List.length t2.1 : Nat) : Int))) then if (0 : Int) ≤ (Go.IntKind.wrap .i64 (t2.2 - (1 : Int))) then if (Go.IntKind.wrap .i64 (t2.2 - (1 : Int))) < ((List.length t2.1 : Nat) : Int) then if (0 : Int) ≤ t2.2 then if t2.2 < ((List.length t2.1 : Nat) : Int) then Option.bind (F_spec_LessKey ((rd_Key t2.1 (Go.IntKind.wrap .i64 (t2.2 - (1 : Int)))).1, (rd_Key t2.1 (Go.IntKind.wrap .i64 (t2.2 - (1 : Int)))).2.1, (rd_Key t2.1 (Go.IntKind.wrap .i64 (t2.2 - (1 : Int)))).2.2.1, (rd_Key t2.1 (Go.IntKind.wrap .i64 (t2.2 - (1 : Int)))).2.2.2.1, (rd_Key t2.1 (Go.IntKind.wrap .i64 (t2.2 - (1 : Int)))).2.2.2.2, (rd_Key t2.1 t2.2).1, (rd_Key t2.1 t2.2).2.1, (rd_Key t2.1 t2.2).2.2.1, (rd_Key t2.1 t2.2).2.2.2.1, (rd_Key t2.1 t2.2).2.2.2.2)) fun r1 => bif (!r1) then k0 false else again (t2.1, (Go.IntKind.wrap .i64 (t2.2 + (1 : Int)))) else none else none else none else none else k1 ()
noncomputable def L_spec_l4Rises_2 {R : Type} (k0 : Bool → Option R) (k1 : Unit → Option R) (t : T_spec_l4Rises_2) : Option R := iter (S_spec_l4Rises_2 k0 k1) FUEL t
noncomputable def F_spec_l4Rises (x : List E_Key) : Option Bool :=
  L_spec_l4Rises_2 (fun x2 => some x2) (fun x3 => some true) (x, (1 : Int))
noncomputable def f300Q : List QF := [q266]
def f300e2_0 (t : Qz27) : St := ⟨v_Key t.1 :: dd 2 (vI t.2 :: dd 17 []), []⟩
noncomputable def f300g2 : Gk T_spec_l4Rises_2 := fun κ => S_spec_l4Rises_2 (fun t => κ none ⟨dd 2 (vB t :: dd 18 []), []⟩) (fun t => κ (some 0) ⟨dd 21 [], []⟩)
noncomputable def f300P : Lp := lpC 2 (unG qz27 f300e2_0) @f300g2 lpN
theorem f300C2 : LF f300Q f300P 300 2 Tryz.f300 0 f300e2_0 @f300g2 fun t => t := fun R κ again t => by kernel_rfl
theorem f300k2 : LK f300Q f300P 300 Tryz.f300 0 := loop_okG (u := (unG qz27 f300e2_0)) (by kernel_rfl) (unG_ok fun t => by kernel_rfl) (fun R κ s => by kernel_rfl) f300C2
theorem ev300 : EV f300Q f300P 300 Tryz.f300 sg300 [(.sl 106 ts_Key)] [.bool] F_spec_l4Rises := fun x => by kernel_rfl
noncomputable def q300 : QF := ⟨300, F_spec_l4Rises, okN (n := 1) Tryz.func300 (by kernel_rfl) (by kernel_rfl) ⟨f300k2, trivial⟩ ev300⟩
abbrev T_spec_SetOk_2 : Type := Qz27
noncomputable def S_spec_SetOk_2 {R : Type} (k0 : Qz61 → Option R) (k1 : List E_Key → Option R) (again : T_spec_SetOk_2 → Option R) (t2 : T_spec_SetOk_2) : Option R :=
  bif (decide (t2.2 < ((List.length t2.1 : Nat) : Int))) then if (0 : Int) ≤ t2.2 then if t2.2 < ((List.length t2.1 : Nat) : Int) then Option.bind (F_spec_KeyOk ((rd_Key t2.1 t2.2).1, (rd_Key t2.1 t2.2).2.1, (rd_Key t2.1 t2.2).2.2.1, (rd_Key t2.1 t2.2).2.2.2.1, (rd_Key t2.1 t2.2).2.2.2.2)) fun r1 => bif (!r1) then k0 (t2.1, false) else again (t2.1, (Go.IntKind.wrap .i64 (t2.2 + (1 : Int)))) else none else none else k1 t2.1
noncomputable def L_spec_SetOk_2 {R : Type} (k0 : Qz61 → Option R) (k1 : List E_Key → Option R) (t : T_spec_SetOk_2) : Option R := iter (S_spec_SetOk_2 k0 k1) FUEL t
noncomputable def F_spec_SetOk (x : List E_Key) : Option Bool :=
  L_spec_SetOk_2 (fun x2 => some x2.2) (fun x3 => Option.bind (F_spec_l4Rises x3) fun r4 => Option.bind (bif r4 then some (decide (((List.length x3 : Nat) : Int) ≤ (60 : Int))) else some false) fun u5 => some u5) (x, (0 : Int))
noncomputable def f276Q : List QF := [q202, q300]
def f276e2_0 (t : Qz27) : St := ⟨v_Key t.1 :: dd 2 (vI t.2 :: dd 19 []), []⟩
noncomputable def f276g2 : Gk T_spec_SetOk_2 := fun κ => S_spec_SetOk_2 (fun t => κ none ⟨v_Key t.1 :: .dead :: vB t.2 :: dd 20 [], []⟩) (fun t => κ (some 0) ⟨v_Key t :: dd 22 [], []⟩)
noncomputable def f276P : Lp := lpC 2 (unG qz27 f276e2_0) @f276g2 lpN
theorem f276C2 : LF f276Q f276P 276 2 Tryz.f276 0 f276e2_0 @f276g2 fun t => t := fun R κ again t => by kernel_rfl
theorem f276k2 : LK f276Q f276P 276 Tryz.f276 0 := loop_okG (u := (unG qz27 f276e2_0)) (by kernel_rfl) (unG_ok fun t => by kernel_rfl) (fun R κ s => by kernel_rfl) f276C2
theorem ev276 : EV f276Q f276P 276 Tryz.f276 sg276 [(.sl 106 ts_Key)] [.bool] F_spec_SetOk := fun x => by kernel_rfl
noncomputable def q276 : QF := ⟨276, F_spec_SetOk, okN (n := 1) Tryz.func276 (by kernel_rfl) (by kernel_rfl) ⟨f276k2, trivial⟩ ev276⟩
abbrev T_spec_l5Count_3 : Type := Qz28
noncomputable def S_spec_l5Count_3 {R : Type} (k0 : Int → Option R) (again : T_spec_l5Count_3 → Option R) (t3 : T_spec_l5Count_3) : Option R :=
  bif (decide (t3.2.1 < ((List.length t3.2.2 : Nat) : Int))) then if (0 : Int) ≤ t3.2.1 then if t3.2.1 < ((List.length t3.2.2 : Nat) : Int) then again ((Go.IntKind.wrap .i64 (t3.1 + ((List.length (rd_s_Key t3.2.2 t3.2.1) : Nat) : Int))), (Go.IntKind.wrap .i64 (t3.2.1 + (1 : Int))), t3.2.2) else none else none else k0 t3.1
noncomputable def L_spec_l5Count_3 {R : Type} (k0 : Int → Option R) (t : T_spec_l5Count_3) : Option R := iter (S_spec_l5Count_3 k0) FUEL t
noncomputable def F_spec_l5Count (x : List E_s_Key) : Option Int :=
  L_spec_l5Count_3 (fun x1 => some x1) ((0 : Int), (0 : Int), x)
noncomputable def f277Q : List QF := []
def f277e3_0 (t : Qz28) : St := ⟨.dead :: .box 1 0 :: .dead :: vI t.1 :: vI t.2.1 :: dd 16 [], [(1, .box [v_s_Key t.2.2])]⟩
noncomputable def f277g3 : Gk T_spec_l5Count_3 := fun κ => S_spec_l5Count_3 (fun t => κ (some 0) ⟨dd 3 (vI t :: dd 17 []), []⟩)
noncomputable def f277P : Lp := lpC 3 (unG qz28 f277e3_0) @f277g3 lpN
theorem f277C3 : LF f277Q f277P 277 3 Tryz.f277 0 f277e3_0 @f277g3 fun t => t := fun R κ again t => by kernel_rfl
theorem f277k3 : LK f277Q f277P 277 Tryz.f277 0 := loop_okG (u := (unG qz28 f277e3_0)) (by kernel_rfl) (unG_ok fun t => by kernel_rfl) (fun R κ s => by kernel_rfl) f277C3
theorem ev277 : EV f277Q f277P 277 Tryz.f277 sg277 [(.sl 100 ts_s_Key)] [(.int .i64)] F_spec_l5Count := fun x => by kernel_rfl
noncomputable def q277 : QF := ⟨277, F_spec_l5Count, okN (n := 1) Tryz.func277 (by kernel_rfl) (by kernel_rfl) ⟨f277k3, trivial⟩ ev277⟩
abbrev T_spec_NodeOk_2 : Type := Qz29
noncomputable def S_spec_NodeOk_2 {R : Type} (k0 : Qz62 → Option R) (k1 : List E_s_Key → Option R) (again : T_spec_NodeOk_2 → Option R) (t2 : T_spec_NodeOk_2) : Option R :=
  bif (decide (t2.1 < ((List.length t2.2 : Nat) : Int))) then if (0 : Int) ≤ t2.1 then if t2.1 < ((List.length t2.2 : Nat) : Int) then Option.bind (F_spec_SetOk (rd_s_Key t2.2 t2.1)) fun r1 => Option.bind (bif (!r1) then some true else if (0 : Int) ≤ t2.1 then if t2.1 < ((List.length t2.2 : Nat) : Int) then some (((List.length (rd_s_Key t2.2 t2.1) : Nat) : Int) == (0 : Int)) else none else none) fun u2 => bif u2 then k0 (false, t2.2) else again ((Go.IntKind.wrap .i64 (t2.1 + (1 : Int))), t2.2) else none else none else k1 t2.2
noncomputable def L_spec_NodeOk_2 {R : Type} (k0 : Qz62 → Option R) (k1 : List E_s_Key → Option R) (t : T_spec_NodeOk_2) : Option R := iter (S_spec_NodeOk_2 k0 k1) FUEL t
noncomputable def F_spec_NodeOk (x : List E_s_Key) : Option Bool :=
  L_spec_NodeOk_2 (fun x3 => some x3.1) (fun x4 => Option.bind (bif (decide (((List.length x4 : Nat) : Int) ≤ (3 : Int))) then Option.bind (F_spec_l5Count x4) fun r6 => some (decide (r6 ≤ (8 : Int))) else some false) fun u5 => some u5) ((0 : Int), x)
noncomputable def f244Q : List QF := [q276, q277]
def f244e2_0 (t : Qz29) : St := ⟨.dead :: .box 1 0 :: .dead :: vI t.1 :: dd 32 [], [(1, .box [v_s_Key t.2])]⟩
noncomputable def f244g2 : Gk T_spec_NodeOk_2 := fun κ => S_spec_NodeOk_2 (fun t => κ none ⟨.dead :: .box 1 0 :: vB t.1 :: dd 33 [], [(1, .box [v_s_Key t.2])]⟩) (fun t => κ (some 0) ⟨.dead :: .box 1 0 :: dd 34 [], [(1, .box [v_s_Key t])]⟩)
noncomputable def f244P : Lp := lpC 2 (unG qz29 f244e2_0) @f244g2 lpN
theorem f244C2 : LF f244Q f244P 244 2 Tryz.f244 0 f244e2_0 @f244g2 fun t => t := fun R κ again t => by kernel_rfl
theorem f244k2 : LK f244Q f244P 244 Tryz.f244 0 := loop_okG (u := (unG qz29 f244e2_0)) (by kernel_rfl) (unG_ok fun t => by kernel_rfl) (fun R κ s => by kernel_rfl) f244C2
theorem ev244 : EV f244Q f244P 244 Tryz.f244 sg244 [(.sl 100 ts_s_Key)] [.bool] F_spec_NodeOk := fun x => by kernel_rfl
noncomputable def q244 : QF := ⟨244, F_spec_NodeOk, okN (n := 1) Tryz.func244 (by kernel_rfl) (by kernel_rfl) ⟨f244k2, trivial⟩ ev244⟩
abbrev T_spec_l6Node_8 : Type := Qz63
noncomputable def S_spec_l6Node_8 {R : Type} (k0 : Qz64 → Option R) (k1 : Qz65 → Option R) (again : T_spec_l6Node_8 → Option R) (t8 : T_spec_l6Node_8) : Option R :=
  if (0 : Int) ≤ t8.2.1 then if t8.2.1 < ((List.length t8.2.2.2.2.2 : Nat) : Int) then bif (decide (t8.2.2.1 < ((List.length (rd_s_Key t8.2.2.2.2.2 t8.2.1) : Nat) : Int))) then if (0 : Int) ≤ t8.2.1 then if t8.2.1 < ((List.length t8.2.2.2.2.2 : Nat) : Int) then if (0 : Int) ≤ t8.2.2.1 then if t8.2.2.1 < ((List.length (rd_s_Key t8.2.2.2.2.2 t8.2.1) : Nat) : Int) then Option.bind (F_spec_l6Spot ((rd_Key (rd_s_Key t8.2.2.2.2.2 t8.2.1) t8.2.2.1).1, (rd_Key (rd_s_Key t8.2.2.2.2.2 t8.2.1) t8.2.2.1).2.1, (rd_Key (rd_s_Key t8.2.2.2.2.2 t8.2.1) t8.2.2.1).2.2.1, (rd_Key (rd_s_Key t8.2.2.2.2.2 t8.2.1) t8.2.2.1).2.2.2.1, (rd_Key (rd_s_Key t8.2.2.2.2.2 t8.2.1) t8.2.2.1).2.2.2.2)) fun r5 => if (0 : Int) ≤ t8.1 then if t8.1 < ((List.length t8.2.2.2.1 : Nat) : Int) then Option.bind (bif (decide (r5 < (rd_i64 t8.2.2.2.1 t8.1))) then some true else Option.bind (bif (decide ((Go.IntKind.wrap .i64 (t8.1 + (1 : Int))) < ((List.length t8.2.2.2.1 : Nat) : Int))) then if (0 : Int) ≤ (Go.IntKind.wrap .i64 (t8.1 + (1 : Int))) then if (Go.IntKind.wrap .i64 (t8.1 + (1 : Int))) < ((List.length t8.2.2.2.1 : Nat) : Int) then some (decide (r5 ≥ (rd_i64 t8.2.2.2.1 (Go.IntKind.wrap .i64 (t8.1 + (1 : Int)))))) else none else none else some false) fun u7 => some u7) fun u6 => bif u6 then k0 (t8.1, false, t8.2.1, t8.2.2.2.1, t8.2.2.2.2.1, t8.2.2.2.2.2) else again (t8.1, t8.2.1, (Go.IntKind.wrap .i64 (t8.2.2.1 + (1 : Int))), t8.2.2.2.1, t8.2.2.2.2.1, t8.2.2.2.2.2) else none else none else none else none else none else none else k1 (t8.1, t8.2.1, t8.2.2.2.1, t8.2.2.2.2.1, t8.2.2.2.2.2) else none else none
noncomputable def L_spec_l6Node_8 {R : Type} (k0 : Qz64 → Option R) (k1 : Qz65 → Option R) (t : T_spec_l6Node_8) : Option R := iter (S_spec_l6Node_8 k0 k1) FUEL t
abbrev T_spec_l6Node_5 : Type := Qz65
noncomputable def S_spec_l6Node_5 {R : Type} (k0 : Bool → Option R) (k1 : Unit → Option R) (again : T_spec_l6Node_5 → Option R) (t5 : T_spec_l6Node_5) : Option R :=
  bif (decide (t5.2.1 < ((List.length t5.2.2.2.2 : Nat) : Int))) then L_spec_l6Node_8 (fun x8 => k0 x8.2.1) (fun x9 => again (x9.1, (Go.IntKind.wrap .i64 (x9.2.1 + (1 : Int))), x9.2.2.1, x9.2.2.2.1, x9.2.2.2.2)) (t5.1, t5.2.1, (0 : Int), t5.2.2.1, t5.2.2.2.1, t5.2.2.2.2) else k1 ()
noncomputable def L_spec_l6Node_5 {R : Type} (k0 : Bool → Option R) (k1 : Unit → Option R) (t : T_spec_l6Node_5) : Option R := iter (S_spec_l6Node_5 k0 k1) FUEL t
noncomputable def F_spec_l6Node (x : Qz34) : Option Bool :=
  if (0 : Int) ≤ x.2.2 then if x.2.2 < ((List.length x.2.1 : Nat) : Int) then Option.bind (F_spec_NodeOk (rd_Node x.2.1 x.2.2)) fun r1 => Option.bind (bif (!r1) then some true else Option.bind (bif (decide (x.2.2 > (0 : Int))) then Option.bind (F_spec_NodeKeys (rd_Node x.2.1 x.2.2)) fun r4 => some (((List.length r4 : Nat) : Int) == (0 : Int)) else some false) fun u3 => some u3) fun u2 => bif u2 then some false else L_spec_l6Node_5 (fun x10 => some x10) (fun x11 => some true) (x.2.2, (0 : Int), x.1, x.2.1, (rd_Node x.2.1 x.2.2)) else none else none
noncomputable def f195Q : List QF := [q230, q237, q244]
def f195e8_0 (t : Qz63) : St := ⟨.dead :: vI t.1 :: .box 2 0 :: dd 2 (.box 5 0 :: vI t.2.1 :: vI t.2.2.1 :: dd 70 []), [(2, .box [v_i64 t.2.2.2.1, v_Node t.2.2.2.2.1]), (5, .box [v_s_Key t.2.2.2.2.2])]⟩
noncomputable def f195g8 : Gk T_spec_l6Node_8 := fun κ => S_spec_l6Node_8 (fun t => κ none ⟨.dead :: vI t.1 :: .box 2 0 :: .dead :: vB t.2.1 :: .box 5 0 :: vI t.2.2.1 :: dd 71 [], [(2, .box [v_i64 t.2.2.2.1, v_Node t.2.2.2.2.1]), (5, .box [v_s_Key t.2.2.2.2.2])]⟩) (fun t => κ (some 2) ⟨.dead :: vI t.1 :: .box 2 0 :: dd 2 (.box 5 0 :: vI t.2.1 :: dd 71 []), [(2, .box [v_i64 t.2.2.1, v_Node t.2.2.2.1]), (5, .box [v_s_Key t.2.2.2.2])]⟩)
def f195e5_0 (t : Qz65) : St := ⟨.dead :: vI t.1 :: .box 2 0 :: dd 2 (.box 5 0 :: vI t.2.1 :: dd 71 []), [(2, .box [v_i64 t.2.2.1, v_Node t.2.2.2.1]), (5, .box [v_s_Key t.2.2.2.2])]⟩
noncomputable def f195g5 : Gk T_spec_l6Node_5 := fun κ => S_spec_l6Node_5 (fun t => κ none ⟨dd 4 (vB t :: dd 73 []), []⟩) (fun t => κ (some 0) ⟨dd 78 [], []⟩)
noncomputable def f195P : Lp := lpC 5 (unG qz65 f195e5_0) @f195g5 (lpC 8 (unG qz63 f195e8_0) @f195g8 lpN)
theorem f195C8 : LF f195Q f195P 195 8 Tryz.f195 1 f195e8_0 @f195g8 fun t => t := fun R κ again t => by kernel_rfl
theorem f195k8 : LK f195Q f195P 195 Tryz.f195 1 := loop_okG (u := (unG qz63 f195e8_0)) (by kernel_rfl) (unG_ok fun t => by kernel_rfl) (fun R κ s => by kernel_rfl) f195C8
theorem f195C5 : LF f195Q f195P 195 5 Tryz.f195 0 f195e5_0 @f195g5 fun t => t := fun R κ again t => by kernel_rfl
theorem f195k5 : LK f195Q f195P 195 Tryz.f195 0 := loop_okG (u := (unG qz65 f195e5_0)) (by kernel_rfl) (unG_ok fun t => by kernel_rfl) (fun R κ s => by kernel_rfl) f195C5
theorem ev195 : EV f195Q f195P 195 Tryz.f195 sg195 qz34 [.bool] F_spec_l6Node := fun x => by kernel_rfl
noncomputable def q195 : QF := ⟨195, F_spec_l6Node, okN (n := 2) Tryz.func195 (by kernel_rfl) (by kernel_rfl) ⟨f195k5, f195k8, trivial⟩ ev195⟩
abbrev T_spec_TreeOk_4 : Type := Qz35
noncomputable def S_spec_TreeOk_4 {R : Type} (k0 : Qz66 → Option R) (k1 : Qz58 → Option R) (again : T_spec_TreeOk_4 → Option R) (t4 : T_spec_TreeOk_4) : Option R :=
  bif (decide (t4.1 < ((List.length t4.2.2 : Nat) : Int))) then Option.bind (bif (decide (t4.1 > (0 : Int))) then if (0 : Int) ≤ (Go.IntKind.wrap .i64 (t4.1 - (1 : Int))) then if (Go.IntKind.wrap .i64 (t4.1 - (1 : Int))) < ((List.length t4.2.1 : Nat) : Int) then if (0 : Int) ≤ t4.1 then if t4.1 < ((List.length t4.2.1 : Nat) : Int) then some (decide ((rd_i64 t4.2.1 (Go.IntKind.wrap .i64 (t4.1 - (1 : Int)))) ≥ (rd_i64 t4.2.1 t4.1))) else none else none else none else none else some false) fun u4 => Option.bind (bif u4 then some true else Option.bind (F_spec_l6Node (t4.2.1, t4.2.2, t4.1)) fun r6 => some (!r6)) fun u5 => bif u5 then k0 (false, t4.2.1, t4.2.2) else again ((Go.IntKind.wrap .i64 (t4.1 + (1 : Int))), t4.2.1, t4.2.2) else k1 (t4.2.1, t4.2.2)
noncomputable def L_spec_TreeOk_4 {R : Type} (k0 : Qz66 → Option R) (k1 : Qz58 → Option R) (t : T_spec_TreeOk_4) : Option R := iter (S_spec_TreeOk_4 k0 k1) FUEL t
noncomputable def F_spec_TreeOk (x : Qz58) : Option Bool :=
  Option.bind (F_spec_l1In (((List.length x.2 : Nat) : Int), (1 : Int), (20 : Int))) fun r1 => Option.bind (bif (!r1) then some true else some (((List.length x.1 : Nat) : Int) != ((List.length x.2 : Nat) : Int))) fun u2 => Option.bind (bif u2 then some true else if (0 : Int) ≤ (0 : Int) then if (0 : Int) < ((List.length x.1 : Nat) : Int) then some ((rd_i64 x.1 (0 : Int)) != (0 : Int)) else none else none) fun u3 => bif u3 then some false else L_spec_TreeOk_4 (fun x7 => some x7.1) (fun x8 => Option.bind (F_spec_TreeKeys (x8.1, x8.2)) fun r9 => some (decide (((List.length r9 : Nat) : Int) ≤ (60 : Int)))) ((0 : Int), x.1, x.2)
noncomputable def f120Q : List QF := [q107, q188, q195]
def f120e4_0 (t : Qz35) : St := ⟨.dead :: .box 1 0 :: .dead :: vI t.1 :: dd 54 [], [(1, .box [v_i64 t.2.1, v_Node t.2.2])]⟩
noncomputable def f120g4 : Gk T_spec_TreeOk_4 := fun κ => S_spec_TreeOk_4 (fun t => κ none ⟨.dead :: .box 1 0 :: vB t.1 :: dd 55 [], [(1, .box [v_i64 t.2.1, v_Node t.2.2])]⟩) (fun t => κ (some 0) ⟨.dead :: .box 1 0 :: dd 56 [], [(1, .box [v_i64 t.1, v_Node t.2])]⟩)
noncomputable def f120P : Lp := lpC 4 (unG qz35 f120e4_0) @f120g4 lpN
theorem f120C4 : LF f120Q f120P 120 4 Tryz.f120 0 f120e4_0 @f120g4 fun t => t := fun R κ again t => by kernel_rfl
theorem f120k4 : LK f120Q f120P 120 Tryz.f120 0 := loop_okG (u := (unG qz35 f120e4_0)) (by kernel_rfl) (unG_ok fun t => by kernel_rfl) (fun R κ s => by kernel_rfl) f120C4
theorem ev120 : EV f120Q f120P 120 Tryz.f120 sg120 qz58 [.bool] F_spec_TreeOk := fun x => by kernel_rfl
noncomputable def q120 : QF := ⟨120, F_spec_TreeOk, okN (n := 1) Tryz.func120 (by kernel_rfl) (by kernel_rfl) ⟨f120k4, trivial⟩ ev120⟩
abbrev T_spec_AgeAt_2 : Type := Qz67
noncomputable def S_spec_AgeAt_2 {R : Type} (k0 : Int → Option R) (k1 : Unit → Option R) (again : T_spec_AgeAt_2 → Option R) (t2 : T_spec_AgeAt_2) : Option R :=
  bif (decide (t2.2.2 < ((List.length t2.1 : Nat) : Int))) then if (0 : Int) ≤ t2.2.2 then if t2.2.2 < ((List.length t2.1 : Nat) : Int) then bif ((rd_Age t2.1 t2.2.2).1 == t2.2.1) then k0 t2.2.2 else again (t2.1, t2.2.1, (Go.IntKind.wrap .i64 (t2.2.2 + (1 : Int)))) else none else none else k1 ()
noncomputable def L_spec_AgeAt_2 {R : Type} (k0 : Int → Option R) (k1 : Unit → Option R) (t : T_spec_AgeAt_2) : Option R := iter (S_spec_AgeAt_2 k0 k1) FUEL t
noncomputable def F_spec_AgeAt (x : Qz38) : Option Int :=
  L_spec_AgeAt_2 (fun x1 => some x1) (fun x2 => some (-1 : Int)) (x.1, x.2, (0 : Int))
noncomputable def f196Q : List QF := []
def f196e2_0 (t : Qz67) : St := ⟨v_Age t.1 :: vI t.2.1 :: dd 3 (vI t.2.2 :: dd 14 []), []⟩
noncomputable def f196g2 : Gk T_spec_AgeAt_2 := fun κ => S_spec_AgeAt_2 (fun t => κ none ⟨dd 4 (vI t :: dd 15 []), []⟩) (fun t => κ (some 0) ⟨dd 20 [], []⟩)
noncomputable def f196P : Lp := lpC 2 (unG qz67 f196e2_0) @f196g2 lpN
theorem f196C2 : LF f196Q f196P 196 2 Tryz.f196 0 f196e2_0 @f196g2 fun t => t := fun R κ again t => by kernel_rfl
theorem f196k2 : LK f196Q f196P 196 Tryz.f196 0 := loop_okG (u := (unG qz67 f196e2_0)) (by kernel_rfl) (unG_ok fun t => by kernel_rfl) (fun R κ s => by kernel_rfl) f196C2
theorem ev196 : EV f196Q f196P 196 Tryz.f196 sg196 qz38 [(.int .i64)] F_spec_AgeAt := fun x => by kernel_rfl
noncomputable def q196 : QF := ⟨196, F_spec_AgeAt, okN (n := 1) Tryz.func196 (by kernel_rfl) (by kernel_rfl) ⟨f196k2, trivial⟩ ev196⟩
abbrev T_spec_AgesOk_2 : Type := Qz38
noncomputable def S_spec_AgesOk_2 {R : Type} (k0 : Qz68 → Option R) (k1 : List E_Age → Option R) (again : T_spec_AgesOk_2 → Option R) (t2 : T_spec_AgesOk_2) : Option R :=
  bif (decide (t2.2 < ((List.length t2.1 : Nat) : Int))) then if (0 : Int) ≤ t2.2 then if t2.2 < ((List.length t2.1 : Nat) : Int) then Option.bind (F_spec_l1In ((rd_Age t2.1 t2.2).1, (1 : Int), (60 : Int))) fun r1 => Option.bind (bif (!r1) then some true else Option.bind (bif (decide (t2.2 > (0 : Int))) then if (0 : Int) ≤ (Go.IntKind.wrap .i64 (t2.2 - (1 : Int))) then if (Go.IntKind.wrap .i64 (t2.2 - (1 : Int))) < ((List.length t2.1 : Nat) : Int) then if (0 : Int) ≤ t2.2 then if t2.2 < ((List.length t2.1 : Nat) : Int) then some (decide ((rd_Age t2.1 (Go.IntKind.wrap .i64 (t2.2 - (1 : Int)))).1 ≥ (rd_Age t2.1 t2.2).1)) else none else none else none else none else some false) fun u3 => some u3) fun u2 => bif u2 then k0 (t2.1, false) else if (0 : Int) ≤ t2.2 then if t2.2 < ((List.length t2.1 : Nat) : Int) then Option.bind (bif ((rd_Age t2.1 t2.2).2 != (0 : Int)) then if (0 : Int) ≤ (0 : Int) then if (0 : Int) ≤ t2.2 then if t2.2 ≤ ((List.length t2.1 : Nat) : Int) then if (0 : Int) ≤ t2.2 then if t2.2 < ((List.length t2.1 : Nat) : Int) then Option.bind (F_spec_AgeAt ((List.drop (Int.toNat (0 : Int)) (List.take (Int.toNat t2.2) t2.1)), (rd_Age t2.1 t2.2).2)) fun r5 => some (decide (r5 < (0 : Int))) else none else none else none else none else none else some false) fun u4 => bif u4 then k0 (t2.1, false) else again (t2.1, (Go.IntKind.wrap .i64 (t2.2 + (1 : Int)))) else none else none else none else none else k1 t2.1
noncomputable def L_spec_AgesOk_2 {R : Type} (k0 : Qz68 → Option R) (k1 : List E_Age → Option R) (t : T_spec_AgesOk_2) : Option R := iter (S_spec_AgesOk_2 k0 k1) FUEL t
noncomputable def F_spec_AgesOk (x : List E_Age) : Option Bool :=
  L_spec_AgesOk_2 (fun x6 => some x6.2) (fun x7 => some (decide (((List.length x7 : Nat) : Int) ≤ (16 : Int)))) (x, (0 : Int))
noncomputable def f121Q : List QF := [q107, q196]
def f121e2_0 (t : Qz38) : St := ⟨v_Age t.1 :: dd 2 (vI t.2 :: dd 52 []), []⟩
noncomputable def f121g2 : Gk T_spec_AgesOk_2 := fun κ => S_spec_AgesOk_2 (fun t => κ none ⟨v_Age t.1 :: .dead :: vB t.2 :: dd 53 [], []⟩) (fun t => κ (some 0) ⟨v_Age t :: dd 55 [], []⟩)
noncomputable def f121P : Lp := lpC 2 (unG qz38 f121e2_0) @f121g2 lpN
theorem f121C2 : LF f121Q f121P 121 2 Tryz.f121 0 f121e2_0 @f121g2 fun t => t := fun R κ again t => by kernel_rfl
theorem f121k2 : LK f121Q f121P 121 Tryz.f121 0 := loop_okG (u := (unG qz38 f121e2_0)) (by kernel_rfl) (unG_ok fun t => by kernel_rfl) (fun R κ s => by kernel_rfl) f121C2
theorem ev121 : EV f121Q f121P 121 Tryz.f121 sg121 [(.sl 89 ts_Age)] [.bool] F_spec_AgesOk := fun x => by kernel_rfl
noncomputable def q121 : QF := ⟨121, F_spec_AgesOk, okN (n := 1) Tryz.func121 (by kernel_rfl) (by kernel_rfl) ⟨f121k2, trivial⟩ ev121⟩
noncomputable def F_spec_l1Word (x : Int) : Option Bool :=
  Option.bind (F_spec_l1In (x, (0 : Int), (65535 : Int))) fun r1 => some r1
theorem ev197 : EV [q107] lpN 197 Tryz.f197 sg197 [(.int .i64)] [.bool] F_spec_l1Word := fun x => by kernel_rfl
noncomputable def q197 : QF := ⟨197, F_spec_l1Word, okN (n := 0) Tryz.func197 (by kernel_rfl) (by kernel_rfl) trivial ev197⟩
abbrev T_spec_CellsOk_2 : Type := Qz41
noncomputable def S_spec_CellsOk_2 {R : Type} (k0 : Qz69 → Option R) (k1 : List E_Cell → Option R) (again : T_spec_CellsOk_2 → Option R) (t2 : T_spec_CellsOk_2) : Option R :=
  bif (decide (t2.2 < ((List.length t2.1 : Nat) : Int))) then if (0 : Int) ≤ t2.2 then if t2.2 < ((List.length t2.1 : Nat) : Int) then Option.bind (F_spec_l1In ((rd_Cell t2.1 t2.2).1, (0 : Int), (999 : Int))) fun r1 => Option.bind (bif (!r1) then some true else if (0 : Int) ≤ t2.2 then if t2.2 < ((List.length t2.1 : Nat) : Int) then Option.bind (F_spec_l1Word ((rd_Cell t2.1 t2.2).2.2)) fun r3 => some (!r3) else none else none) fun u2 => Option.bind (bif u2 then some true else if (0 : Int) ≤ t2.2 then if t2.2 < ((List.length t2.1 : Nat) : Int) then Option.bind (bif (!((rd_Cell t2.1 t2.2).2.1)) then if (0 : Int) ≤ t2.2 then if t2.2 < ((List.length t2.1 : Nat) : Int) then some ((rd_Cell t2.1 t2.2).2.2 != (0 : Int)) else none else none else some false) fun u5 => some u5 else none else none) fun u4 => bif u4 then k0 (t2.1, false) else again (t2.1, (Go.IntKind.wrap .i64 (t2.2 + (1 : Int)))) else none else none else k1 t2.1
noncomputable def L_spec_CellsOk_2 {R : Type} (k0 : Qz69 → Option R) (k1 : List E_Cell → Option R) (t : T_spec_CellsOk_2) : Option R := iter (S_spec_CellsOk_2 k0 k1) FUEL t
noncomputable def F_spec_CellsOk (x : List E_Cell) : Option Bool :=
  L_spec_CellsOk_2 (fun x6 => some x6.2) (fun x7 => some (((List.length x7 : Nat) : Int) == (24 : Int))) (x, (0 : Int))
noncomputable def f122Q : List QF := [q107, q197]
def f122e2_0 (t : Qz41) : St := ⟨v_Cell t.1 :: dd 2 (vI t.2 :: dd 41 []), []⟩
noncomputable def f122g2 : Gk T_spec_CellsOk_2 := fun κ => S_spec_CellsOk_2 (fun t => κ none ⟨v_Cell t.1 :: .dead :: vB t.2 :: dd 42 [], []⟩) (fun t => κ (some 0) ⟨v_Cell t :: dd 44 [], []⟩)
noncomputable def f122P : Lp := lpC 2 (unG qz41 f122e2_0) @f122g2 lpN
theorem f122C2 : LF f122Q f122P 122 2 Tryz.f122 0 f122e2_0 @f122g2 fun t => t := fun R κ again t => by kernel_rfl
theorem f122k2 : LK f122Q f122P 122 Tryz.f122 0 := loop_okG (u := (unG qz41 f122e2_0)) (by kernel_rfl) (unG_ok fun t => by kernel_rfl) (fun R κ s => by kernel_rfl) f122C2
theorem ev122 : EV f122Q f122P 122 Tryz.f122 sg122 [(.sl 95 ts_Cell)] [.bool] F_spec_CellsOk := fun x => by kernel_rfl
noncomputable def q122 : QF := ⟨122, F_spec_CellsOk, okN (n := 1) Tryz.func122 (by kernel_rfl) (by kernel_rfl) ⟨f122k2, trivial⟩ ev122⟩
abbrev T_spec_NameOk_2 : Type := Qz70
noncomputable def S_spec_NameOk_2 {R : Type} (k0 : Qz71 → Option R) (k1 : ByteArray → Option R) (again : T_spec_NameOk_2 → Option R) (t2 : T_spec_NameOk_2) : Option R :=
  bif (decide (t2.2 < ((ByteArray.size t2.1 : Nat) : Int))) then if (0 : Int) ≤ t2.2 then if h1 : Int.toNat t2.2 < ByteArray.size t2.1 then Option.bind (F_spec_l1In ((Go.IntKind.wrap .i64 ((UInt8.toNat (ByteArray.get t2.1 (Int.toNat t2.2) h1) : Nat) : Int)), (97 : Int), (122 : Int))) fun r2 => Option.bind (bif (!r2) then if (0 : Int) ≤ t2.2 then if h4 : Int.toNat t2.2 < ByteArray.size t2.1 then Option.bind (F_spec_l1In ((Go.IntKind.wrap .i64 ((UInt8.toNat (ByteArray.get t2.1 (Int.toNat t2.2) h4) : Nat) : Int)), (48 : Int), (57 : Int))) fun r5 => some (!r5) else none else none else some false) fun u3 => bif u3 then k0 (t2.1, false) else again (t2.1, (Go.IntKind.wrap .i64 (t2.2 + (1 : Int)))) else none else none else k1 t2.1
noncomputable def L_spec_NameOk_2 {R : Type} (k0 : Qz71 → Option R) (k1 : ByteArray → Option R) (t : T_spec_NameOk_2) : Option R := iter (S_spec_NameOk_2 k0 k1) FUEL t
noncomputable def F_spec_NameOk (x : ByteArray) : Option Bool :=
  L_spec_NameOk_2 (fun x6 => some x6.2) (fun x7 => Option.bind (F_spec_l1In (((ByteArray.size x7 : Nat) : Int), (1 : Int), (6 : Int))) fun r8 => some r8) (x, (0 : Int))
noncomputable def f198Q : List QF := [q107]
def f198e2_0 (t : Qz70) : St := ⟨vS t.1 :: dd 2 (vI t.2 :: dd 23 []), []⟩
noncomputable def f198g2 : Gk T_spec_NameOk_2 := fun κ => S_spec_NameOk_2 (fun t => κ none ⟨vS t.1 :: .dead :: vB t.2 :: dd 24 [], []⟩) (fun t => κ (some 0) ⟨vS t :: dd 26 [], []⟩)
noncomputable def f198P : Lp := lpC 2 (unG qz70 f198e2_0) @f198g2 lpN
theorem f198C2 : LF f198Q f198P 198 2 Tryz.f198 0 f198e2_0 @f198g2 fun t => t := fun R κ again t => by kernel_rfl
theorem f198k2 : LK f198Q f198P 198 Tryz.f198 0 := loop_okG (u := (unG qz70 f198e2_0)) (by kernel_rfl) (unG_ok fun t => by kernel_rfl) (fun R κ s => by kernel_rfl) f198C2
theorem ev198 : EV f198Q f198P 198 Tryz.f198 sg198 [.str] [.bool] F_spec_NameOk := fun x => by kernel_rfl
noncomputable def q198 : QF := ⟨198, F_spec_NameOk, okN (n := 1) Tryz.func198 (by kernel_rfl) (by kernel_rfl) ⟨f198k2, trivial⟩ ev198⟩
abbrev T_spec_KidsOf_3 : Type := Qz72
noncomputable def S_spec_KidsOf_3 {R : Type} (k0 : List E_i64 → Option R) (again : T_spec_KidsOf_3 → Option R) (t3 : T_spec_KidsOf_3) : Option R :=
  bif (decide (t3.2.2.1 < ((List.length t3.1 : Nat) : Int))) then if (0 : Int) ≤ t3.2.2.1 then if t3.2.2.1 < ((List.length t3.1 : Nat) : Int) then Option.bind (bif ((rd_Age t3.1 t3.2.2.1).2 == t3.2.1) then some (t3.2.1 != (0 : Int)) else some false) fun u1 => bif u1 then if (0 : Int) ≤ t3.2.2.1 then if t3.2.2.1 < ((List.length t3.1 : Nat) : Int) then if (List.length t3.2.2.2 + List.length ([(rd_Age t3.1 t3.2.2.1).1] : List E_i64)) * 8 < 140737488355328 then again (t3.1, t3.2.1, (Go.IntKind.wrap .i64 (t3.2.2.1 + (1 : Int))), (t3.2.2.2 ++ ([(rd_Age t3.1 t3.2.2.1).1] : List E_i64))) else none else none else none else again (t3.1, t3.2.1, (Go.IntKind.wrap .i64 (t3.2.2.1 + (1 : Int))), t3.2.2.2) else none else none else k0 t3.2.2.2
noncomputable def L_spec_KidsOf_3 {R : Type} (k0 : List E_i64 → Option R) (t : T_spec_KidsOf_3) : Option R := iter (S_spec_KidsOf_3 k0) FUEL t
noncomputable def F_spec_KidsOf (x : Qz38) : Option (List E_i64) :=
  L_spec_KidsOf_3 (fun x2 => some x2) (x.1, x.2, (0 : Int), ([] : List E_i64))
noncomputable def f199Q : List QF := []
def f199e3_0 (t : Qz72) : St := ⟨v_Age t.1 :: vI t.2.1 :: dd 3 (.own 10000000 :: vI t.2.2.1 :: dd 27 []), [(10000000, .root true 3 ts_i64 t.2.2.2)]⟩
noncomputable def f199g3 : Gk T_spec_KidsOf_3 := fun κ => S_spec_KidsOf_3 (fun t => κ (some 0) ⟨dd 5 (.own 10000000 :: dd 28 []), [(10000000, .root true 3 ts_i64 t)]⟩)
noncomputable def f199P : Lp := lpC 3 (unG qz72 f199e3_0) @f199g3 lpN
theorem f199C3 : LF f199Q f199P 199 3 Tryz.f199 0 f199e3_0 @f199g3 fun t => t := fun R κ again t => by kernel_rfl
theorem f199k3 : LK f199Q f199P 199 Tryz.f199 0 := loop_okG (u := (unG qz72 f199e3_0)) (by kernel_rfl) (unG_ok fun t => by kernel_rfl) (fun R κ s => by kernel_rfl) f199C3
theorem ev199 : EV f199Q f199P 199 Tryz.f199 sg199 qz38 [(.sl 3 ts_i64)] F_spec_KidsOf := fun x => by kernel_rfl
noncomputable def q199 : QF := ⟨199, F_spec_KidsOf, okN (n := 1) Tryz.func199 (by kernel_rfl) (by kernel_rfl) ⟨f199k3, trivial⟩ ev199⟩
abbrev T_spec_l10Vols_8 : Type := Qz73
noncomputable def S_spec_l10Vols_8 {R : Type} (k0 : Qz74 → Option R) (k1 : Qz75 → Option R) (again : T_spec_l10Vols_8 → Option R) (t8 : T_spec_l10Vols_8) : Option R :=
  bif (decide (t8.2.1 < t8.1)) then if (0 : Int) ≤ t8.2.1 then if t8.2.1 < ((List.length t8.2.2.2.2.2.2.1 : Nat) : Int) then bif ((rd_Vol t8.2.2.2.2.2.2.1 t8.2.1).2.1 == t8.2.2.2.2.2.2.2.2.2.1) then k0 (false, t8.1, t8.2.2.1, t8.2.2.2.1, t8.2.2.2.2.1, t8.2.2.2.2.2.1, t8.2.2.2.2.2.2.1, t8.2.2.2.2.2.2.2.1) else again (t8.1, (Go.IntKind.wrap .i64 (t8.2.1 + (1 : Int))), t8.2.2.1, t8.2.2.2.1, t8.2.2.2.2.1, t8.2.2.2.2.2.1, t8.2.2.2.2.2.2.1, t8.2.2.2.2.2.2.2.1, t8.2.2.2.2.2.2.2.2.1, t8.2.2.2.2.2.2.2.2.2.1, t8.2.2.2.2.2.2.2.2.2.2.1, t8.2.2.2.2.2.2.2.2.2.2.2) else none else none else k1 (t8.1, t8.2.2.1, t8.2.2.2.1, t8.2.2.2.2.1, t8.2.2.2.2.2.1, t8.2.2.2.2.2.2.1, t8.2.2.2.2.2.2.2.1)
noncomputable def L_spec_l10Vols_8 {R : Type} (k0 : Qz74 → Option R) (k1 : Qz75 → Option R) (t : T_spec_l10Vols_8) : Option R := iter (S_spec_l10Vols_8 k0 k1) FUEL t
abbrev T_spec_l10Vols_2 : Type := Qz75
noncomputable def S_spec_l10Vols_2 {R : Type} (k0 : Qz76 → Option R) (k1 : Qz77 → Option R) (again : T_spec_l10Vols_2 → Option R) (t2 : T_spec_l10Vols_2) : Option R :=
  bif (decide (t2.1 < ((List.length t2.2.2.2.2.2.1 : Nat) : Int))) then if (0 : Int) ≤ t2.1 then if t2.1 < ((List.length t2.2.2.2.2.2.1 : Nat) : Int) then Option.bind (F_spec_NameOk ((rd_Vol t2.2.2.2.2.2.1 t2.1).1)) fun r1 => Option.bind (bif (!r1) then some true else Option.bind (F_spec_l1In ((rd_Vol t2.2.2.2.2.2.1 t2.1).2.2.1, (1 : Int), (12 : Int))) fun r3 => some (!r3)) fun u2 => Option.bind (bif u2 then some true else Option.bind (F_spec_AgeAt (t2.2.2.2.1, (rd_Vol t2.2.2.2.2.2.1 t2.1).2.1)) fun r5 => some (decide (r5 < (0 : Int)))) fun u4 => Option.bind (bif u4 then some true else Option.bind (F_spec_KidsOf (t2.2.2.2.1, (rd_Vol t2.2.2.2.2.2.1 t2.1).2.1)) fun r7 => some (decide (((List.length r7 : Nat) : Int) > (0 : Int)))) fun u6 => Option.bind (bif u6 then some true else Option.bind (bif (decide (t2.1 > (0 : Int))) then if (0 : Int) ≤ (Go.IntKind.wrap .i64 (t2.1 - (1 : Int))) then if (Go.IntKind.wrap .i64 (t2.1 - (1 : Int))) < ((List.length t2.2.2.2.2.2.1 : Nat) : Int) then some (!Go.Op.bytesLess (ByteArray.toList ((rd_Vol t2.2.2.2.2.2.1 (Go.IntKind.wrap .i64 (t2.1 - (1 : Int)))).1)) (ByteArray.toList ((rd_Vol t2.2.2.2.2.2.1 t2.1).1))) else none else none else some false) fun u9 => some u9) fun u8 => bif u8 then k0 (false, t2.2.1, t2.2.2.1, t2.2.2.2.1, t2.2.2.2.2.1, t2.2.2.2.2.2.1, t2.2.2.2.2.2.2) else L_spec_l10Vols_8 (fun x10 => k0 (x10.1, x10.2.2.1, x10.2.2.2.1, x10.2.2.2.2.1, x10.2.2.2.2.2.1, x10.2.2.2.2.2.2.1, x10.2.2.2.2.2.2.2)) (fun x11 => again ((Go.IntKind.wrap .i64 (x11.1 + (1 : Int))), x11.2.1, x11.2.2.1, x11.2.2.2.1, x11.2.2.2.2.1, x11.2.2.2.2.2.1, x11.2.2.2.2.2.2)) (t2.1, (0 : Int), t2.2.1, t2.2.2.1, t2.2.2.2.1, t2.2.2.2.2.1, t2.2.2.2.2.2.1, t2.2.2.2.2.2.2, (rd_Vol t2.2.2.2.2.2.1 t2.1).1, (rd_Vol t2.2.2.2.2.2.1 t2.1).2.1, (rd_Vol t2.2.2.2.2.2.1 t2.1).2.2.1, (rd_Vol t2.2.2.2.2.2.1 t2.1).2.2.2) else none else none else k1 (t2.2.1, t2.2.2.1, t2.2.2.2.1, t2.2.2.2.2.1, t2.2.2.2.2.2.1, t2.2.2.2.2.2.2)
noncomputable def L_spec_l10Vols_2 {R : Type} (k0 : Qz76 → Option R) (k1 : Qz77 → Option R) (t : T_spec_l10Vols_2) : Option R := iter (S_spec_l10Vols_2 k0 k1) FUEL t
noncomputable def F_spec_l10Vols (x : Qz77) : Option Bool :=
  L_spec_l10Vols_2 (fun x12 => some x12.1) (fun x13 => some (decide (((List.length x13.2.2.2.2.1 : Nat) : Int) ≤ (6 : Int)))) ((0 : Int), x.1, x.2.1, x.2.2.1, x.2.2.2.1, x.2.2.2.2.1, x.2.2.2.2.2)
noncomputable def f123Q : List QF := [q107, q196, q198, q199]
def f123e8_0 (t : Qz73) : St := ⟨.dead :: .box 1 0 :: .dead :: vI t.1 :: .box 4 0 :: vI t.2.1 :: dd 73 [], [(1, .box [v_i64 t.2.2.1, v_Node t.2.2.2.1, v_Age t.2.2.2.2.1, v_Cell t.2.2.2.2.2.1, v_Vol t.2.2.2.2.2.2.1, vI t.2.2.2.2.2.2.2.1]), (4, .box [vS t.2.2.2.2.2.2.2.2.1, vI t.2.2.2.2.2.2.2.2.2.1, vI t.2.2.2.2.2.2.2.2.2.2.1, vB t.2.2.2.2.2.2.2.2.2.2.2])]⟩
noncomputable def f123g8 : Gk T_spec_l10Vols_8 := fun κ => S_spec_l10Vols_8 (fun t => κ none ⟨.dead :: .box 1 0 :: vB t.1 :: vI t.2.1 :: dd 75 [], [(1, .box [v_i64 t.2.2.1, v_Node t.2.2.2.1, v_Age t.2.2.2.2.1, v_Cell t.2.2.2.2.2.1, v_Vol t.2.2.2.2.2.2.1, vI t.2.2.2.2.2.2.2])]⟩) (fun t => κ (some 2) ⟨.dead :: .box 1 0 :: .dead :: vI t.1 :: dd 75 [], [(1, .box [v_i64 t.2.1, v_Node t.2.2.1, v_Age t.2.2.2.1, v_Cell t.2.2.2.2.1, v_Vol t.2.2.2.2.2.1, vI t.2.2.2.2.2.2])]⟩)
def f123e2_0 (t : Qz75) : St := ⟨.dead :: .box 1 0 :: .dead :: vI t.1 :: dd 75 [], [(1, .box [v_i64 t.2.1, v_Node t.2.2.1, v_Age t.2.2.2.1, v_Cell t.2.2.2.2.1, v_Vol t.2.2.2.2.2.1, vI t.2.2.2.2.2.2])]⟩
noncomputable def f123g2 : Gk T_spec_l10Vols_2 := fun κ => S_spec_l10Vols_2 (fun t => κ none ⟨.dead :: .box 1 0 :: vB t.1 :: dd 76 [], [(1, .box [v_i64 t.2.1, v_Node t.2.2.1, v_Age t.2.2.2.1, v_Cell t.2.2.2.2.1, v_Vol t.2.2.2.2.2.1, vI t.2.2.2.2.2.2])]⟩) (fun t => κ (some 0) ⟨.dead :: .box 1 0 :: dd 77 [], [(1, .box [v_i64 t.1, v_Node t.2.1, v_Age t.2.2.1, v_Cell t.2.2.2.1, v_Vol t.2.2.2.2.1, vI t.2.2.2.2.2])]⟩)
noncomputable def f123P : Lp := lpC 2 (unG qz75 f123e2_0) @f123g2 (lpC 8 (unG qz73 f123e8_0) @f123g8 lpN)
theorem f123C8 : LF f123Q f123P 123 8 Tryz.f123 1 f123e8_0 @f123g8 fun t => t := fun R κ again t => by kernel_rfl
theorem f123k8 : LK f123Q f123P 123 Tryz.f123 1 := loop_okG (u := (unG qz73 f123e8_0)) (by kernel_rfl) (unG_ok fun t => by kernel_rfl) (fun R κ s => by kernel_rfl) f123C8
theorem f123C2 : LF f123Q f123P 123 2 Tryz.f123 0 f123e2_0 @f123g2 fun t => t := fun R κ again t => by kernel_rfl
theorem f123k2 : LK f123Q f123P 123 Tryz.f123 0 := loop_okG (u := (unG qz75 f123e2_0)) (by kernel_rfl) (unG_ok fun t => by kernel_rfl) (fun R κ s => by kernel_rfl) f123C2
theorem ev123 : EV f123Q f123P 123 Tryz.f123 sg123 qz77 [.bool] F_spec_l10Vols := fun x => by kernel_rfl
noncomputable def q123 : QF := ⟨123, F_spec_l10Vols, okN (n := 2) Tryz.func123 (by kernel_rfl) (by kernel_rfl) ⟨f123k2, f123k8, trivial⟩ ev123⟩
noncomputable def F_spec_CellAt (x : Qz78) : Option Qz79 :=
  Option.bind (F_spec_l1In (x.2.1, (0 : Int), (Go.IntKind.wrap .i64 (((List.length x.1 : Nat) : Int) - (1 : Int))))) fun r1 => Option.bind (bif (!r1) then some true else if (0 : Int) ≤ x.2.1 then if x.2.1 < ((List.length x.1 : Nat) : Int) then some (!((rd_Cell x.1 x.2.1).2.1)) else none else none) fun u2 => Option.bind (bif u2 then some true else if (0 : Int) ≤ x.2.1 then if x.2.1 < ((List.length x.1 : Nat) : Int) then some ((rd_Cell x.1 x.2.1).1 != x.2.2) else none else none) fun u3 => bif u3 then some ((0 : Int), false) else if (0 : Int) ≤ x.2.1 then if x.2.1 < ((List.length x.1 : Nat) : Int) then some ((rd_Cell x.1 x.2.1).2.2, true) else none else none
theorem ev200 : EV [q107] lpN 200 Tryz.f200 sg200 qz78 qz79 F_spec_CellAt := fun x => by kernel_rfl
noncomputable def q200 : QF := ⟨200, F_spec_CellAt, okN (n := 0) Tryz.func200 (by kernel_rfl) (by kernel_rfl) trivial ev200⟩
abbrev T_spec_UsedCells_3 : Type := Qz78
noncomputable def S_spec_UsedCells_3 {R : Type} (k0 : Int → Option R) (again : T_spec_UsedCells_3 → Option R) (t3 : T_spec_UsedCells_3) : Option R :=
  bif (decide (t3.2.2 < ((List.length t3.1 : Nat) : Int))) then if (0 : Int) ≤ t3.2.2 then if t3.2.2 < ((List.length t3.1 : Nat) : Int) then bif (rd_Cell t3.1 t3.2.2).2.1 then again (t3.1, (Go.IntKind.wrap .i64 (t3.2.1 + (1 : Int))), (Go.IntKind.wrap .i64 (t3.2.2 + (1 : Int)))) else again (t3.1, t3.2.1, (Go.IntKind.wrap .i64 (t3.2.2 + (1 : Int)))) else none else none else k0 t3.2.1
noncomputable def L_spec_UsedCells_3 {R : Type} (k0 : Int → Option R) (t : T_spec_UsedCells_3) : Option R := iter (S_spec_UsedCells_3 k0) FUEL t
noncomputable def F_spec_UsedCells (x : List E_Cell) : Option Int :=
  L_spec_UsedCells_3 (fun x1 => some x1) (x, (0 : Int), (0 : Int))
noncomputable def f201Q : List QF := []
def f201e3_0 (t : Qz78) : St := ⟨v_Cell t.1 :: dd 2 (vI t.2.1 :: vI t.2.2 :: dd 14 []), []⟩
noncomputable def f201g3 : Gk T_spec_UsedCells_3 := fun κ => S_spec_UsedCells_3 (fun t => κ (some 0) ⟨dd 3 (vI t :: dd 15 []), []⟩)
noncomputable def f201P : Lp := lpC 3 (unG qz78 f201e3_0) @f201g3 lpN
theorem f201C3 : LF f201Q f201P 201 3 Tryz.f201 0 f201e3_0 @f201g3 fun t => t := fun R κ again t => by kernel_rfl
theorem f201k3 : LK f201Q f201P 201 Tryz.f201 0 := loop_okG (u := (unG qz78 f201e3_0)) (by kernel_rfl) (unG_ok fun t => by kernel_rfl) (fun R κ s => by kernel_rfl) f201C3
theorem ev201 : EV f201Q f201P 201 Tryz.f201 sg201 [(.sl 95 ts_Cell)] [(.int .i64)] F_spec_UsedCells := fun x => by kernel_rfl
noncomputable def q201 : QF := ⟨201, F_spec_UsedCells, okN (n := 1) Tryz.func201 (by kernel_rfl) (by kernel_rfl) ⟨f201k3, trivial⟩ ev201⟩
abbrev T_spec_l10Keys_14 : Type := Qz80
noncomputable def S_spec_l10Keys_14 {R : Type} (k0 : Qz81 → Option R) (k1 : Qz82 → Option R) (again : T_spec_l10Keys_14 → Option R) (t14 : T_spec_l10Keys_14) : Option R :=
  bif (decide (t14.2.2.1 < t14.2.1)) then if (0 : Int) ≤ t14.2.2.1 then if t14.2.2.1 < ((List.length t14.2.2.2.2.2.2.2.2.2 : Nat) : Int) then Option.bind (bif ((rd_Key t14.2.2.2.2.2.2.2.2.2 t14.2.2.1).2.2.1 == (1 : Int)) then if (0 : Int) ≤ t14.2.2.1 then if t14.2.2.1 < ((List.length t14.2.2.2.2.2.2.2.2.2 : Nat) : Int) then if (0 : Int) ≤ t14.2.1 then if t14.2.1 < ((List.length t14.2.2.2.2.2.2.2.2.2 : Nat) : Int) then some ((rd_Key t14.2.2.2.2.2.2.2.2.2 t14.2.2.1).2.2.2.1 == (rd_Key t14.2.2.2.2.2.2.2.2.2 t14.2.1).2.2.2.1) else none else none else none else none else some false) fun u4 => bif u4 then k0 (false, t14.1, t14.2.1, t14.2.2.2.1, t14.2.2.2.2.1, t14.2.2.2.2.2.1, t14.2.2.2.2.2.2.1, t14.2.2.2.2.2.2.2.1, t14.2.2.2.2.2.2.2.2.1, t14.2.2.2.2.2.2.2.2.2) else again (t14.1, t14.2.1, (Go.IntKind.wrap .i64 (t14.2.2.1 + (1 : Int))), t14.2.2.2.1, t14.2.2.2.2.1, t14.2.2.2.2.2.1, t14.2.2.2.2.2.2.1, t14.2.2.2.2.2.2.2.1, t14.2.2.2.2.2.2.2.2.1, t14.2.2.2.2.2.2.2.2.2) else none else none else k1 (t14.1, t14.2.1, t14.2.2.2.1, t14.2.2.2.2.1, t14.2.2.2.2.2.1, t14.2.2.2.2.2.2.1, t14.2.2.2.2.2.2.2.1, t14.2.2.2.2.2.2.2.2.1, t14.2.2.2.2.2.2.2.2.2)
noncomputable def L_spec_l10Keys_14 {R : Type} (k0 : Qz81 → Option R) (k1 : Qz82 → Option R) (t : T_spec_l10Keys_14) : Option R := iter (S_spec_l10Keys_14 k0 k1) FUEL t
abbrev T_spec_l10Keys_4 : Type := Qz82
noncomputable def S_spec_l10Keys_4 {R : Type} (k0 : Qz74 → Option R) (k1 : Qz75 → Option R) (again : T_spec_l10Keys_4 → Option R) (t4 : T_spec_l10Keys_4) : Option R :=
  bif (decide (t4.2.1 < ((List.length t4.2.2.2.2.2.2.2.2 : Nat) : Int))) then if (0 : Int) ≤ t4.2.1 then if t4.2.1 < ((List.length t4.2.2.2.2.2.2.2.2 : Nat) : Int) then Option.bind (F_spec_AgeAt (t4.2.2.2.2.1, (rd_Key t4.2.2.2.2.2.2.2.2 t4.2.1).2.1)) fun r2 => bif (decide (r2 < (0 : Int))) then k0 (false, t4.1, t4.2.2.1, t4.2.2.2.1, t4.2.2.2.2.1, t4.2.2.2.2.2.1, t4.2.2.2.2.2.2.1, t4.2.2.2.2.2.2.2.1) else if (0 : Int) ≤ t4.2.1 then if t4.2.1 < ((List.length t4.2.2.2.2.2.2.2.2 : Nat) : Int) then bif ((rd_Key t4.2.2.2.2.2.2.2.2 t4.2.1).2.2.1 != (1 : Int)) then again (t4.1, (Go.IntKind.wrap .i64 (t4.2.1 + (1 : Int))), t4.2.2.1, t4.2.2.2.1, t4.2.2.2.2.1, t4.2.2.2.2.2.1, t4.2.2.2.2.2.2.1, t4.2.2.2.2.2.2.2.1, t4.2.2.2.2.2.2.2.2) else if (0 : Int) ≤ t4.2.1 then if t4.2.1 < ((List.length t4.2.2.2.2.2.2.2.2 : Nat) : Int) then if (0 : Int) ≤ t4.2.1 then if t4.2.1 < ((List.length t4.2.2.2.2.2.2.2.2 : Nat) : Int) then Option.bind (F_spec_CellAt (t4.2.2.2.2.2.1, (rd_Key t4.2.2.2.2.2.2.2.2 t4.2.1).2.2.2.1, (rd_Key t4.2.2.2.2.2.2.2.2 t4.2.1).2.2.2.2)) fun r3 => bif (!r3.2) then k0 (false, (Go.IntKind.wrap .i64 (t4.1 + (1 : Int))), t4.2.2.1, t4.2.2.2.1, t4.2.2.2.2.1, t4.2.2.2.2.2.1, t4.2.2.2.2.2.2.1, t4.2.2.2.2.2.2.2.1) else L_spec_l10Keys_14 (fun x5 => k0 (x5.1, x5.2.1, x5.2.2.2.1, x5.2.2.2.2.1, x5.2.2.2.2.2.1, x5.2.2.2.2.2.2.1, x5.2.2.2.2.2.2.2.1, x5.2.2.2.2.2.2.2.2.1)) (fun x6 => again (x6.1, (Go.IntKind.wrap .i64 (x6.2.1 + (1 : Int))), x6.2.2.1, x6.2.2.2.1, x6.2.2.2.2.1, x6.2.2.2.2.2.1, x6.2.2.2.2.2.2.1, x6.2.2.2.2.2.2.2.1, x6.2.2.2.2.2.2.2.2)) ((Go.IntKind.wrap .i64 (t4.1 + (1 : Int))), t4.2.1, (0 : Int), t4.2.2.1, t4.2.2.2.1, t4.2.2.2.2.1, t4.2.2.2.2.2.1, t4.2.2.2.2.2.2.1, t4.2.2.2.2.2.2.2.1, t4.2.2.2.2.2.2.2.2) else none else none else none else none else none else none else none else none else k1 (t4.1, t4.2.2.1, t4.2.2.2.1, t4.2.2.2.2.1, t4.2.2.2.2.2.1, t4.2.2.2.2.2.2.1, t4.2.2.2.2.2.2.2.1)
noncomputable def L_spec_l10Keys_4 {R : Type} (k0 : Qz74 → Option R) (k1 : Qz75 → Option R) (t : T_spec_l10Keys_4) : Option R := iter (S_spec_l10Keys_4 k0 k1) FUEL t
noncomputable def F_spec_l10Keys (x : Qz77) : Option Bool :=
  Option.bind (F_spec_TreeKeys (x.1, x.2.1)) fun r1 => L_spec_l10Keys_4 (fun x7 => some x7.1) (fun x8 => Option.bind (F_spec_UsedCells x8.2.2.2.2.1) fun r9 => some (x8.1 == r9)) ((0 : Int), (0 : Int), x.1, x.2.1, x.2.2.1, x.2.2.2.1, x.2.2.2.2.1, x.2.2.2.2.2, r1)
noncomputable def f124Q : List QF := [q188, q196, q200, q201]
def f124e14_0 (t : Qz80) : St := ⟨.dead :: .box 1 0 :: .dead :: .own 10000000 :: vI t.1 :: vI t.2.1 :: dd 2 (vI t.2.2.1 :: dd 73 []), [(1, .box [v_i64 t.2.2.2.1, v_Node t.2.2.2.2.1, v_Age t.2.2.2.2.2.1, v_Cell t.2.2.2.2.2.2.1, v_Vol t.2.2.2.2.2.2.2.1, vI t.2.2.2.2.2.2.2.2.1]), (10000000, .root true 106 ts_Key t.2.2.2.2.2.2.2.2.2)]⟩
noncomputable def f124g14 : Gk T_spec_l10Keys_14 := fun κ => S_spec_l10Keys_14 (fun t => κ none ⟨.dead :: .box 1 0 :: vB t.1 :: .own 10000000 :: vI t.2.1 :: vI t.2.2.1 :: dd 76 [], [(1, .box [v_i64 t.2.2.2.1, v_Node t.2.2.2.2.1, v_Age t.2.2.2.2.2.1, v_Cell t.2.2.2.2.2.2.1, v_Vol t.2.2.2.2.2.2.2.1, vI t.2.2.2.2.2.2.2.2.1]), (10000000, .root true 106 ts_Key t.2.2.2.2.2.2.2.2.2)]⟩) (fun t => κ (some 2) ⟨.dead :: .box 1 0 :: .dead :: .own 10000000 :: vI t.1 :: vI t.2.1 :: dd 76 [], [(1, .box [v_i64 t.2.2.1, v_Node t.2.2.2.1, v_Age t.2.2.2.2.1, v_Cell t.2.2.2.2.2.1, v_Vol t.2.2.2.2.2.2.1, vI t.2.2.2.2.2.2.2.1]), (10000000, .root true 106 ts_Key t.2.2.2.2.2.2.2.2)]⟩)
def f124e4_0 (t : Qz82) : St := ⟨.dead :: .box 1 0 :: .dead :: .own 10000000 :: vI t.1 :: vI t.2.1 :: dd 76 [], [(1, .box [v_i64 t.2.2.1, v_Node t.2.2.2.1, v_Age t.2.2.2.2.1, v_Cell t.2.2.2.2.2.1, v_Vol t.2.2.2.2.2.2.1, vI t.2.2.2.2.2.2.2.1]), (10000000, .root true 106 ts_Key t.2.2.2.2.2.2.2.2)]⟩
noncomputable def f124g4 : Gk T_spec_l10Keys_4 := fun κ => S_spec_l10Keys_4 (fun t => κ none ⟨.dead :: .box 1 0 :: vB t.1 :: .dead :: vI t.2.1 :: dd 77 [], [(1, .box [v_i64 t.2.2.1, v_Node t.2.2.2.1, v_Age t.2.2.2.2.1, v_Cell t.2.2.2.2.2.1, v_Vol t.2.2.2.2.2.2.1, vI t.2.2.2.2.2.2.2])]⟩) (fun t => κ (some 0) ⟨.dead :: .box 1 0 :: dd 2 (vI t.1 :: dd 77 []), [(1, .box [v_i64 t.2.1, v_Node t.2.2.1, v_Age t.2.2.2.1, v_Cell t.2.2.2.2.1, v_Vol t.2.2.2.2.2.1, vI t.2.2.2.2.2.2])]⟩)
noncomputable def f124P : Lp := lpC 4 (unG qz82 f124e4_0) @f124g4 (lpC 14 (unG qz80 f124e14_0) @f124g14 lpN)
theorem f124C14 : LF f124Q f124P 124 14 Tryz.f124 1 f124e14_0 @f124g14 fun t => t := fun R κ again t => by kernel_rfl
theorem f124k14 : LK f124Q f124P 124 Tryz.f124 1 := loop_okG (u := (unG qz80 f124e14_0)) (by kernel_rfl) (unG_ok fun t => by kernel_rfl) (fun R κ s => by kernel_rfl) f124C14
theorem f124C4 : LF f124Q f124P 124 4 Tryz.f124 0 f124e4_0 @f124g4 fun t => t := fun R κ again t => by kernel_rfl
theorem f124k4 : LK f124Q f124P 124 Tryz.f124 0 := loop_okG (u := (unG qz82 f124e4_0)) (by kernel_rfl) (unG_ok fun t => by kernel_rfl) (fun R κ s => by kernel_rfl) f124C4
theorem ev124 : EV f124Q f124P 124 Tryz.f124 sg124 qz77 [.bool] F_spec_l10Keys := fun x => by kernel_rfl
noncomputable def q124 : QF := ⟨124, F_spec_l10Keys, okN (n := 2) Tryz.func124 (by kernel_rfl) (by kernel_rfl) ⟨f124k4, f124k14, trivial⟩ ev124⟩
abbrev T_spec_PoolOk_2 : Type := Qz75
noncomputable def S_spec_PoolOk_2 {R : Type} (k0 : Qz76 → Option R) (k1 : Qz77 → Option R) (again : T_spec_PoolOk_2 → Option R) (t2 : T_spec_PoolOk_2) : Option R :=
  bif (decide (t2.1 < ((List.length t2.2.2.2.1 : Nat) : Int))) then if (0 : Int) ≤ t2.1 then if t2.1 < ((List.length t2.2.2.2.1 : Nat) : Int) then bif (decide ((rd_Age t2.2.2.2.1 t2.1).1 ≥ t2.2.2.2.2.2.2)) then k0 (false, t2.2.1, t2.2.2.1, t2.2.2.2.1, t2.2.2.2.2.1, t2.2.2.2.2.2.1, t2.2.2.2.2.2.2) else again ((Go.IntKind.wrap .i64 (t2.1 + (1 : Int))), t2.2.1, t2.2.2.1, t2.2.2.2.1, t2.2.2.2.2.1, t2.2.2.2.2.2.1, t2.2.2.2.2.2.2) else none else none else k1 (t2.2.1, t2.2.2.1, t2.2.2.2.1, t2.2.2.2.2.1, t2.2.2.2.2.2.1, t2.2.2.2.2.2.2)
noncomputable def L_spec_PoolOk_2 {R : Type} (k0 : Qz76 → Option R) (k1 : Qz77 → Option R) (t : T_spec_PoolOk_2) : Option R := iter (S_spec_PoolOk_2 k0 k1) FUEL t
noncomputable def F_spec_PoolOk (x : Qz77) : Option Bool :=
  L_spec_PoolOk_2 (fun x1 => some x1.1) (fun x2 => Option.bind (F_spec_TreeOk (x2.1, x2.2.1)) fun r3 => Option.bind (bif r3 then Option.bind (F_spec_AgesOk x2.2.2.1) fun r5 => some r5 else some false) fun u4 => Option.bind (bif u4 then Option.bind (F_spec_CellsOk x2.2.2.2.1) fun r7 => some r7 else some false) fun u6 => Option.bind (bif u6 then Option.bind (F_spec_l1In (x2.2.2.2.2.2, (1 : Int), (61 : Int))) fun r9 => some r9 else some false) fun u8 => Option.bind (bif u8 then Option.bind (F_spec_l10Vols (x2.1, x2.2.1, x2.2.2.1, x2.2.2.2.1, x2.2.2.2.2.1, x2.2.2.2.2.2)) fun r11 => some r11 else some false) fun u10 => Option.bind (bif u10 then Option.bind (F_spec_l10Keys (x2.1, x2.2.1, x2.2.2.1, x2.2.2.2.1, x2.2.2.2.2.1, x2.2.2.2.2.2)) fun r13 => some r13 else some false) fun u12 => some u12) ((0 : Int), x.1, x.2.1, x.2.2.1, x.2.2.2.1, x.2.2.2.2.1, x.2.2.2.2.2)
noncomputable def f47Q : List QF := [q107, q120, q121, q122, q123, q124]
def f47e2_0 (t : Qz75) : St := ⟨.dead :: .box 1 0 :: .dead :: vI t.1 :: dd 42 [], [(1, .box [v_i64 t.2.1, v_Node t.2.2.1, v_Age t.2.2.2.1, v_Cell t.2.2.2.2.1, v_Vol t.2.2.2.2.2.1, vI t.2.2.2.2.2.2])]⟩
noncomputable def f47g2 : Gk T_spec_PoolOk_2 := fun κ => S_spec_PoolOk_2 (fun t => κ none ⟨.dead :: .box 1 0 :: vB t.1 :: dd 43 [], [(1, .box [v_i64 t.2.1, v_Node t.2.2.1, v_Age t.2.2.2.1, v_Cell t.2.2.2.2.1, v_Vol t.2.2.2.2.2.1, vI t.2.2.2.2.2.2])]⟩) (fun t => κ (some 0) ⟨.dead :: .box 1 0 :: dd 44 [], [(1, .box [v_i64 t.1, v_Node t.2.1, v_Age t.2.2.1, v_Cell t.2.2.2.1, v_Vol t.2.2.2.2.1, vI t.2.2.2.2.2])]⟩)
noncomputable def f47P : Lp := lpC 2 (unG qz75 f47e2_0) @f47g2 lpN
theorem f47C2 : LF f47Q f47P 47 2 Tryz.f47 0 f47e2_0 @f47g2 fun t => t := fun R κ again t => by kernel_rfl
theorem f47k2 : LK f47Q f47P 47 Tryz.f47 0 := loop_okG (u := (unG qz75 f47e2_0)) (by kernel_rfl) (unG_ok fun t => by kernel_rfl) (fun R κ s => by kernel_rfl) f47C2
theorem ev47 : EV f47Q f47P 47 Tryz.f47 sg47 qz77 [.bool] F_spec_PoolOk := fun x => by kernel_rfl
noncomputable def q47 : QF := ⟨47, F_spec_PoolOk, okN (n := 1) Tryz.func47 (by kernel_rfl) (by kernel_rfl) ⟨f47k2, trivial⟩ ev47⟩
noncomputable def F_spec_l16Byte (x : Qz83) : Option Qz84 :=
  Option.bind (bif x.2.2 then some true else some (decide (x.2.1 ≥ ((List.length x.1 : Nat) : Int)))) fun u1 => bif u1 then some ((0 : Int), x.1, x.2.1, true) else if (0 : Int) ≤ (Go.IntKind.wrap .i64 ((Go.IntKind.wrap .i64 (x.2.1 + (1 : Int))) - (1 : Int))) then if (Go.IntKind.wrap .i64 ((Go.IntKind.wrap .i64 (x.2.1 + (1 : Int))) - (1 : Int))) < ((List.length x.1 : Nat) : Int) then some ((Go.IntKind.wrap .i64 (rd_u8 x.1 (Go.IntKind.wrap .i64 ((Go.IntKind.wrap .i64 (x.2.1 + (1 : Int))) - (1 : Int))))), x.1, (Go.IntKind.wrap .i64 (x.2.1 + (1 : Int))), x.2.2) else none else none
theorem ev84 : EV [] lpN 84 Tryz.f84 sg84 qz83 qz84 F_spec_l16Byte := fun x => by kernel_rfl
noncomputable def q84 : QF := ⟨84, F_spec_l16Byte, okN (n := 0) Tryz.func84 (by kernel_rfl) (by kernel_rfl) trivial ev84⟩
noncomputable def F_spec_l16Word (x : Qz83) : Option Qz84 :=
  Option.bind (F_spec_l16Byte (x.1, x.2.1, x.2.2)) fun r1 => Option.bind (F_spec_l16Byte (r1.2.1, r1.2.2.1, r1.2.2.2)) fun r2 => some ((Go.bits .or .i64 (Go.IntKind.wrap .i64 (r1.1 * 2 ^ (min (Int.toNat (8 : Int)) (Go.IntKind.bits .i64)))) r2.1), r2.2.1, r2.2.2.1, r2.2.2.2)
theorem ev83 : EV [q84] lpN 83 Tryz.f83 sg83 qz83 qz84 F_spec_l16Word := fun x => by kernel_rfl
noncomputable def q83 : QF := ⟨83, F_spec_l16Word, okN (n := 0) Tryz.func83 (by kernel_rfl) (by kernel_rfl) trivial ev83⟩
noncomputable def F_spec_l16Is (x : Qz83) : Option Qz85 :=
  Option.bind (F_spec_l16Byte (x.1, x.2.1, x.2.2)) fun r1 => Option.bind (bif r1.2.2.2 then some true else some (decide (r1.1 > (1 : Int)))) fun u2 => some ((r1.1 == (1 : Int)), r1.2.1, r1.2.2.1, u2)
theorem ev86 : EV [q84] lpN 86 Tryz.f86 sg86 qz83 qz85 F_spec_l16Is := fun x => by kernel_rfl
noncomputable def q86 : QF := ⟨86, F_spec_l16Is, okN (n := 0) Tryz.func86 (by kernel_rfl) (by kernel_rfl) trivial ev86⟩
noncomputable def F_spec_GetW (x : Qz50) : Option Qz86 :=
  Option.bind (F_spec_l1In (x.2, (0 : Int), (Go.IntKind.wrap .i64 (((List.length x.1 : Nat) : Int) - (2 : Int))))) fun r1 => bif (!r1) then some ((0 : Int), (0 : Int), false) else if (0 : Int) ≤ x.2 then if x.2 < ((List.length x.1 : Nat) : Int) then if (0 : Int) ≤ (Go.IntKind.wrap .i64 (x.2 + (1 : Int))) then if (Go.IntKind.wrap .i64 (x.2 + (1 : Int))) < ((List.length x.1 : Nat) : Int) then some ((Go.bits .or .i64 (Go.IntKind.wrap .i64 ((Go.IntKind.wrap .i64 (rd_u8 x.1 x.2)) * 2 ^ (min (Int.toNat (8 : Int)) (Go.IntKind.bits .i64)))) (Go.IntKind.wrap .i64 (rd_u8 x.1 (Go.IntKind.wrap .i64 (x.2 + (1 : Int)))))), (Go.IntKind.wrap .i64 (x.2 + (2 : Int))), true) else none else none else none else none
theorem ev151 : EV [q107] lpN 151 Tryz.f151 sg151 qz50 qz86 F_spec_GetW := fun x => by kernel_rfl
noncomputable def q151 : QF := ⟨151, F_spec_GetW, okN (n := 0) Tryz.func151 (by kernel_rfl) (by kernel_rfl) trivial ev151⟩
noncomputable def F_spec_GetText (x : Qz50) : Option Qz87 :=
  Option.bind (F_spec_GetW (x.1, x.2)) fun r1 => Option.bind (bif (!r1.2.2) then some true else some (decide (r1.1 > (60 : Int)))) fun u2 => Option.bind (bif u2 then some true else some (decide (r1.1 > (Go.IntKind.wrap .i64 (((List.length x.1 : Nat) : Int) - r1.2.1))))) fun u3 => bif u3 then some ({ data := #[] }, (0 : Int), false) else if (0 : Int) ≤ r1.2.1 then if r1.2.1 ≤ (Go.IntKind.wrap .i64 (r1.2.1 + r1.1)) then if (Go.IntKind.wrap .i64 (r1.2.1 + r1.1)) ≤ ((List.length x.1 : Nat) : Int) then some ((textOf (List.drop (Int.toNat r1.2.1) (List.take (Int.toNat (Go.IntKind.wrap .i64 (r1.2.1 + r1.1))) x.1))), (Go.IntKind.wrap .i64 (r1.2.1 + r1.1)), true) else none else none else none
theorem ev163 : EV [q151] lpN 163 Tryz.f163 sg163 qz50 qz87 F_spec_GetText := fun x => by kernel_rfl
noncomputable def q163 : QF := ⟨163, F_spec_GetText, okN (n := 0) Tryz.func163 (by kernel_rfl) (by kernel_rfl) trivial ev163⟩
noncomputable def F_spec_l16Vol (x : Qz83) : Option Qz88 :=
  Option.bind (F_spec_GetText (x.1, x.2.1)) fun r1 => Option.bind (bif x.2.2 then some true else some (!r1.2.2)) fun u2 => bif u2 then some ((⟨#[]⟩ : ByteArray), (0 : Int), (0 : Int), false, x.1, x.2.1, true) else Option.bind (F_spec_l16Byte (x.1, r1.2.1, x.2.2)) fun r3 => Option.bind (F_spec_l16Byte (r3.2.1, r3.2.2.1, r3.2.2.2)) fun r4 => Option.bind (F_spec_l16Is (r4.2.1, r4.2.2.1, r4.2.2.2)) fun r5 => some (r1.1, r3.1, r4.1, r5.1, r5.2.1, r5.2.2.1, r5.2.2.2)
theorem ev85 : EV [q84, q86, q163] lpN 85 Tryz.f85 sg85 qz83 qz88 F_spec_l16Vol := fun x => by kernel_rfl
noncomputable def q85 : QF := ⟨85, F_spec_l16Vol, okN (n := 0) Tryz.func85 (by kernel_rfl) (by kernel_rfl) trivial ev85⟩
noncomputable def F_spec_GetKey (x : Qz50) : Option Qz89 :=
  Option.bind (F_spec_l1In (x.2, (0 : Int), (Go.IntKind.wrap .i64 (((List.length x.1 : Nat) : Int) - (6 : Int))))) fun r1 => bif (!r1) then some ((0 : Int), (0 : Int), (0 : Int), (0 : Int), (0 : Int), (0 : Int), false) else Option.bind (F_spec_GetW (x.1, (Go.IntKind.wrap .i64 (x.2 + (4 : Int))))) fun r2 => if (0 : Int) ≤ x.2 then if x.2 < ((List.length x.1 : Nat) : Int) then if (0 : Int) ≤ (Go.IntKind.wrap .i64 (x.2 + (1 : Int))) then if (Go.IntKind.wrap .i64 (x.2 + (1 : Int))) < ((List.length x.1 : Nat) : Int) then if (0 : Int) ≤ (Go.IntKind.wrap .i64 (x.2 + (2 : Int))) then if (Go.IntKind.wrap .i64 (x.2 + (2 : Int))) < ((List.length x.1 : Nat) : Int) then if (0 : Int) ≤ (Go.IntKind.wrap .i64 (x.2 + (3 : Int))) then if (Go.IntKind.wrap .i64 (x.2 + (3 : Int))) < ((List.length x.1 : Nat) : Int) then Option.bind (F_spec_KeyOk ((Go.IntKind.wrap .i64 (rd_u8 x.1 x.2)), (Go.IntKind.wrap .i64 (rd_u8 x.1 (Go.IntKind.wrap .i64 (x.2 + (1 : Int))))), (Go.IntKind.wrap .i64 (rd_u8 x.1 (Go.IntKind.wrap .i64 (x.2 + (2 : Int))))), (Go.IntKind.wrap .i64 (rd_u8 x.1 (Go.IntKind.wrap .i64 (x.2 + (3 : Int))))), r2.1)) fun r3 => bif (!r3) then some ((0 : Int), (0 : Int), (0 : Int), (0 : Int), (0 : Int), (0 : Int), false) else some ((Go.IntKind.wrap .i64 (rd_u8 x.1 x.2)), (Go.IntKind.wrap .i64 (rd_u8 x.1 (Go.IntKind.wrap .i64 (x.2 + (1 : Int))))), (Go.IntKind.wrap .i64 (rd_u8 x.1 (Go.IntKind.wrap .i64 (x.2 + (2 : Int))))), (Go.IntKind.wrap .i64 (rd_u8 x.1 (Go.IntKind.wrap .i64 (x.2 + (3 : Int))))), r2.1, r2.2.1, true) else none else none else none else none else none else none else none else none
theorem ev219 : EV [q107, q151, q202] lpN 219 Tryz.f219 sg219 qz50 qz89 F_spec_GetKey := fun x => by kernel_rfl
noncomputable def q219 : QF := ⟨219, F_spec_GetKey, okN (n := 0) Tryz.func219 (by kernel_rfl) (by kernel_rfl) trivial ev219⟩
abbrev T_spec_l16Keys_3 : Type := Qz90
noncomputable def S_spec_l16Keys_3 {R : Type} (k0 : Qz91 → Option R) (k1 : Qz91 → Option R) (again : T_spec_l16Keys_3 → Option R) (t3 : T_spec_l16Keys_3) : Option R :=
  Option.bind (bif (decide (t3.1 > (0 : Int))) then some (!t3.2.2.2.1) else some false) fun u2 => bif u2 then Option.bind (F_spec_GetKey (t3.2.1, t3.2.2.1)) fun r3 => bif (!r3.2.2.2.2.2.2) then k0 (t3.2.1, t3.2.2.1, true, t3.2.2.2.2) else if (List.length t3.2.2.2.2 + List.length ([(r3.1, r3.2.1, r3.2.2.1, r3.2.2.2.1, r3.2.2.2.2.1)] : List E_Key)) * 40 < 140737488355328 then again ((Go.IntKind.wrap .i64 (t3.1 - (1 : Int))), t3.2.1, r3.2.2.2.2.2.1, t3.2.2.2.1, (t3.2.2.2.2 ++ ([(r3.1, r3.2.1, r3.2.2.1, r3.2.2.2.1, r3.2.2.2.2.1)] : List E_Key))) else none else k1 (t3.2.1, t3.2.2.1, t3.2.2.2.1, t3.2.2.2.2)
noncomputable def L_spec_l16Keys_3 {R : Type} (k0 : Qz91 → Option R) (k1 : Qz91 → Option R) (t : T_spec_l16Keys_3) : Option R := iter (S_spec_l16Keys_3 k0 k1) FUEL t
noncomputable def F_spec_l16Keys (x : Qz83) : Option Qz92 :=
  Option.bind (F_spec_l16Byte (x.1, x.2.1, x.2.2)) fun r1 => L_spec_l16Keys_3 (fun x4 => some (x4.2.2.2, x4.1, x4.2.1, x4.2.2.1)) (fun x5 => some (x5.2.2.2, x5.1, x5.2.1, x5.2.2.1)) (r1.1, r1.2.1, r1.2.2.1, r1.2.2.2, ([] : List E_Key))
noncomputable def f164Q : List QF := [q84, q219]
def f164e3_0 (t : Qz90) : St := ⟨.box 900 0 :: dd 2 (.own 10000000 :: vI t.1 :: dd 45 []), [(900, .box [v_u8 t.2.1, vI t.2.2.1, vB t.2.2.2.1]), (10000000, .root true 106 ts_Key t.2.2.2.2)]⟩
noncomputable def f164g3 : Gk T_spec_l16Keys_3 := fun κ => S_spec_l16Keys_3 (fun t => κ none ⟨.box 900 0 :: .dead :: .own 10000000 :: .own 10000000 :: dd 46 [], [(900, .box [v_u8 t.1, vI t.2.1, vB t.2.2.1]), (10000000, .root true 106 ts_Key t.2.2.2)]⟩) (fun t => κ (some 0) ⟨.box 900 0 :: dd 2 (.own 10000000 :: dd 46 []), [(900, .box [v_u8 t.1, vI t.2.1, vB t.2.2.1]), (10000000, .root true 106 ts_Key t.2.2.2)]⟩)
noncomputable def f164P : Lp := lpC 3 (unG qz90 f164e3_0) @f164g3 lpN
theorem f164C3 : LF f164Q f164P 164 3 Tryz.f164 0 f164e3_0 @f164g3 fun t => t := fun R κ again t => by kernel_rfl
theorem f164k3 : LK f164Q f164P 164 Tryz.f164 0 := loop_okG (u := (unG qz90 f164e3_0)) (by kernel_rfl) (unG_ok fun t => by kernel_rfl) (fun R κ s => by kernel_rfl) f164C3
theorem ev164 : EV f164Q f164P 164 Tryz.f164 sg164 qz83 qz92 F_spec_l16Keys := fun x => by kernel_rfl
noncomputable def q164 : QF := ⟨164, F_spec_l16Keys, okN (n := 1) Tryz.func164 (by kernel_rfl) (by kernel_rfl) ⟨f164k3, trivial⟩ ev164⟩
abbrev T_spec_l16Node_3 : Type := Qz84 ⊕ Qz93
noncomputable def S_spec_l16Node_3 {R : Type} (k0 : Qz83 → Option R) (k1 : Qz94 → Option R) (again : T_spec_l16Node_3 → Option R) : T_spec_l16Node_3 → Option R
  | .inl t3 => Option.bind (bif (decide (t3.1 > (0 : Int))) then some (!t3.2.2.2) else some false) fun u2 => bif u2 then Option.bind (F_spec_l16Keys (t3.2.1, t3.2.2.1, t3.2.2.2)) fun r3 => if List.length ([r3.1] : List E_s_Key) * 24 < 140737488355328 then again (Sum.inr ((Go.IntKind.wrap .i64 (t3.1 - (1 : Int))), r3.2.1, r3.2.2.1, r3.2.2.2, ([r3.1] : List E_s_Key))) else none else k0 (t3.2.1, t3.2.2.1, t3.2.2.2)
  | .inr t3 => Option.bind (bif (decide (t3.1 > (0 : Int))) then some (!t3.2.2.2.1) else some false) fun u4 => bif u4 then Option.bind (F_spec_l16Keys (t3.2.1, t3.2.2.1, t3.2.2.2.1)) fun r5 => if (List.length t3.2.2.2.2 + List.length ([r5.1] : List E_s_Key)) * 24 < 140737488355328 then again (Sum.inr ((Go.IntKind.wrap .i64 (t3.1 - (1 : Int))), r5.2.1, r5.2.2.1, r5.2.2.2, (t3.2.2.2.2 ++ ([r5.1] : List E_s_Key)))) else none else k1 (t3.2.1, t3.2.2.1, t3.2.2.2.1, t3.2.2.2.2)
noncomputable def L_spec_l16Node_3 {R : Type} (k0 : Qz83 → Option R) (k1 : Qz94 → Option R) (t : T_spec_l16Node_3) : Option R := iter (S_spec_l16Node_3 k0 k1) FUEL t
noncomputable def F_spec_l16Node (x : Qz83) : Option Qz95 :=
  Option.bind (F_spec_l16Byte (x.1, x.2.1, x.2.2)) fun r1 => L_spec_l16Node_3 (fun x6 => some (([] : List E_s_Key), x6.1, x6.2.1, x6.2.2)) (fun x7 => some (x7.2.2.2, x7.1, x7.2.1, x7.2.2.1)) (Sum.inl (r1.1, r1.2.1, r1.2.2.1, r1.2.2.2))
noncomputable def f87Q : List QF := [q84, q164]
def f87e3_0 (t : Qz84) : St := ⟨.box 900 0 :: .dead :: .box 2 0 :: .box 3 0 :: vI t.1 :: dd 24 [], [(900, .box [v_u8 t.2.1, vI t.2.2.1, vB t.2.2.2]), (2, .box [.nils]), (3, .box [.nils])]⟩
theorem f87v3_0 : ∀ s t, unG qz84 f87e3_0 s = some t → f87e3_0 t = s := unG_ok fun t => by kernel_rfl
def f87e3_1 (t : Qz93) : St := ⟨.box 900 0 :: .dead :: .box 2 0 :: .box 3 0 :: vI t.1 :: dd 24 [], [(900, .box [v_u8 t.2.1, vI t.2.2.1, vB t.2.2.2.1]), (2, .box [.nils]), (3, .box [.own 10000000]), (10000000, .root true 100 ts_s_Key t.2.2.2.2)]⟩
theorem f87v3_1 : ∀ s t, unG qz93 f87e3_1 s = some t → f87e3_1 t = s := unG_ok fun t => by kernel_rfl
def f87e3r0 : (Qz84 ⊕ Qz93) → St := Sum.elim f87e3_0 f87e3_1
def f87u3r0 (s : St) : Option (Qz84 ⊕ Qz93) := ((unG qz84 f87e3_0 s).map Sum.inl).or (((unG qz93 f87e3_1) s).map Sum.inr)
theorem f87v3r0 : ∀ s t, f87u3r0 s = some t → f87e3r0 t = s := or_un f87v3_0 f87v3_1
noncomputable def f87g3 : Gk T_spec_l16Node_3 := fun κ => S_spec_l16Node_3 (fun t => κ (some 0) ⟨.box 900 0 :: .dead :: .box 2 0 :: .box 3 0 :: dd 25 [], [(900, .box [v_u8 t.1, vI t.2.1, vB t.2.2]), (2, .box [.nils]), (3, .box [.nils])]⟩) (fun t => κ (some 0) ⟨.box 900 0 :: .dead :: .box 2 0 :: .box 3 0 :: dd 25 [], [(900, .box [v_u8 t.1, vI t.2.1, vB t.2.2.1]), (2, .box [.nils]), (3, .box [.own 10000000]), (10000000, .root true 100 ts_s_Key t.2.2.2)]⟩)
noncomputable def f87P : Lp := lpC 3 f87u3r0 @f87g3 lpN
theorem f87C3_0 : LF f87Q f87P 87 3 Tryz.f87 0 f87e3r0 @f87g3 fun v : Qz84 => .inl v := fun R κ again v => by kernel_rfl
theorem f87C3_1 : LF f87Q f87P 87 3 Tryz.f87 0 f87e3r0 @f87g3 fun v : Qz93 => .inr v := fun R κ again v => by kernel_rfl
theorem f87C3 : LF f87Q f87P 87 3 Tryz.f87 0 f87e3r0 @f87g3 fun t => t := (LC.sum f87C3_0 f87C3_1)
theorem f87k3 : LK f87Q f87P 87 Tryz.f87 0 := loop_okG (u := f87u3r0) (by kernel_rfl) f87v3r0 (fun R κ s => by kernel_rfl) f87C3
theorem ev87 : EV f87Q f87P 87 Tryz.f87 sg87 qz83 qz95 F_spec_l16Node := fun x => by kernel_rfl
noncomputable def q87 : QF := ⟨87, F_spec_l16Node, okN (n := 1) Tryz.func87 (by kernel_rfl) (by kernel_rfl) ⟨f87k3, trivial⟩ ev87⟩
abbrev T_spec_GetPool_4 : Type := Qz96
noncomputable def S_spec_GetPool_4 {R : Type} (k0 : Qz97 → Option R) (again : T_spec_GetPool_4 → Option R) (t4 : T_spec_GetPool_4) : Option R :=
  Option.bind (bif (decide (t4.2.1 > (0 : Int))) then some (!t4.2.2.2.2.2.1) else some false) fun u3 => bif u3 then Option.bind (F_spec_l16Byte (t4.2.2.2.1, t4.2.2.2.2.1, t4.2.2.2.2.2.1)) fun r4 => Option.bind (F_spec_l16Byte (r4.2.1, r4.2.2.1, r4.2.2.2)) fun r5 => if (List.length t4.2.2.2.2.2.2.2.2.1 + List.length ([(r4.1, r5.1)] : List E_Age)) * 16 < 140737488355328 then again (t4.1, (Go.IntKind.wrap .i64 (t4.2.1 - (1 : Int))), t4.2.2.1, r5.2.1, r5.2.2.1, r5.2.2.2, t4.2.2.2.2.2.2.1, t4.2.2.2.2.2.2.2.1, (t4.2.2.2.2.2.2.2.2.1 ++ ([(r4.1, r5.1)] : List E_Age)), t4.2.2.2.2.2.2.2.2.2.1, t4.2.2.2.2.2.2.2.2.2.2) else none else k0 (t4.1, t4.2.2.1, t4.2.2.2.1, t4.2.2.2.2.1, t4.2.2.2.2.2.1, t4.2.2.2.2.2.2.1, t4.2.2.2.2.2.2.2.1, t4.2.2.2.2.2.2.2.2.1, t4.2.2.2.2.2.2.2.2.2.1, t4.2.2.2.2.2.2.2.2.2.2)
noncomputable def L_spec_GetPool_4 {R : Type} (k0 : Qz97 → Option R) (t : T_spec_GetPool_4) : Option R := iter (S_spec_GetPool_4 k0) FUEL t
abbrev T_spec_GetPool_10 : Type := Qz96
noncomputable def S_spec_GetPool_10 {R : Type} (k0 : Qz97 → Option R) (again : T_spec_GetPool_10 → Option R) (t10 : T_spec_GetPool_10) : Option R :=
  Option.bind (bif (decide (t10.2.1 > (0 : Int))) then some (!t10.2.2.2.2.2.1) else some false) fun u8 => bif u8 then Option.bind (F_spec_l16Vol (t10.2.2.2.1, t10.2.2.2.2.1, t10.2.2.2.2.2.1)) fun r9 => if (List.length t10.2.2.2.2.2.2.2.2.2.2 + List.length ([(r9.1, r9.2.1, r9.2.2.1, r9.2.2.2.1)] : List E_Vol)) * 40 < 140737488355328 then again (t10.1, (Go.IntKind.wrap .i64 (t10.2.1 - (1 : Int))), t10.2.2.1, r9.2.2.2.2.1, r9.2.2.2.2.2.1, r9.2.2.2.2.2.2, t10.2.2.2.2.2.2.1, t10.2.2.2.2.2.2.2.1, t10.2.2.2.2.2.2.2.2.1, t10.2.2.2.2.2.2.2.2.2.1, (t10.2.2.2.2.2.2.2.2.2.2 ++ ([(r9.1, r9.2.1, r9.2.2.1, r9.2.2.2.1)] : List E_Vol))) else none else k0 (t10.1, t10.2.2.1, t10.2.2.2.1, t10.2.2.2.2.1, t10.2.2.2.2.2.1, t10.2.2.2.2.2.2.1, t10.2.2.2.2.2.2.2.1, t10.2.2.2.2.2.2.2.2.1, t10.2.2.2.2.2.2.2.2.2.1, t10.2.2.2.2.2.2.2.2.2.2)
noncomputable def L_spec_GetPool_10 {R : Type} (k0 : Qz97 → Option R) (t : T_spec_GetPool_10) : Option R := iter (S_spec_GetPool_10 k0) FUEL t
abbrev T_spec_GetPool_15 : Type := Qz96
noncomputable def S_spec_GetPool_15 {R : Type} (k0 : Qz97 → Option R) (again : T_spec_GetPool_15 → Option R) (t15 : T_spec_GetPool_15) : Option R :=
  Option.bind (bif (decide (t15.2.1 < (24 : Int))) then some (!t15.2.2.2.2.2.1) else some false) fun u11 => bif u11 then Option.bind (F_spec_l16Word (t15.2.2.2.1, t15.2.2.2.2.1, t15.2.2.2.2.2.1)) fun r12 => Option.bind (F_spec_l16Is (r12.2.1, r12.2.2.1, r12.2.2.2)) fun r13 => Option.bind (F_spec_l16Word (r13.2.1, r13.2.2.1, r13.2.2.2)) fun r14 => if (List.length t15.2.2.2.2.2.2.2.2.2.1 + List.length ([(r12.1, r13.1, r14.1)] : List E_Cell)) * 24 < 140737488355328 then again (t15.1, (Go.IntKind.wrap .i64 (t15.2.1 + (1 : Int))), t15.2.2.1, r14.2.1, r14.2.2.1, r14.2.2.2, t15.2.2.2.2.2.2.1, t15.2.2.2.2.2.2.2.1, t15.2.2.2.2.2.2.2.2.1, (t15.2.2.2.2.2.2.2.2.2.1 ++ ([(r12.1, r13.1, r14.1)] : List E_Cell)), t15.2.2.2.2.2.2.2.2.2.2) else none else k0 (t15.1, t15.2.2.1, t15.2.2.2.1, t15.2.2.2.2.1, t15.2.2.2.2.2.1, t15.2.2.2.2.2.2.1, t15.2.2.2.2.2.2.2.1, t15.2.2.2.2.2.2.2.2.1, t15.2.2.2.2.2.2.2.2.2.1, t15.2.2.2.2.2.2.2.2.2.2)
noncomputable def L_spec_GetPool_15 {R : Type} (k0 : Qz97 → Option R) (t : T_spec_GetPool_15) : Option R := iter (S_spec_GetPool_15 k0) FUEL t
abbrev T_spec_GetPool_22 : Type := Qz96 ⊕ Qz98
noncomputable def S_spec_GetPool_22 {R : Type} (k0 : Qz97 → Option R) (k1 : Qz99 → Option R) (again : T_spec_GetPool_22 → Option R) : T_spec_GetPool_22 → Option R
  | .inl t22 => Option.bind (bif (decide (t22.2.1 > (0 : Int))) then some (!t22.2.2.2.2.2.1) else some false) fun u17 => bif u17 then Option.bind (F_spec_l16Word (t22.2.2.2.1, t22.2.2.2.2.1, t22.2.2.2.2.2.1)) fun r18 => Option.bind (F_spec_l16Node (r18.2.1, r18.2.2.1, r18.2.2.2)) fun r19 => if (List.length t22.2.2.2.2.2.2.2.1 + List.length ([r18.1] : List E_i64)) * 8 < 140737488355328 then if List.length ([r19.1] : List E_Node) * 24 < 140737488355328 then again (Sum.inr (t22.1, (Go.IntKind.wrap .i64 (t22.2.1 - (1 : Int))), t22.2.2.1, r19.2.1, r19.2.2.1, r19.2.2.2, t22.2.2.2.2.2.2.1, (t22.2.2.2.2.2.2.2.1 ++ ([r18.1] : List E_i64)), ([r19.1] : List E_Node), t22.2.2.2.2.2.2.2.2.1, t22.2.2.2.2.2.2.2.2.2.1, t22.2.2.2.2.2.2.2.2.2.2)) else none else none else k0 (t22.1, t22.2.2.1, t22.2.2.2.1, t22.2.2.2.2.1, t22.2.2.2.2.2.1, t22.2.2.2.2.2.2.1, t22.2.2.2.2.2.2.2.1, t22.2.2.2.2.2.2.2.2.1, t22.2.2.2.2.2.2.2.2.2.1, t22.2.2.2.2.2.2.2.2.2.2)
  | .inr t22 => Option.bind (bif (decide (t22.2.1 > (0 : Int))) then some (!t22.2.2.2.2.2.1) else some false) fun u20 => bif u20 then Option.bind (F_spec_l16Word (t22.2.2.2.1, t22.2.2.2.2.1, t22.2.2.2.2.2.1)) fun r21 => Option.bind (F_spec_l16Node (r21.2.1, r21.2.2.1, r21.2.2.2)) fun r22 => if (List.length t22.2.2.2.2.2.2.2.1 + List.length ([r21.1] : List E_i64)) * 8 < 140737488355328 then if (List.length t22.2.2.2.2.2.2.2.2.1 + List.length ([r22.1] : List E_Node)) * 24 < 140737488355328 then again (Sum.inr (t22.1, (Go.IntKind.wrap .i64 (t22.2.1 - (1 : Int))), t22.2.2.1, r22.2.1, r22.2.2.1, r22.2.2.2, t22.2.2.2.2.2.2.1, (t22.2.2.2.2.2.2.2.1 ++ ([r21.1] : List E_i64)), (t22.2.2.2.2.2.2.2.2.1 ++ ([r22.1] : List E_Node)), t22.2.2.2.2.2.2.2.2.2.1, t22.2.2.2.2.2.2.2.2.2.2.1, t22.2.2.2.2.2.2.2.2.2.2.2)) else none else none else k1 (t22.1, t22.2.2.1, t22.2.2.2.1, t22.2.2.2.2.1, t22.2.2.2.2.2.1, t22.2.2.2.2.2.2.1, t22.2.2.2.2.2.2.2.1, t22.2.2.2.2.2.2.2.2.1, t22.2.2.2.2.2.2.2.2.2.1, t22.2.2.2.2.2.2.2.2.2.2.1, t22.2.2.2.2.2.2.2.2.2.2.2)
noncomputable def L_spec_GetPool_22 {R : Type} (k0 : Qz97 → Option R) (k1 : Qz99 → Option R) (t : T_spec_GetPool_22) : Option R := iter (S_spec_GetPool_22 k0 k1) FUEL t
noncomputable def F_spec_GetPool (x : List E_u8) : Option Qz100 :=
  Option.bind (F_spec_l16Word (x, (0 : Int), false)) fun r1 => Option.bind (F_spec_l16Byte (r1.2.1, r1.2.2.1, r1.2.2.2)) fun r2 => L_spec_GetPool_4 (fun x6 => Option.bind (F_spec_l16Byte (x6.2.2.1, x6.2.2.2.1, x6.2.2.2.2.1)) fun r7 => L_spec_GetPool_10 (fun x10 => L_spec_GetPool_15 (fun x15 => Option.bind (F_spec_l16Byte (x15.2.2.1, x15.2.2.2.1, x15.2.2.2.2.1)) fun r16 => L_spec_GetPool_22 (fun x23 => Option.bind (bif x23.2.2.2.2.1 then some true else some (x23.2.2.2.1 != ((List.length x23.1 : Nat) : Int))) fun u24 => Option.bind (bif u24 then some true else Option.bind (F_spec_PoolOk (x23.2.2.2.2.2.2.1, ([] : List E_Node), x23.2.2.2.2.2.2.2.1, x23.2.2.2.2.2.2.2.2.1, x23.2.2.2.2.2.2.2.2.2, x23.2.2.2.2.2.1)) fun r26 => some (!r26)) fun u25 => bif u25 then some (([] : List E_i64), ([] : List E_Node), ([] : List E_Age), ([] : List E_Cell), ([] : List E_Vol), (0 : Int), false) else some (x23.2.2.2.2.2.2.1, ([] : List E_Node), x23.2.2.2.2.2.2.2.1, x23.2.2.2.2.2.2.2.2.1, x23.2.2.2.2.2.2.2.2.2, x23.2.2.2.2.2.1, true)) (fun x27 => Option.bind (bif x27.2.2.2.2.1 then some true else some (x27.2.2.2.1 != ((List.length x27.1 : Nat) : Int))) fun u28 => Option.bind (bif u28 then some true else Option.bind (F_spec_PoolOk (x27.2.2.2.2.2.2.1, x27.2.2.2.2.2.2.2.1, x27.2.2.2.2.2.2.2.2.1, x27.2.2.2.2.2.2.2.2.2.1, x27.2.2.2.2.2.2.2.2.2.2, x27.2.2.2.2.2.1)) fun r30 => some (!r30)) fun u29 => bif u29 then some (([] : List E_i64), ([] : List E_Node), ([] : List E_Age), ([] : List E_Cell), ([] : List E_Vol), (0 : Int), false) else some (x27.2.2.2.2.2.2.1, x27.2.2.2.2.2.2.2.1, x27.2.2.2.2.2.2.2.2.1, x27.2.2.2.2.2.2.2.2.2.1, x27.2.2.2.2.2.2.2.2.2.2, x27.2.2.2.2.2.1, true)) (Sum.inl (x15.1, r16.1, x15.2.1, r16.2.1, r16.2.2.1, r16.2.2.2, x15.2.2.2.2.2.1, x15.2.2.2.2.2.2.1, x15.2.2.2.2.2.2.2.1, x15.2.2.2.2.2.2.2.2.1, x15.2.2.2.2.2.2.2.2.2))) (x10.1, (0 : Int), x10.2.1, x10.2.2.1, x10.2.2.2.1, x10.2.2.2.2.1, x10.2.2.2.2.2.1, x10.2.2.2.2.2.2.1, x10.2.2.2.2.2.2.2.1, x10.2.2.2.2.2.2.2.2.1, x10.2.2.2.2.2.2.2.2.2)) (x6.1, r7.1, x6.2.1, r7.2.1, r7.2.2.1, r7.2.2.2, x6.2.2.2.2.2.1, x6.2.2.2.2.2.2.1, x6.2.2.2.2.2.2.2.1, x6.2.2.2.2.2.2.2.2.1, x6.2.2.2.2.2.2.2.2.2)) (x, r2.1, (0 : Int), r2.2.1, r2.2.2.1, r2.2.2.2, r1.1, ([] : List E_i64), ([] : List E_Age), ([] : List E_Cell), ([] : List E_Vol))
noncomputable def f26Q : List QF := [q47, q83, q84, q85, q86, q87]
def f26e4_0 (t : Qz96) : St := ⟨v_u8 t.1 :: .dead :: .box 2 0 :: .dead :: .box 17 0 :: .box 5 0 :: vI t.2.1 :: dd 139 [], [(2, .box [.nils, .nils, .nils, .nils, .nils, vI t.2.2.1]), (17, .box [v_u8 t.2.2.2.1, vI t.2.2.2.2.1, vB t.2.2.2.2.2.1]), (5, .box [.own 10000000, .nils, .own 10000001, .own 10000002, .own 10000003, vI t.2.2.2.2.2.2.1]), (10000000, .root true 3 ts_i64 t.2.2.2.2.2.2.2.1), (10000001, .root true 89 ts_Age t.2.2.2.2.2.2.2.2.1), (10000002, .root true 95 ts_Cell t.2.2.2.2.2.2.2.2.2.1), (10000003, .root true 91 ts_Vol t.2.2.2.2.2.2.2.2.2.2)]⟩
noncomputable def f26g4 : Gk T_spec_GetPool_4 := fun κ => S_spec_GetPool_4 (fun t => κ (some 0) ⟨v_u8 t.1 :: .dead :: .box 2 0 :: .dead :: .box 17 0 :: .box 5 0 :: dd 140 [], [(2, .box [.nils, .nils, .nils, .nils, .nils, vI t.2.1]), (17, .box [v_u8 t.2.2.1, vI t.2.2.2.1, vB t.2.2.2.2.1]), (5, .box [.own 10000000, .nils, .own 10000001, .own 10000002, .own 10000003, vI t.2.2.2.2.2.1]), (10000000, .root true 3 ts_i64 t.2.2.2.2.2.2.1), (10000001, .root true 89 ts_Age t.2.2.2.2.2.2.2.1), (10000002, .root true 95 ts_Cell t.2.2.2.2.2.2.2.2.1), (10000003, .root true 91 ts_Vol t.2.2.2.2.2.2.2.2.2)]⟩)
def f26e10_0 (t : Qz96) : St := ⟨v_u8 t.1 :: .dead :: .box 2 0 :: .dead :: .box 17 0 :: .box 5 0 :: dd 2 (vI t.2.1 :: dd 137 []), [(2, .box [.nils, .nils, .nils, .nils, .nils, vI t.2.2.1]), (17, .box [v_u8 t.2.2.2.1, vI t.2.2.2.2.1, vB t.2.2.2.2.2.1]), (5, .box [.own 10000000, .nils, .own 10000001, .own 10000002, .own 10000003, vI t.2.2.2.2.2.2.1]), (10000000, .root true 3 ts_i64 t.2.2.2.2.2.2.2.1), (10000001, .root true 89 ts_Age t.2.2.2.2.2.2.2.2.1), (10000002, .root true 95 ts_Cell t.2.2.2.2.2.2.2.2.2.1), (10000003, .root true 91 ts_Vol t.2.2.2.2.2.2.2.2.2.2)]⟩
noncomputable def f26g10 : Gk T_spec_GetPool_10 := fun κ => S_spec_GetPool_10 (fun t => κ (some 2) ⟨v_u8 t.1 :: .dead :: .box 2 0 :: .dead :: .box 17 0 :: .box 5 0 :: dd 140 [], [(2, .box [.nils, .nils, .nils, .nils, .nils, vI t.2.1]), (17, .box [v_u8 t.2.2.1, vI t.2.2.2.1, vB t.2.2.2.2.1]), (5, .box [.own 10000000, .nils, .own 10000001, .own 10000002, .own 10000003, vI t.2.2.2.2.2.1]), (10000000, .root true 3 ts_i64 t.2.2.2.2.2.2.1), (10000001, .root true 89 ts_Age t.2.2.2.2.2.2.2.1), (10000002, .root true 95 ts_Cell t.2.2.2.2.2.2.2.2.1), (10000003, .root true 91 ts_Vol t.2.2.2.2.2.2.2.2.2)]⟩)
def f26e15_0 (t : Qz96) : St := ⟨v_u8 t.1 :: .dead :: .box 2 0 :: .dead :: .box 17 0 :: .box 5 0 :: dd 4 (vI t.2.1 :: dd 135 []), [(2, .box [.nils, .nils, .nils, .nils, .nils, vI t.2.2.1]), (17, .box [v_u8 t.2.2.2.1, vI t.2.2.2.2.1, vB t.2.2.2.2.2.1]), (5, .box [.own 10000000, .nils, .own 10000001, .own 10000002, .own 10000003, vI t.2.2.2.2.2.2.1]), (10000000, .root true 3 ts_i64 t.2.2.2.2.2.2.2.1), (10000001, .root true 89 ts_Age t.2.2.2.2.2.2.2.2.1), (10000002, .root true 95 ts_Cell t.2.2.2.2.2.2.2.2.2.1), (10000003, .root true 91 ts_Vol t.2.2.2.2.2.2.2.2.2.2)]⟩
noncomputable def f26g15 : Gk T_spec_GetPool_15 := fun κ => S_spec_GetPool_15 (fun t => κ (some 4) ⟨v_u8 t.1 :: .dead :: .box 2 0 :: .dead :: .box 17 0 :: .box 5 0 :: dd 140 [], [(2, .box [.nils, .nils, .nils, .nils, .nils, vI t.2.1]), (17, .box [v_u8 t.2.2.1, vI t.2.2.2.1, vB t.2.2.2.2.1]), (5, .box [.own 10000000, .nils, .own 10000001, .own 10000002, .own 10000003, vI t.2.2.2.2.2.1]), (10000000, .root true 3 ts_i64 t.2.2.2.2.2.2.1), (10000001, .root true 89 ts_Age t.2.2.2.2.2.2.2.1), (10000002, .root true 95 ts_Cell t.2.2.2.2.2.2.2.2.1), (10000003, .root true 91 ts_Vol t.2.2.2.2.2.2.2.2.2)]⟩)
def f26e22_0 (t : Qz96) : St := ⟨v_u8 t.1 :: .dead :: .box 2 0 :: .dead :: .box 17 0 :: .box 5 0 :: dd 6 (vI t.2.1 :: dd 133 []), [(2, .box [.nils, .nils, .nils, .nils, .nils, vI t.2.2.1]), (17, .box [v_u8 t.2.2.2.1, vI t.2.2.2.2.1, vB t.2.2.2.2.2.1]), (5, .box [.own 10000000, .nils, .own 10000001, .own 10000002, .own 10000003, vI t.2.2.2.2.2.2.1]), (10000000, .root true 3 ts_i64 t.2.2.2.2.2.2.2.1), (10000001, .root true 89 ts_Age t.2.2.2.2.2.2.2.2.1), (10000002, .root true 95 ts_Cell t.2.2.2.2.2.2.2.2.2.1), (10000003, .root true 91 ts_Vol t.2.2.2.2.2.2.2.2.2.2)]⟩
theorem f26v22_0 : ∀ s t, unG qz96 f26e22_0 s = some t → f26e22_0 t = s := unG_ok fun t => by kernel_rfl
def f26e22_1 (t : Qz98) : St := ⟨v_u8 t.1 :: .dead :: .box 2 0 :: .dead :: .box 17 0 :: .box 5 0 :: dd 6 (vI t.2.1 :: dd 133 []), [(2, .box [.nils, .nils, .nils, .nils, .nils, vI t.2.2.1]), (17, .box [v_u8 t.2.2.2.1, vI t.2.2.2.2.1, vB t.2.2.2.2.2.1]), (5, .box [.own 10000000, .own 10000001, .own 10000002, .own 10000003, .own 10000004, vI t.2.2.2.2.2.2.1]), (10000000, .root true 3 ts_i64 t.2.2.2.2.2.2.2.1), (10000001, .root true 98 ts_Node t.2.2.2.2.2.2.2.2.1), (10000002, .root true 89 ts_Age t.2.2.2.2.2.2.2.2.2.1), (10000003, .root true 95 ts_Cell t.2.2.2.2.2.2.2.2.2.2.1), (10000004, .root true 91 ts_Vol t.2.2.2.2.2.2.2.2.2.2.2)]⟩
theorem f26v22_1 : ∀ s t, unG qz98 f26e22_1 s = some t → f26e22_1 t = s := unG_ok fun t => by kernel_rfl
def f26e22r0 : (Qz96 ⊕ Qz98) → St := Sum.elim f26e22_0 f26e22_1
def f26u22r0 (s : St) : Option (Qz96 ⊕ Qz98) := ((unG qz96 f26e22_0 s).map Sum.inl).or (((unG qz98 f26e22_1) s).map Sum.inr)
theorem f26v22r0 : ∀ s t, f26u22r0 s = some t → f26e22r0 t = s := or_un f26v22_0 f26v22_1
noncomputable def f26g22 : Gk T_spec_GetPool_22 := fun κ => S_spec_GetPool_22 (fun t => κ (some 6) ⟨v_u8 t.1 :: .dead :: .box 2 0 :: .dead :: .box 17 0 :: .box 5 0 :: dd 140 [], [(2, .box [.nils, .nils, .nils, .nils, .nils, vI t.2.1]), (17, .box [v_u8 t.2.2.1, vI t.2.2.2.1, vB t.2.2.2.2.1]), (5, .box [.own 10000000, .nils, .own 10000001, .own 10000002, .own 10000003, vI t.2.2.2.2.2.1]), (10000000, .root true 3 ts_i64 t.2.2.2.2.2.2.1), (10000001, .root true 89 ts_Age t.2.2.2.2.2.2.2.1), (10000002, .root true 95 ts_Cell t.2.2.2.2.2.2.2.2.1), (10000003, .root true 91 ts_Vol t.2.2.2.2.2.2.2.2.2)]⟩) (fun t => κ (some 6) ⟨v_u8 t.1 :: .dead :: .box 2 0 :: .dead :: .box 17 0 :: .box 5 0 :: dd 140 [], [(2, .box [.nils, .nils, .nils, .nils, .nils, vI t.2.1]), (17, .box [v_u8 t.2.2.1, vI t.2.2.2.1, vB t.2.2.2.2.1]), (5, .box [.own 10000000, .own 10000001, .own 10000002, .own 10000003, .own 10000004, vI t.2.2.2.2.2.1]), (10000000, .root true 3 ts_i64 t.2.2.2.2.2.2.1), (10000001, .root true 98 ts_Node t.2.2.2.2.2.2.2.1), (10000002, .root true 89 ts_Age t.2.2.2.2.2.2.2.2.1), (10000003, .root true 95 ts_Cell t.2.2.2.2.2.2.2.2.2.1), (10000004, .root true 91 ts_Vol t.2.2.2.2.2.2.2.2.2.2)]⟩)
noncomputable def f26P : Lp := lpC 22 f26u22r0 @f26g22 (lpC 15 (unG qz96 f26e15_0) @f26g15 (lpC 10 (unG qz96 f26e10_0) @f26g10 (lpC 4 (unG qz96 f26e4_0) @f26g4 lpN)))
theorem f26C4 : LF f26Q f26P 26 4 Tryz.f26 0 f26e4_0 @f26g4 fun t => t := fun R κ again t => by kernel_rfl
theorem f26k4 : LK f26Q f26P 26 Tryz.f26 0 := loop_okG (u := (unG qz96 f26e4_0)) (by kernel_rfl) (unG_ok fun t => by kernel_rfl) (fun R κ s => by kernel_rfl) f26C4
theorem f26C10 : LF f26Q f26P 26 10 Tryz.f26 1 f26e10_0 @f26g10 fun t => t := fun R κ again t => by kernel_rfl
theorem f26k10 : LK f26Q f26P 26 Tryz.f26 1 := loop_okG (u := (unG qz96 f26e10_0)) (by kernel_rfl) (unG_ok fun t => by kernel_rfl) (fun R κ s => by kernel_rfl) f26C10
theorem f26C15 : LF f26Q f26P 26 15 Tryz.f26 2 f26e15_0 @f26g15 fun t => t := fun R κ again t => by kernel_rfl
theorem f26k15 : LK f26Q f26P 26 Tryz.f26 2 := loop_okG (u := (unG qz96 f26e15_0)) (by kernel_rfl) (unG_ok fun t => by kernel_rfl) (fun R κ s => by kernel_rfl) f26C15
theorem f26C22_0 : LF f26Q f26P 26 22 Tryz.f26 3 f26e22r0 @f26g22 fun v : Qz96 => .inl v := fun R κ again v => by kernel_rfl
theorem f26C22_1 : LF f26Q f26P 26 22 Tryz.f26 3 f26e22r0 @f26g22 fun v : Qz98 => .inr v := fun R κ again v => by kernel_rfl
theorem f26C22 : LF f26Q f26P 26 22 Tryz.f26 3 f26e22r0 @f26g22 fun t => t := (LC.sum f26C22_0 f26C22_1)
theorem f26k22 : LK f26Q f26P 26 Tryz.f26 3 := loop_okG (u := f26u22r0) (by kernel_rfl) f26v22r0 (fun R κ s => by kernel_rfl) f26C22
theorem ev26 : EV f26Q f26P 26 Tryz.f26 sg26 [(.sl 5 ts_u8)] qz100 F_spec_GetPool := fun x => by kernel_rfl
noncomputable def q26 : QF := ⟨26, F_spec_GetPool, okN (n := 4) Tryz.func26 (by kernel_rfl) (by kernel_rfl) ⟨f26k4, f26k10, f26k15, f26k22, trivial⟩ ev26⟩
abbrev T_laws_toByteS_3 : Type := Qz101
noncomputable def S_laws_toByteS_3 {R : Type} (k0 : List E_u8 → Option R) (again : T_laws_toByteS_3 → Option R) (t3 : T_laws_toByteS_3) : Option R :=
  bif (decide (t3.2.1 < ((List.length t3.1 : Nat) : Int))) then if (0 : Int) ≤ t3.2.1 then if t3.2.1 < ((List.length t3.1 : Nat) : Int) then if (0 : Int) ≤ t3.2.1 then if t3.2.1 < ((List.length t3.2.2 : Nat) : Int) then again (t3.1, (Go.IntKind.wrap .i64 (t3.2.1 + (1 : Int))), (List.set t3.2.2 (Int.toNat t3.2.1) (rd_u8 t3.1 t3.2.1))) else none else none else none else none else k0 t3.2.2
noncomputable def L_laws_toByteS_3 {R : Type} (k0 : List E_u8 → Option R) (t : T_laws_toByteS_3) : Option R := iter (S_laws_toByteS_3 k0) FUEL t
noncomputable def F_laws_toByteS (x : List E_u8) : Option (List E_u8) :=
  if (0 : Int) ≤ ((List.length x : Nat) : Int) then if ((List.length x : Nat) : Int) ≤ ((List.length x : Nat) : Int) then if ((List.length x : Nat) : Int) * ((1 : Nat) : Int) ≤ 140737488351232 then L_laws_toByteS_3 (fun x1 => some x1) (x, (0 : Int), (List.replicate (Int.toNat ((List.length x : Nat) : Int)) z_u8)) else none else none else none
noncomputable def f27Q : List QF := []
def f27e3_0 (t : Qz101) : St := ⟨v_u8 t.1 :: dd 2 (.own 10000000 :: vI t.2.1 :: dd 17 []), [(10000000, .root true 5 ts_u8 t.2.2)]⟩
noncomputable def f27g3 : Gk T_laws_toByteS_3 := fun κ => S_laws_toByteS_3 (fun t => κ (some 0) ⟨dd 3 (.own 10000000 :: dd 18 []), [(10000000, .root true 5 ts_u8 t)]⟩)
noncomputable def f27P : Lp := lpC 3 (unG qz101 f27e3_0) @f27g3 lpN
theorem f27C3 : LF f27Q f27P 27 3 Tryz.f27 0 f27e3_0 @f27g3 fun t => t := fun R κ again t => by kernel_rfl
theorem f27k3 : LK f27Q f27P 27 Tryz.f27 0 := loop_okG (u := (unG qz101 f27e3_0)) (by kernel_rfl) (unG_ok fun t => by kernel_rfl) (fun R κ s => by kernel_rfl) f27C3
theorem ev27 : EV f27Q f27P 27 Tryz.f27 sg27 [(.sl 5 ts_u8)] [(.sl 5 ts_u8)] F_laws_toByteS := fun x => by kernel_rfl
noncomputable def q27 : QF := ⟨27, F_laws_toByteS, okN (n := 1) Tryz.func27 (by kernel_rfl) (by kernel_rfl) ⟨f27k3, trivial⟩ ev27⟩
noncomputable def F_impl_within (x : Qz51) : Option Bool :=
  Option.bind (bif (decide (x.1 ≥ x.2.1)) then some (decide (x.1 ≤ x.2.2)) else some false) fun u1 => some u1
theorem ev134 : EV [] lpN 134 Tryz.f134 sg134 qz51 [.bool] F_impl_within := fun x => by kernel_rfl
noncomputable def q134 : QF := ⟨134, F_impl_within, okN (n := 0) Tryz.func134 (by kernel_rfl) (by kernel_rfl) trivial ev134⟩
noncomputable def F_impl_KeyOk (x : Qz60) : Option Bool :=
  Option.bind (F_impl_within (x.1, (0 : Int), (15 : Int))) fun r1 => Option.bind (bif (!r1) then some true else Option.bind (F_impl_within (x.2.1, (1 : Int), (60 : Int))) fun r3 => some (!r3)) fun u2 => Option.bind (bif u2 then some true else Option.bind (F_impl_within (x.2.2.1, (0 : Int), (2 : Int))) fun r5 => some (!r5)) fun u4 => bif u4 then some false else bif (x.2.2.1 != (1 : Int)) then Option.bind (bif (x.2.2.2.1 == (0 : Int)) then some (x.2.2.2.2 == (0 : Int)) else some false) fun u6 => some u6 else Option.bind (F_impl_within (x.2.2.2.1, (0 : Int), (23 : Int))) fun r7 => Option.bind (bif r7 then Option.bind (F_impl_within (x.2.2.2.2, (0 : Int), (999 : Int))) fun r9 => some r9 else some false) fun u8 => some u8
theorem ev138 : EV [q134] lpN 138 Tryz.f138 sg138 qz60 [.bool] F_impl_KeyOk := fun x => by kernel_rfl
noncomputable def q138 : QF := ⟨138, F_impl_KeyOk, okN (n := 0) Tryz.func138 (by kernel_rfl) (by kernel_rfl) trivial ev138⟩
noncomputable def F_impl_LessKey (x : Qz4) : Option Bool :=
  Option.bind (bif (decide (x.1 < x.2.2.2.2.2.1)) then some true else Option.bind (bif (x.1 == x.2.2.2.2.2.1) then some (decide (x.2.1 < x.2.2.2.2.2.2.1)) else some false) fun u2 => some u2) fun u1 => some u1
theorem ev279 : EV [] lpN 279 Tryz.f279 sg279 qz4 [.bool] F_impl_LessKey := fun x => by kernel_rfl
noncomputable def q279 : QF := ⟨279, F_impl_LessKey, okN (n := 0) Tryz.func279 (by kernel_rfl) (by kernel_rfl) trivial ev279⟩
abbrev T_impl_SetOk_2 : Type := Qz102
noncomputable def S_impl_SetOk_2 {R : Type} (k0 : Qz61 → Option R) (k1 : List E_Key → Option R) (again : T_impl_SetOk_2 → Option R) (t2 : T_impl_SetOk_2) : Option R :=
  bif (decide (t2.2.2.2 < t2.2.2.1)) then if (0 : Int) ≤ t2.2.2.2 then if t2.2.2.2 < ((List.length t2.2.1 : Nat) : Int) then Option.bind (F_impl_KeyOk ((rd_Key t2.2.1 t2.2.2.2).1, (rd_Key t2.2.1 t2.2.2.2).2.1, (rd_Key t2.2.1 t2.2.2.2).2.2.1, (rd_Key t2.2.1 t2.2.2.2).2.2.2.1, (rd_Key t2.2.1 t2.2.2.2).2.2.2.2)) fun r1 => Option.bind (bif (!r1) then some true else Option.bind (bif (decide (t2.2.2.2 > (0 : Int))) then if (0 : Int) ≤ (Go.IntKind.wrap .i64 (t2.2.2.2 - (1 : Int))) then if (Go.IntKind.wrap .i64 (t2.2.2.2 - (1 : Int))) < ((List.length t2.1 : Nat) : Int) then Option.bind (F_impl_LessKey ((rd_Key t2.1 (Go.IntKind.wrap .i64 (t2.2.2.2 - (1 : Int)))).1, (rd_Key t2.1 (Go.IntKind.wrap .i64 (t2.2.2.2 - (1 : Int)))).2.1, (rd_Key t2.1 (Go.IntKind.wrap .i64 (t2.2.2.2 - (1 : Int)))).2.2.1, (rd_Key t2.1 (Go.IntKind.wrap .i64 (t2.2.2.2 - (1 : Int)))).2.2.2.1, (rd_Key t2.1 (Go.IntKind.wrap .i64 (t2.2.2.2 - (1 : Int)))).2.2.2.2, (rd_Key t2.2.1 t2.2.2.2).1, (rd_Key t2.2.1 t2.2.2.2).2.1, (rd_Key t2.2.1 t2.2.2.2).2.2.1, (rd_Key t2.2.1 t2.2.2.2).2.2.2.1, (rd_Key t2.2.1 t2.2.2.2).2.2.2.2)) fun r4 => some (!r4) else none else none else some false) fun u3 => some u3) fun u2 => bif u2 then k0 (t2.1, false) else again (t2.1, t2.2.1, t2.2.2.1, (Go.IntKind.wrap .i64 (t2.2.2.2 + (1 : Int)))) else none else none else k1 t2.1
noncomputable def L_impl_SetOk_2 {R : Type} (k0 : Qz61 → Option R) (k1 : List E_Key → Option R) (t : T_impl_SetOk_2) : Option R := iter (S_impl_SetOk_2 k0 k1) FUEL t
noncomputable def F_impl_SetOk (x : List E_Key) : Option Bool :=
  L_impl_SetOk_2 (fun x5 => some x5.2) (fun x6 => some (decide (((List.length x6 : Nat) : Int) ≤ (60 : Int)))) (x, x, ((List.length x : Nat) : Int), (0 : Int))
noncomputable def f246Q : List QF := [q138, q279]
def f246e2_0 (t : Qz102) : St := ⟨v_Key t.1 :: dd 4 (v_Key t.2.1 :: vI t.2.2.1 :: vI t.2.2.2 :: dd 25 []), []⟩
noncomputable def f246g2 : Gk T_impl_SetOk_2 := fun κ => S_impl_SetOk_2 (fun t => κ none ⟨v_Key t.1 :: .dead :: vB t.2 :: dd 30 [], []⟩) (fun t => κ (some 0) ⟨v_Key t :: dd 32 [], []⟩)
noncomputable def f246P : Lp := lpC 2 (unG qz102 f246e2_0) @f246g2 lpN
theorem f246C2 : LF f246Q f246P 246 2 Tryz.f246 0 f246e2_0 @f246g2 fun t => t := fun R κ again t => by kernel_rfl
theorem f246k2 : LK f246Q f246P 246 Tryz.f246 0 := loop_okG (u := (unG qz102 f246e2_0)) (by kernel_rfl) (unG_ok fun t => by kernel_rfl) (fun R κ s => by kernel_rfl) f246C2
theorem ev246 : EV f246Q f246P 246 Tryz.f246 sg246 [(.sl 106 ts_Key)] [.bool] F_impl_SetOk := fun x => by kernel_rfl
noncomputable def q246 : QF := ⟨246, F_impl_SetOk, okN (n := 1) Tryz.func246 (by kernel_rfl) (by kernel_rfl) ⟨f246k2, trivial⟩ ev246⟩
abbrev T_impl_NodeOk_3 : Type := Qz103
noncomputable def S_impl_NodeOk_3 {R : Type} (k0 : Qz104 → Option R) (k1 : Qz29 → Option R) (again : T_impl_NodeOk_3 → Option R) (t3 : T_impl_NodeOk_3) : Option R :=
  bif (decide (t3.2.2.2.1 < t3.2.2.1)) then if (0 : Int) ≤ t3.2.2.2.1 then if t3.2.2.2.1 < ((List.length t3.2.1 : Nat) : Int) then Option.bind (F_impl_SetOk (rd_s_Key t3.2.1 t3.2.2.2.1)) fun r1 => Option.bind (bif (!r1) then some true else some (((List.length (rd_s_Key t3.2.1 t3.2.2.2.1) : Nat) : Int) == (0 : Int))) fun u2 => bif u2 then k0 (false, t3.1, t3.2.2.2.2) else again ((Go.IntKind.wrap .i64 (t3.1 + ((List.length (rd_s_Key t3.2.1 t3.2.2.2.1) : Nat) : Int))), t3.2.1, t3.2.2.1, (Go.IntKind.wrap .i64 (t3.2.2.2.1 + (1 : Int))), t3.2.2.2.2) else none else none else k1 (t3.1, t3.2.2.2.2)
noncomputable def L_impl_NodeOk_3 {R : Type} (k0 : Qz104 → Option R) (k1 : Qz29 → Option R) (t : T_impl_NodeOk_3) : Option R := iter (S_impl_NodeOk_3 k0 k1) FUEL t
noncomputable def F_impl_NodeOk (x : List E_s_Key) : Option Bool :=
  L_impl_NodeOk_3 (fun x3 => some x3.1) (fun x4 => Option.bind (bif (decide (((List.length x4.2 : Nat) : Int) ≤ (3 : Int))) then some (decide (x4.1 ≤ (8 : Int))) else some false) fun u5 => some u5) ((0 : Int), x, ((List.length x : Nat) : Int), (0 : Int), x)
noncomputable def f204Q : List QF := [q246]
def f204e3_0 (t : Qz103) : St := ⟨.dead :: .box 1 0 :: .dead :: vI t.1 :: dd 3 (v_s_Key t.2.1 :: vI t.2.2.1 :: vI t.2.2.2.1 :: dd 24 []), [(1, .box [v_s_Key t.2.2.2.2])]⟩
noncomputable def f204g3 : Gk T_impl_NodeOk_3 := fun κ => S_impl_NodeOk_3 (fun t => κ none ⟨.dead :: .box 1 0 :: vB t.1 :: vI t.2.1 :: dd 30 [], [(1, .box [v_s_Key t.2.2])]⟩) (fun t => κ (some 0) ⟨.dead :: .box 1 0 :: .dead :: vI t.1 :: dd 30 [], [(1, .box [v_s_Key t.2])]⟩)
noncomputable def f204P : Lp := lpC 3 (unG qz103 f204e3_0) @f204g3 lpN
theorem f204C3 : LF f204Q f204P 204 3 Tryz.f204 0 f204e3_0 @f204g3 fun t => t := fun R κ again t => by kernel_rfl
theorem f204k3 : LK f204Q f204P 204 Tryz.f204 0 := loop_okG (u := (unG qz103 f204e3_0)) (by kernel_rfl) (unG_ok fun t => by kernel_rfl) (fun R κ s => by kernel_rfl) f204C3
theorem ev204 : EV f204Q f204P 204 Tryz.f204 sg204 [(.sl 100 ts_s_Key)] [.bool] F_impl_NodeOk := fun x => by kernel_rfl
noncomputable def q204 : QF := ⟨204, F_impl_NodeOk, okN (n := 1) Tryz.func204 (by kernel_rfl) (by kernel_rfl) ⟨f204k3, trivial⟩ ev204⟩
noncomputable def F_impl_SpotOf (x : Qz59) : Option Int :=
  some (Go.IntKind.wrap .i64 ((Go.IntKind.wrap .i64 ((64 : Int) * x.1)) + x.2))
theorem ev247 : EV [] lpN 247 Tryz.f247 sg247 qz59 [(.int .i64)] F_impl_SpotOf := fun x => by kernel_rfl
noncomputable def q247 : QF := ⟨247, F_impl_SpotOf, okN (n := 0) Tryz.func247 (by kernel_rfl) (by kernel_rfl) trivial ev247⟩
abbrev T_impl_inBounds_5 : Type := Qz105
noncomputable def S_impl_inBounds_5 {R : Type} (k0 : Qz106 → Option R) (k1 : Qz107 → Option R) (again : T_impl_inBounds_5 → Option R) (t5 : T_impl_inBounds_5) : Option R :=
  bif (decide (t5.2.2.2.2.2.2.1 < t5.2.2.2.2.2.1)) then if (0 : Int) ≤ t5.2.2.2.2.2.2.1 then if t5.2.2.2.2.2.2.1 < ((List.length t5.2.2.2.2.1 : Nat) : Int) then Option.bind (F_impl_SpotOf ((rd_Key t5.2.2.2.2.1 t5.2.2.2.2.2.2.1).1, (rd_Key t5.2.2.2.2.1 t5.2.2.2.2.2.2.1).2.1)) fun r1 => if (0 : Int) ≤ t5.1 then if t5.1 < ((List.length t5.2.2.2.2.2.2.2.1 : Nat) : Int) then Option.bind (bif (decide (r1 < (rd_i64 t5.2.2.2.2.2.2.2.1 t5.1))) then some true else Option.bind (bif (decide ((Go.IntKind.wrap .i64 (t5.1 + (1 : Int))) < ((List.length t5.2.2.2.2.2.2.2.1 : Nat) : Int))) then if (0 : Int) ≤ (Go.IntKind.wrap .i64 (t5.1 + (1 : Int))) then if (Go.IntKind.wrap .i64 (t5.1 + (1 : Int))) < ((List.length t5.2.2.2.2.2.2.2.1 : Nat) : Int) then some (decide (r1 ≥ (rd_i64 t5.2.2.2.2.2.2.2.1 (Go.IntKind.wrap .i64 (t5.1 + (1 : Int)))))) else none else none else some false) fun u3 => some u3) fun u2 => bif u2 then k0 (t5.1, false, t5.2.1, t5.2.2.1, t5.2.2.2.1, t5.2.2.2.2.2.2.2.1, t5.2.2.2.2.2.2.2.2) else again (t5.1, t5.2.1, t5.2.2.1, t5.2.2.2.1, t5.2.2.2.2.1, t5.2.2.2.2.2.1, (Go.IntKind.wrap .i64 (t5.2.2.2.2.2.2.1 + (1 : Int))), t5.2.2.2.2.2.2.2.1, t5.2.2.2.2.2.2.2.2) else none else none else none else none else k1 (t5.1, t5.2.1, t5.2.2.1, t5.2.2.2.1, t5.2.2.2.2.2.2.2.1, t5.2.2.2.2.2.2.2.2)
noncomputable def L_impl_inBounds_5 {R : Type} (k0 : Qz106 → Option R) (k1 : Qz107 → Option R) (t : T_impl_inBounds_5) : Option R := iter (S_impl_inBounds_5 k0 k1) FUEL t
abbrev T_impl_inBounds_2 : Type := Qz107
noncomputable def S_impl_inBounds_2 {R : Type} (k0 : Bool → Option R) (k1 : Unit → Option R) (again : T_impl_inBounds_2 → Option R) (t2 : T_impl_inBounds_2) : Option R :=
  bif (decide (t2.2.2.2.1 < t2.2.2.1)) then if (0 : Int) ≤ t2.2.2.2.1 then if t2.2.2.2.1 < ((List.length t2.2.1 : Nat) : Int) then L_impl_inBounds_5 (fun x4 => k0 x4.2.1) (fun x5 => again (x5.1, x5.2.1, x5.2.2.1, (Go.IntKind.wrap .i64 (x5.2.2.2.1 + (1 : Int))), x5.2.2.2.2.1, x5.2.2.2.2.2)) (t2.1, t2.2.1, t2.2.2.1, t2.2.2.2.1, (rd_s_Key t2.2.1 t2.2.2.2.1), ((List.length (rd_s_Key t2.2.1 t2.2.2.2.1) : Nat) : Int), (0 : Int), t2.2.2.2.2.1, t2.2.2.2.2.2) else none else none else k1 ()
noncomputable def L_impl_inBounds_2 {R : Type} (k0 : Bool → Option R) (k1 : Unit → Option R) (t : T_impl_inBounds_2) : Option R := iter (S_impl_inBounds_2 k0 k1) FUEL t
noncomputable def F_impl_inBounds (x : Qz34) : Option Bool :=
  if (0 : Int) ≤ x.2.2 then if x.2.2 < ((List.length x.2.1 : Nat) : Int) then L_impl_inBounds_2 (fun x6 => some x6) (fun x7 => some true) (x.2.2, (rd_Node x.2.1 x.2.2), ((List.length (rd_Node x.2.1 x.2.2) : Nat) : Int), (0 : Int), x.1, x.2.1) else none else none
noncomputable def f205Q : List QF := [q247]
def f205e5_0 (t : Qz105) : St := ⟨.dead :: vI t.1 :: .box 2 0 :: dd 12 (v_s_Key t.2.1 :: vI t.2.2.1 :: vI t.2.2.2.1 :: dd 3 (v_Key t.2.2.2.2.1 :: vI t.2.2.2.2.2.1 :: vI t.2.2.2.2.2.2.1 :: dd 35 [])), [(2, .box [v_i64 t.2.2.2.2.2.2.2.1, v_Node t.2.2.2.2.2.2.2.2])]⟩
noncomputable def f205g5 : Gk T_impl_inBounds_5 := fun κ => S_impl_inBounds_5 (fun t => κ none ⟨.dead :: vI t.1 :: .box 2 0 :: .dead :: vB t.2.1 :: dd 10 (v_s_Key t.2.2.1 :: vI t.2.2.2.1 :: vI t.2.2.2.2.1 :: dd 41 []), [(2, .box [v_i64 t.2.2.2.2.2.1, v_Node t.2.2.2.2.2.2])]⟩) (fun t => κ (some 2) ⟨.dead :: vI t.1 :: .box 2 0 :: dd 12 (v_s_Key t.2.1 :: vI t.2.2.1 :: vI t.2.2.2.1 :: dd 41 []), [(2, .box [v_i64 t.2.2.2.2.1, v_Node t.2.2.2.2.2])]⟩)
def f205e2_0 (t : Qz107) : St := ⟨.dead :: vI t.1 :: .box 2 0 :: dd 12 (v_s_Key t.2.1 :: vI t.2.2.1 :: vI t.2.2.2.1 :: dd 41 []), [(2, .box [v_i64 t.2.2.2.2.1, v_Node t.2.2.2.2.2])]⟩
noncomputable def f205g2 : Gk T_impl_inBounds_2 := fun κ => S_impl_inBounds_2 (fun t => κ none ⟨dd 4 (vB t :: dd 54 []), []⟩) (fun t => κ (some 0) ⟨dd 59 [], []⟩)
noncomputable def f205P : Lp := lpC 2 (unG qz107 f205e2_0) @f205g2 (lpC 5 (unG qz105 f205e5_0) @f205g5 lpN)
theorem f205C5 : LF f205Q f205P 205 5 Tryz.f205 1 f205e5_0 @f205g5 fun t => t := fun R κ again t => by kernel_rfl
theorem f205k5 : LK f205Q f205P 205 Tryz.f205 1 := loop_okG (u := (unG qz105 f205e5_0)) (by kernel_rfl) (unG_ok fun t => by kernel_rfl) (fun R κ s => by kernel_rfl) f205C5
theorem f205C2 : LF f205Q f205P 205 2 Tryz.f205 0 f205e2_0 @f205g2 fun t => t := fun R κ again t => by kernel_rfl
theorem f205k2 : LK f205Q f205P 205 Tryz.f205 0 := loop_okG (u := (unG qz107 f205e2_0)) (by kernel_rfl) (unG_ok fun t => by kernel_rfl) (fun R κ s => by kernel_rfl) f205C2
theorem ev205 : EV f205Q f205P 205 Tryz.f205 sg205 qz34 [.bool] F_impl_inBounds := fun x => by kernel_rfl
noncomputable def q205 : QF := ⟨205, F_impl_inBounds, okN (n := 2) Tryz.func205 (by kernel_rfl) (by kernel_rfl) ⟨f205k2, f205k5, trivial⟩ ev205⟩
noncomputable def F_impl_copyKeys (x : List E_Key) : Option (List E_Key) :=
  if (List.length ([] : List E_Key) + List.length x) * 40 < 140737488355328 then some (([] : List E_Key) ++ x) else none
theorem ev280 : EV [] lpN 280 Tryz.f280 sg280 [(.sl 106 ts_Key)] [(.sl 106 ts_Key)] F_impl_copyKeys := fun x => by kernel_rfl
noncomputable def q280 : QF := ⟨280, F_impl_copyKeys, okN (n := 0) Tryz.func280 (by kernel_rfl) (by kernel_rfl) trivial ev280⟩
noncomputable def F_impl_SameSpot (x : Qz4) : Option Bool :=
  Option.bind (bif (x.1 == x.2.2.2.2.2.1) then some (x.2.1 == x.2.2.2.2.2.2.1) else some false) fun u1 => some u1
theorem ev302 : EV [] lpN 302 Tryz.f302 sg302 qz4 [.bool] F_impl_SameSpot := fun x => by kernel_rfl
noncomputable def q302 : QF := ⟨302, F_impl_SameSpot, okN (n := 0) Tryz.func302 (by kernel_rfl) (by kernel_rfl) trivial ev302⟩
abbrev T_impl_SetPut_4 : Type := Qz108
noncomputable def S_impl_SetPut_4 {R : Type} (k0 : Qz54 → Option R) (again : T_impl_SetPut_4 → Option R) (t4 : T_impl_SetPut_4) : Option R :=
  bif (decide (t4.2.2.2.1 < t4.2.2.1)) then if (0 : Int) ≤ t4.2.2.2.1 then if t4.2.2.2.1 < ((List.length t4.2.1 : Nat) : Int) then Option.bind (bif (!t4.1) then Option.bind (F_impl_LessKey ((rd_Key t4.2.1 t4.2.2.2.1).1, (rd_Key t4.2.1 t4.2.2.2.1).2.1, (rd_Key t4.2.1 t4.2.2.2.1).2.2.1, (rd_Key t4.2.1 t4.2.2.2.1).2.2.2.1, (rd_Key t4.2.1 t4.2.2.2.1).2.2.2.2, t4.2.2.2.2.1, t4.2.2.2.2.2.1, t4.2.2.2.2.2.2.1, t4.2.2.2.2.2.2.2.1, t4.2.2.2.2.2.2.2.2.1)) fun r2 => some (!r2) else some false) fun u1 => bif u1 then if (List.length t4.2.2.2.2.2.2.2.2.2 + List.length ([(t4.2.2.2.2.1, t4.2.2.2.2.2.1, t4.2.2.2.2.2.2.1, t4.2.2.2.2.2.2.2.1, t4.2.2.2.2.2.2.2.2.1)] : List E_Key)) * 40 < 140737488355328 then Option.bind (F_impl_SameSpot ((rd_Key t4.2.1 t4.2.2.2.1).1, (rd_Key t4.2.1 t4.2.2.2.1).2.1, (rd_Key t4.2.1 t4.2.2.2.1).2.2.1, (rd_Key t4.2.1 t4.2.2.2.1).2.2.2.1, (rd_Key t4.2.1 t4.2.2.2.1).2.2.2.2, t4.2.2.2.2.1, t4.2.2.2.2.2.1, t4.2.2.2.2.2.2.1, t4.2.2.2.2.2.2.2.1, t4.2.2.2.2.2.2.2.2.1)) fun r3 => bif (!r3) then if (List.length (t4.2.2.2.2.2.2.2.2.2 ++ ([(t4.2.2.2.2.1, t4.2.2.2.2.2.1, t4.2.2.2.2.2.2.1, t4.2.2.2.2.2.2.2.1, t4.2.2.2.2.2.2.2.2.1)] : List E_Key)) + List.length ([((rd_Key t4.2.1 t4.2.2.2.1).1, (rd_Key t4.2.1 t4.2.2.2.1).2.1, (rd_Key t4.2.1 t4.2.2.2.1).2.2.1, (rd_Key t4.2.1 t4.2.2.2.1).2.2.2.1, (rd_Key t4.2.1 t4.2.2.2.1).2.2.2.2)] : List E_Key)) * 40 < 140737488355328 then again (true, t4.2.1, t4.2.2.1, (Go.IntKind.wrap .i64 (t4.2.2.2.1 + (1 : Int))), t4.2.2.2.2.1, t4.2.2.2.2.2.1, t4.2.2.2.2.2.2.1, t4.2.2.2.2.2.2.2.1, t4.2.2.2.2.2.2.2.2.1, ((t4.2.2.2.2.2.2.2.2.2 ++ ([(t4.2.2.2.2.1, t4.2.2.2.2.2.1, t4.2.2.2.2.2.2.1, t4.2.2.2.2.2.2.2.1, t4.2.2.2.2.2.2.2.2.1)] : List E_Key)) ++ ([((rd_Key t4.2.1 t4.2.2.2.1).1, (rd_Key t4.2.1 t4.2.2.2.1).2.1, (rd_Key t4.2.1 t4.2.2.2.1).2.2.1, (rd_Key t4.2.1 t4.2.2.2.1).2.2.2.1, (rd_Key t4.2.1 t4.2.2.2.1).2.2.2.2)] : List E_Key))) else none else again (true, t4.2.1, t4.2.2.1, (Go.IntKind.wrap .i64 (t4.2.2.2.1 + (1 : Int))), t4.2.2.2.2.1, t4.2.2.2.2.2.1, t4.2.2.2.2.2.2.1, t4.2.2.2.2.2.2.2.1, t4.2.2.2.2.2.2.2.2.1, (t4.2.2.2.2.2.2.2.2.2 ++ ([(t4.2.2.2.2.1, t4.2.2.2.2.2.1, t4.2.2.2.2.2.2.1, t4.2.2.2.2.2.2.2.1, t4.2.2.2.2.2.2.2.2.1)] : List E_Key))) else none else Option.bind (F_impl_SameSpot ((rd_Key t4.2.1 t4.2.2.2.1).1, (rd_Key t4.2.1 t4.2.2.2.1).2.1, (rd_Key t4.2.1 t4.2.2.2.1).2.2.1, (rd_Key t4.2.1 t4.2.2.2.1).2.2.2.1, (rd_Key t4.2.1 t4.2.2.2.1).2.2.2.2, t4.2.2.2.2.1, t4.2.2.2.2.2.1, t4.2.2.2.2.2.2.1, t4.2.2.2.2.2.2.2.1, t4.2.2.2.2.2.2.2.2.1)) fun r4 => bif (!r4) then if (List.length t4.2.2.2.2.2.2.2.2.2 + List.length ([((rd_Key t4.2.1 t4.2.2.2.1).1, (rd_Key t4.2.1 t4.2.2.2.1).2.1, (rd_Key t4.2.1 t4.2.2.2.1).2.2.1, (rd_Key t4.2.1 t4.2.2.2.1).2.2.2.1, (rd_Key t4.2.1 t4.2.2.2.1).2.2.2.2)] : List E_Key)) * 40 < 140737488355328 then again (t4.1, t4.2.1, t4.2.2.1, (Go.IntKind.wrap .i64 (t4.2.2.2.1 + (1 : Int))), t4.2.2.2.2.1, t4.2.2.2.2.2.1, t4.2.2.2.2.2.2.1, t4.2.2.2.2.2.2.2.1, t4.2.2.2.2.2.2.2.2.1, (t4.2.2.2.2.2.2.2.2.2 ++ ([((rd_Key t4.2.1 t4.2.2.2.1).1, (rd_Key t4.2.1 t4.2.2.2.1).2.1, (rd_Key t4.2.1 t4.2.2.2.1).2.2.1, (rd_Key t4.2.1 t4.2.2.2.1).2.2.2.1, (rd_Key t4.2.1 t4.2.2.2.1).2.2.2.2)] : List E_Key))) else none else again (t4.1, t4.2.1, t4.2.2.1, (Go.IntKind.wrap .i64 (t4.2.2.2.1 + (1 : Int))), t4.2.2.2.2.1, t4.2.2.2.2.2.1, t4.2.2.2.2.2.2.1, t4.2.2.2.2.2.2.2.1, t4.2.2.2.2.2.2.2.2.1, t4.2.2.2.2.2.2.2.2.2) else none else none else k0 (t4.1, t4.2.2.2.2.1, t4.2.2.2.2.2.1, t4.2.2.2.2.2.2.1, t4.2.2.2.2.2.2.2.1, t4.2.2.2.2.2.2.2.2.1, t4.2.2.2.2.2.2.2.2.2)
noncomputable def L_impl_SetPut_4 {R : Type} (k0 : Qz54 → Option R) (t : T_impl_SetPut_4) : Option R := iter (S_impl_SetPut_4 k0) FUEL t
noncomputable def F_impl_SetPut (x : Qz55) : Option (List E_Key) :=
  L_impl_SetPut_4 (fun x5 => bif (!x5.1) then if (List.length x5.2.2.2.2.2.2 + List.length ([(x5.2.1, x5.2.2.1, x5.2.2.2.1, x5.2.2.2.2.1, x5.2.2.2.2.2.1)] : List E_Key)) * 40 < 140737488355328 then some (x5.2.2.2.2.2.2 ++ ([(x5.2.1, x5.2.2.1, x5.2.2.2.1, x5.2.2.2.2.1, x5.2.2.2.2.2.1)] : List E_Key)) else none else some x5.2.2.2.2.2.2) (false, x.1, ((List.length x.1 : Nat) : Int), (0 : Int), x.2.1, x.2.2.1, x.2.2.2.1, x.2.2.2.2.1, x.2.2.2.2.2, ([] : List E_Key))
noncomputable def f281Q : List QF := [q279, q302]
def f281e4_0 (t : Qz108) : St := ⟨dd 3 (.box 3 0 :: .dead :: .own 10000000 :: vB t.1 :: dd 3 (v_Key t.2.1 :: vI t.2.2.1 :: vI t.2.2.2.1 :: dd 31 [])), [(3, .box [vI t.2.2.2.2.1, vI t.2.2.2.2.2.1, vI t.2.2.2.2.2.2.1, vI t.2.2.2.2.2.2.2.1, vI t.2.2.2.2.2.2.2.2.1]), (10000000, .root true 106 ts_Key t.2.2.2.2.2.2.2.2.2)]⟩
noncomputable def f281g4 : Gk T_impl_SetPut_4 := fun κ => S_impl_SetPut_4 (fun t => κ (some 0) ⟨dd 3 (.box 3 0 :: .dead :: .own 10000000 :: vB t.1 :: dd 37 []), [(3, .box [vI t.2.1, vI t.2.2.1, vI t.2.2.2.1, vI t.2.2.2.2.1, vI t.2.2.2.2.2.1]), (10000000, .root true 106 ts_Key t.2.2.2.2.2.2)]⟩)
noncomputable def f281P : Lp := lpC 4 (unG qz108 f281e4_0) @f281g4 lpN
theorem f281C4 : LF f281Q f281P 281 4 Tryz.f281 0 f281e4_0 @f281g4 fun t => t := fun R κ again t => by kernel_rfl
theorem f281k4 : LK f281Q f281P 281 Tryz.f281 0 := loop_okG (u := (unG qz108 f281e4_0)) (by kernel_rfl) (unG_ok fun t => by kernel_rfl) (fun R κ s => by kernel_rfl) f281C4
theorem ev281 : EV f281Q f281P 281 Tryz.f281 sg281 qz55 [(.sl 106 ts_Key)] F_impl_SetPut := fun x => by kernel_rfl
noncomputable def q281 : QF := ⟨281, F_impl_SetPut, okN (n := 1) Tryz.func281 (by kernel_rfl) (by kernel_rfl) ⟨f281k4, trivial⟩ ev281⟩
abbrev T_impl_MergeSets_3 : Type := Qz109
noncomputable def S_impl_MergeSets_3 {R : Type} (k0 : List E_Key → Option R) (again : T_impl_MergeSets_3 → Option R) (t3 : T_impl_MergeSets_3) : Option R :=
  bif (decide (t3.2.2.1 < t3.2.1)) then if (0 : Int) ≤ t3.2.2.1 then if t3.2.2.1 < ((List.length t3.1 : Nat) : Int) then Option.bind (F_impl_SetPut (t3.2.2.2, (rd_Key t3.1 t3.2.2.1).1, (rd_Key t3.1 t3.2.2.1).2.1, (rd_Key t3.1 t3.2.2.1).2.2.1, (rd_Key t3.1 t3.2.2.1).2.2.2.1, (rd_Key t3.1 t3.2.2.1).2.2.2.2)) fun r2 => again (t3.1, t3.2.1, (Go.IntKind.wrap .i64 (t3.2.2.1 + (1 : Int))), r2) else none else none else k0 t3.2.2.2
noncomputable def L_impl_MergeSets_3 {R : Type} (k0 : List E_Key → Option R) (t : T_impl_MergeSets_3) : Option R := iter (S_impl_MergeSets_3 k0) FUEL t
noncomputable def F_impl_MergeSets (x : Qz6) : Option (List E_Key) :=
  Option.bind (F_impl_copyKeys x.1) fun r1 => L_impl_MergeSets_3 (fun x3 => some x3) (x.2, ((List.length x.2 : Nat) : Int), (0 : Int), r1)
noncomputable def f248Q : List QF := [q280, q281]
def f248e3_0 (t : Qz109) : St := ⟨dd 5 (.own 10000000 :: dd 4 (v_Key t.1 :: vI t.2.1 :: vI t.2.2.1 :: dd 8 [])), [(10000000, .root true 106 ts_Key t.2.2.2)]⟩
noncomputable def f248g3 : Gk T_impl_MergeSets_3 := fun κ => S_impl_MergeSets_3 (fun t => κ (some 0) ⟨dd 5 (.own 10000000 :: dd 15 []), [(10000000, .root true 106 ts_Key t)]⟩)
noncomputable def f248P : Lp := lpC 3 (unG qz109 f248e3_0) @f248g3 lpN
theorem f248C3 : LF f248Q f248P 248 3 Tryz.f248 0 f248e3_0 @f248g3 fun t => t := fun R κ again t => by kernel_rfl
theorem f248k3 : LK f248Q f248P 248 Tryz.f248 0 := loop_okG (u := (unG qz109 f248e3_0)) (by kernel_rfl) (unG_ok fun t => by kernel_rfl) (fun R κ s => by kernel_rfl) f248C3
theorem ev248 : EV f248Q f248P 248 Tryz.f248 sg248 qz6 [(.sl 106 ts_Key)] F_impl_MergeSets := fun x => by kernel_rfl
noncomputable def q248 : QF := ⟨248, F_impl_MergeSets, okN (n := 1) Tryz.func248 (by kernel_rfl) (by kernel_rfl) ⟨f248k3, trivial⟩ ev248⟩
abbrev T_impl_Drop_3 : Type := Qz109
noncomputable def S_impl_Drop_3 {R : Type} (k0 : List E_Key → Option R) (again : T_impl_Drop_3 → Option R) (t3 : T_impl_Drop_3) : Option R :=
  bif (decide (t3.2.2.1 < t3.2.1)) then if (0 : Int) ≤ t3.2.2.1 then if t3.2.2.1 < ((List.length t3.1 : Nat) : Int) then bif ((rd_Key t3.1 t3.2.2.1).2.2.1 != (0 : Int)) then if (List.length t3.2.2.2 + List.length ([((rd_Key t3.1 t3.2.2.1).1, (rd_Key t3.1 t3.2.2.1).2.1, (rd_Key t3.1 t3.2.2.1).2.2.1, (rd_Key t3.1 t3.2.2.1).2.2.2.1, (rd_Key t3.1 t3.2.2.1).2.2.2.2)] : List E_Key)) * 40 < 140737488355328 then again (t3.1, t3.2.1, (Go.IntKind.wrap .i64 (t3.2.2.1 + (1 : Int))), (t3.2.2.2 ++ ([((rd_Key t3.1 t3.2.2.1).1, (rd_Key t3.1 t3.2.2.1).2.1, (rd_Key t3.1 t3.2.2.1).2.2.1, (rd_Key t3.1 t3.2.2.1).2.2.2.1, (rd_Key t3.1 t3.2.2.1).2.2.2.2)] : List E_Key))) else none else again (t3.1, t3.2.1, (Go.IntKind.wrap .i64 (t3.2.2.1 + (1 : Int))), t3.2.2.2) else none else none else k0 t3.2.2.2
noncomputable def L_impl_Drop_3 {R : Type} (k0 : List E_Key → Option R) (t : T_impl_Drop_3) : Option R := iter (S_impl_Drop_3 k0) FUEL t
noncomputable def F_impl_Drop (x : List E_Key) : Option (List E_Key) :=
  L_impl_Drop_3 (fun x1 => some x1) (x, ((List.length x : Nat) : Int), (0 : Int), ([] : List E_Key))
noncomputable def f249Q : List QF := []
def f249e3_0 (t : Qz109) : St := ⟨dd 3 (.own 10000000 :: dd 3 (v_Key t.1 :: vI t.2.1 :: vI t.2.2.1 :: dd 12 [])), [(10000000, .root true 106 ts_Key t.2.2.2)]⟩
noncomputable def f249g3 : Gk T_impl_Drop_3 := fun κ => S_impl_Drop_3 (fun t => κ (some 0) ⟨dd 3 (.own 10000000 :: dd 18 []), [(10000000, .root true 106 ts_Key t)]⟩)
noncomputable def f249P : Lp := lpC 3 (unG qz109 f249e3_0) @f249g3 lpN
theorem f249C3 : LF f249Q f249P 249 3 Tryz.f249 0 f249e3_0 @f249g3 fun t => t := fun R κ again t => by kernel_rfl
theorem f249k3 : LK f249Q f249P 249 Tryz.f249 0 := loop_okG (u := (unG qz109 f249e3_0)) (by kernel_rfl) (unG_ok fun t => by kernel_rfl) (fun R κ s => by kernel_rfl) f249C3
theorem ev249 : EV f249Q f249P 249 Tryz.f249 sg249 [(.sl 106 ts_Key)] [(.sl 106 ts_Key)] F_impl_Drop := fun x => by kernel_rfl
noncomputable def q249 : QF := ⟨249, F_impl_Drop, okN (n := 1) Tryz.func249 (by kernel_rfl) (by kernel_rfl) ⟨f249k3, trivial⟩ ev249⟩
abbrev T_impl_NodeKeys_3 : Type := Qz110
noncomputable def S_impl_NodeKeys_3 {R : Type} (k0 : List E_Key → Option R) (again : T_impl_NodeKeys_3 → Option R) (t3 : T_impl_NodeKeys_3) : Option R :=
  bif (decide (t3.2.2.1 < t3.2.1)) then if (0 : Int) ≤ t3.2.2.1 then if t3.2.2.1 < ((List.length t3.1 : Nat) : Int) then Option.bind (F_impl_MergeSets (t3.2.2.2, (rd_s_Key t3.1 t3.2.2.1))) fun r1 => again (t3.1, t3.2.1, (Go.IntKind.wrap .i64 (t3.2.2.1 + (1 : Int))), r1) else none else none else k0 t3.2.2.2
noncomputable def L_impl_NodeKeys_3 {R : Type} (k0 : List E_Key → Option R) (t : T_impl_NodeKeys_3) : Option R := iter (S_impl_NodeKeys_3 k0) FUEL t
noncomputable def F_impl_NodeKeys (x : List E_s_Key) : Option (List E_Key) :=
  L_impl_NodeKeys_3 (fun x2 => Option.bind (F_impl_Drop x2) fun r3 => some r3) (x, ((List.length x : Nat) : Int), (0 : Int), ([] : List E_Key))
noncomputable def f206Q : List QF := [q248, q249]
def f206e3_0 (t : Qz110) : St := ⟨dd 3 (.own 10000000 :: dd 4 (v_s_Key t.1 :: vI t.2.1 :: vI t.2.2.1 :: dd 9 [])), [(10000000, .root true 106 ts_Key t.2.2.2)]⟩
noncomputable def f206g3 : Gk T_impl_NodeKeys_3 := fun κ => S_impl_NodeKeys_3 (fun t => κ (some 0) ⟨dd 3 (.own 10000000 :: dd 16 []), [(10000000, .root true 106 ts_Key t)]⟩)
noncomputable def f206P : Lp := lpC 3 (unG qz110 f206e3_0) @f206g3 lpN
theorem f206C3 : LF f206Q f206P 206 3 Tryz.f206 0 f206e3_0 @f206g3 fun t => t := fun R κ again t => by kernel_rfl
theorem f206k3 : LK f206Q f206P 206 Tryz.f206 0 := loop_okG (u := (unG qz110 f206e3_0)) (by kernel_rfl) (unG_ok fun t => by kernel_rfl) (fun R κ s => by kernel_rfl) f206C3
theorem ev206 : EV f206Q f206P 206 Tryz.f206 sg206 [(.sl 100 ts_s_Key)] [(.sl 106 ts_Key)] F_impl_NodeKeys := fun x => by kernel_rfl
noncomputable def q206 : QF := ⟨206, F_impl_NodeKeys, okN (n := 1) Tryz.func206 (by kernel_rfl) (by kernel_rfl) ⟨f206k3, trivial⟩ ev206⟩
abbrev T_impl_TreeOk_5 : Type := Qz111
noncomputable def S_impl_TreeOk_5 {R : Type} (k0 : Qz112 → Option R) (k1 : Int → Option R) (again : T_impl_TreeOk_5 → Option R) (t5 : T_impl_TreeOk_5) : Option R :=
  bif (decide (t5.2.2.2.1 < t5.2.2.1)) then if (0 : Int) ≤ t5.2.2.2.1 then if t5.2.2.2.1 < ((List.length t5.2.1 : Nat) : Int) then Option.bind (bif (decide (t5.2.2.2.1 > (0 : Int))) then if (0 : Int) ≤ (Go.IntKind.wrap .i64 (t5.2.2.2.1 - (1 : Int))) then if (Go.IntKind.wrap .i64 (t5.2.2.2.1 - (1 : Int))) < ((List.length t5.2.2.2.2.1 : Nat) : Int) then if (0 : Int) ≤ t5.2.2.2.1 then if t5.2.2.2.1 < ((List.length t5.2.2.2.2.1 : Nat) : Int) then some (decide ((rd_i64 t5.2.2.2.2.1 (Go.IntKind.wrap .i64 (t5.2.2.2.1 - (1 : Int)))) ≥ (rd_i64 t5.2.2.2.2.1 t5.2.2.2.1))) else none else none else none else none else some false) fun u4 => Option.bind (bif u4 then some true else Option.bind (F_impl_NodeOk (rd_Node t5.2.1 t5.2.2.2.1)) fun r6 => some (!r6)) fun u5 => Option.bind (bif u5 then some true else Option.bind (F_impl_inBounds (t5.2.2.2.2.1, t5.2.2.2.2.2, t5.2.2.2.1)) fun r8 => some (!r8)) fun u7 => bif u7 then k0 (false, t5.1) else Option.bind (F_impl_NodeKeys (rd_Node t5.2.1 t5.2.2.2.1)) fun r9 => Option.bind (bif (decide (t5.2.2.2.1 > (0 : Int))) then some (((List.length r9 : Nat) : Int) == (0 : Int)) else some false) fun u10 => bif u10 then k0 (false, t5.1) else again ((Go.IntKind.wrap .i64 (t5.1 + ((List.length r9 : Nat) : Int))), t5.2.1, t5.2.2.1, (Go.IntKind.wrap .i64 (t5.2.2.2.1 + (1 : Int))), t5.2.2.2.2.1, t5.2.2.2.2.2) else none else none else k1 t5.1
noncomputable def L_impl_TreeOk_5 {R : Type} (k0 : Qz112 → Option R) (k1 : Int → Option R) (t : T_impl_TreeOk_5) : Option R := iter (S_impl_TreeOk_5 k0 k1) FUEL t
noncomputable def F_impl_TreeOk (x : Qz58) : Option Bool :=
  Option.bind (F_impl_within (((List.length x.2 : Nat) : Int), (1 : Int), (20 : Int))) fun r1 => Option.bind (bif (!r1) then some true else some (((List.length x.1 : Nat) : Int) != ((List.length x.2 : Nat) : Int))) fun u2 => Option.bind (bif u2 then some true else if (0 : Int) ≤ (0 : Int) then if (0 : Int) < ((List.length x.1 : Nat) : Int) then some ((rd_i64 x.1 (0 : Int)) != (0 : Int)) else none else none) fun u3 => bif u3 then some false else L_impl_TreeOk_5 (fun x11 => some x11.1) (fun x12 => some (decide (x12 ≤ (60 : Int)))) ((0 : Int), x.2, ((List.length x.2 : Nat) : Int), (0 : Int), x.1, x.2)
noncomputable def f131Q : List QF := [q134, q204, q205, q206]
def f131e5_0 (t : Qz111) : St := ⟨.dead :: .box 1 0 :: .dead :: vI t.1 :: dd 25 (v_Node t.2.1 :: vI t.2.2.1 :: vI t.2.2.2.1 :: dd 46 []), [(1, .box [v_i64 t.2.2.2.2.1, v_Node t.2.2.2.2.2])]⟩
noncomputable def f131g5 : Gk T_impl_TreeOk_5 := fun κ => S_impl_TreeOk_5 (fun t => κ none ⟨dd 2 (vB t.1 :: vI t.2 :: dd 74 []), []⟩) (fun t => κ (some 0) ⟨dd 3 (vI t :: dd 74 []), []⟩)
noncomputable def f131P : Lp := lpC 5 (unG qz111 f131e5_0) @f131g5 lpN
theorem f131C5 : LF f131Q f131P 131 5 Tryz.f131 0 f131e5_0 @f131g5 fun t => t := fun R κ again t => by kernel_rfl
theorem f131k5 : LK f131Q f131P 131 Tryz.f131 0 := loop_okG (u := (unG qz111 f131e5_0)) (by kernel_rfl) (unG_ok fun t => by kernel_rfl) (fun R κ s => by kernel_rfl) f131C5
theorem ev131 : EV f131Q f131P 131 Tryz.f131 sg131 qz58 [.bool] F_impl_TreeOk := fun x => by kernel_rfl
noncomputable def q131 : QF := ⟨131, F_impl_TreeOk, okN (n := 1) Tryz.func131 (by kernel_rfl) (by kernel_rfl) ⟨f131k5, trivial⟩ ev131⟩
noncomputable def F_impl_AgeAt_1 (x : Qz51) : Option Qz112 :=
  some ((x.1 == x.2.2), x.2.2)
theorem ev251 : EV [] lpN 251 Tryz.f251 sg251 qz51 qz112 F_impl_AgeAt_1 := fun x => by kernel_rfl
noncomputable def q251 : QF := ⟨251, F_impl_AgeAt_1, okN (n := 0) Tryz.func251 (by kernel_rfl) (by kernel_rfl) trivial ev251⟩
abbrev T_slices_IndexFunc_Age_impl_AgeAt_1_2 : Type := Qz113
noncomputable def S_slices_IndexFunc_Age_impl_AgeAt_1_2 {R : Type} (k0 : Qz59 → Option R) (k1 : Int → Option R) (again : T_slices_IndexFunc_Age_impl_AgeAt_1_2 → Option R) (t2 : T_slices_IndexFunc_Age_impl_AgeAt_1_2) : Option R :=
  bif (decide (t2.2.2.1 < t2.2.1)) then if (0 : Int) ≤ t2.2.2.1 then if t2.2.2.1 < ((List.length t2.1 : Nat) : Int) then Option.bind (F_impl_AgeAt_1 ((rd_Age t2.1 t2.2.2.1).1, (rd_Age t2.1 t2.2.2.1).2, t2.2.2.2)) fun r1 => bif r1.1 then k0 (t2.2.2.1, r1.2) else again (t2.1, t2.2.1, (Go.IntKind.wrap .i64 (t2.2.2.1 + (1 : Int))), r1.2) else none else none else k1 t2.2.2.2
noncomputable def L_slices_IndexFunc_Age_impl_AgeAt_1_2 {R : Type} (k0 : Qz59 → Option R) (k1 : Int → Option R) (t : T_slices_IndexFunc_Age_impl_AgeAt_1_2) : Option R := iter (S_slices_IndexFunc_Age_impl_AgeAt_1_2 k0 k1) FUEL t
noncomputable def F_slices_IndexFunc_Age_impl_AgeAt_1 (x : Qz38) : Option Qz59 :=
  L_slices_IndexFunc_Age_impl_AgeAt_1_2 (fun x2 => some (x2.1, x2.2)) (fun x3 => some ((-1 : Int), x3)) (x.1, ((List.length x.1 : Nat) : Int), (0 : Int), x.2)
noncomputable def f100000Q : List QF := [q251]
def f100000e2_0 (t : Qz113) : St := ⟨v_Age t.1 :: .clo 251 901 :: dd 5 (vI t.2.1 :: vI t.2.2.1 :: dd 10 []), [(901, .box [vI t.2.2.2])]⟩
noncomputable def f100000g2 : Gk T_slices_IndexFunc_Age_impl_AgeAt_1_2 := fun κ => S_slices_IndexFunc_Age_impl_AgeAt_1_2 (fun t => κ none ⟨.dead :: .clo 251 901 :: dd 2 (vI t.1 :: dd 14 []), [(901, .box [vI t.2])]⟩) (fun t => κ (some 0) ⟨.dead :: .clo 251 901 :: dd 17 [], [(901, .box [vI t])]⟩)
noncomputable def f100000P : Lp := lpC 2 (unG qz113 f100000e2_0) @f100000g2 lpN
theorem f100000C2 : LF f100000Q f100000P 100000 2 Tryz.f250 0 f100000e2_0 @f100000g2 fun t => t := fun R κ again t => by kernel_rfl
theorem f100000k2 : LK f100000Q f100000P 100000 Tryz.f250 0 := loop_okG (u := (unG qz113 f100000e2_0)) (by kernel_rfl) (unG_ok fun t => by kernel_rfl) (fun R κ s => by kernel_rfl) f100000C2
theorem ev100000 : EV f100000Q f100000P 100000 Tryz.f250 sg100000 qz38 qz59 F_slices_IndexFunc_Age_impl_AgeAt_1 := fun x => by kernel_rfl
noncomputable def q100000 : QF := ⟨100000, F_slices_IndexFunc_Age_impl_AgeAt_1, okN (n := 1) Tryz.func250 (by kernel_rfl) (by kernel_rfl) ⟨f100000k2, trivial⟩ ev100000⟩
noncomputable def F_impl_AgeAt (x : Qz38) : Option Int :=
  Option.bind (F_slices_IndexFunc_Age_impl_AgeAt_1 (x.1, x.2)) fun r1 => some r1.1
theorem ev207 : EV [q100000] lpN 207 Tryz.f207 sg207 qz38 [(.int .i64)] F_impl_AgeAt := fun x => by kernel_rfl
noncomputable def q207 : QF := ⟨207, F_impl_AgeAt, okN (n := 0) Tryz.func207 (by kernel_rfl) (by kernel_rfl) trivial ev207⟩
abbrev T_impl_AgesOk_2 : Type := Qz114
noncomputable def S_impl_AgesOk_2 {R : Type} (k0 : Qz68 → Option R) (k1 : List E_Age → Option R) (again : T_impl_AgesOk_2 → Option R) (t2 : T_impl_AgesOk_2) : Option R :=
  bif (decide (t2.2.2.2 < t2.2.2.1)) then if (0 : Int) ≤ t2.2.2.2 then if t2.2.2.2 < ((List.length t2.2.1 : Nat) : Int) then Option.bind (F_impl_within ((rd_Age t2.2.1 t2.2.2.2).1, (1 : Int), (60 : Int))) fun r1 => Option.bind (bif (!r1) then some true else Option.bind (bif (decide (t2.2.2.2 > (0 : Int))) then if (0 : Int) ≤ (Go.IntKind.wrap .i64 (t2.2.2.2 - (1 : Int))) then if (Go.IntKind.wrap .i64 (t2.2.2.2 - (1 : Int))) < ((List.length t2.1 : Nat) : Int) then some (decide ((rd_Age t2.1 (Go.IntKind.wrap .i64 (t2.2.2.2 - (1 : Int)))).1 ≥ (rd_Age t2.2.1 t2.2.2.2).1)) else none else none else some false) fun u3 => some u3) fun u2 => Option.bind (bif u2 then some true else Option.bind (bif ((rd_Age t2.2.1 t2.2.2.2).2 != (0 : Int)) then if (0 : Int) ≤ (0 : Int) then if (0 : Int) ≤ t2.2.2.2 then if t2.2.2.2 ≤ ((List.length t2.1 : Nat) : Int) then Option.bind (F_impl_AgeAt ((List.drop (Int.toNat (0 : Int)) (List.take (Int.toNat t2.2.2.2) t2.1)), (rd_Age t2.2.1 t2.2.2.2).2)) fun r6 => some (decide (r6 < (0 : Int))) else none else none else none else some false) fun u5 => some u5) fun u4 => bif u4 then k0 (t2.1, false) else again (t2.1, t2.2.1, t2.2.2.1, (Go.IntKind.wrap .i64 (t2.2.2.2 + (1 : Int)))) else none else none else k1 t2.1
noncomputable def L_impl_AgesOk_2 {R : Type} (k0 : Qz68 → Option R) (k1 : List E_Age → Option R) (t : T_impl_AgesOk_2) : Option R := iter (S_impl_AgesOk_2 k0 k1) FUEL t
noncomputable def F_impl_AgesOk (x : List E_Age) : Option Bool :=
  L_impl_AgesOk_2 (fun x7 => some x7.2) (fun x8 => some (decide (((List.length x8 : Nat) : Int) ≤ (16 : Int)))) (x, x, ((List.length x : Nat) : Int), (0 : Int))
noncomputable def f132Q : List QF := [q134, q207]
def f132e2_0 (t : Qz114) : St := ⟨v_Age t.1 :: dd 4 (v_Age t.2.1 :: vI t.2.2.1 :: vI t.2.2.2 :: dd 41 []), []⟩
noncomputable def f132g2 : Gk T_impl_AgesOk_2 := fun κ => S_impl_AgesOk_2 (fun t => κ none ⟨v_Age t.1 :: .dead :: vB t.2 :: dd 46 [], []⟩) (fun t => κ (some 0) ⟨v_Age t :: dd 48 [], []⟩)
noncomputable def f132P : Lp := lpC 2 (unG qz114 f132e2_0) @f132g2 lpN
theorem f132C2 : LF f132Q f132P 132 2 Tryz.f132 0 f132e2_0 @f132g2 fun t => t := fun R κ again t => by kernel_rfl
theorem f132k2 : LK f132Q f132P 132 Tryz.f132 0 := loop_okG (u := (unG qz114 f132e2_0)) (by kernel_rfl) (unG_ok fun t => by kernel_rfl) (fun R κ s => by kernel_rfl) f132C2
theorem ev132 : EV f132Q f132P 132 Tryz.f132 sg132 [(.sl 89 ts_Age)] [.bool] F_impl_AgesOk := fun x => by kernel_rfl
noncomputable def q132 : QF := ⟨132, F_impl_AgesOk, okN (n := 1) Tryz.func132 (by kernel_rfl) (by kernel_rfl) ⟨f132k2, trivial⟩ ev132⟩
noncomputable def F_impl_isWord (x : Int) : Option Bool :=
  Option.bind (F_impl_within (x, (0 : Int), (65535 : Int))) fun r1 => some r1
theorem ev208 : EV [q134] lpN 208 Tryz.f208 sg208 [(.int .i64)] [.bool] F_impl_isWord := fun x => by kernel_rfl
noncomputable def q208 : QF := ⟨208, F_impl_isWord, okN (n := 0) Tryz.func208 (by kernel_rfl) (by kernel_rfl) trivial ev208⟩
abbrev T_impl_CellsOk_2 : Type := Qz115
noncomputable def S_impl_CellsOk_2 {R : Type} (k0 : Qz69 → Option R) (k1 : List E_Cell → Option R) (again : T_impl_CellsOk_2 → Option R) (t2 : T_impl_CellsOk_2) : Option R :=
  bif (decide (t2.2.2.2 < t2.2.2.1)) then if (0 : Int) ≤ t2.2.2.2 then if t2.2.2.2 < ((List.length t2.2.1 : Nat) : Int) then Option.bind (F_impl_within ((rd_Cell t2.2.1 t2.2.2.2).1, (0 : Int), (999 : Int))) fun r1 => Option.bind (bif (!r1) then some true else Option.bind (F_impl_isWord ((rd_Cell t2.2.1 t2.2.2.2).2.2)) fun r3 => some (!r3)) fun u2 => Option.bind (bif u2 then some true else Option.bind (bif ((rd_Cell t2.2.1 t2.2.2.2).2.2 != (0 : Int)) then some (!((rd_Cell t2.2.1 t2.2.2.2).2.1)) else some false) fun u5 => some u5) fun u4 => bif u4 then k0 (t2.1, false) else again (t2.1, t2.2.1, t2.2.2.1, (Go.IntKind.wrap .i64 (t2.2.2.2 + (1 : Int)))) else none else none else k1 t2.1
noncomputable def L_impl_CellsOk_2 {R : Type} (k0 : Qz69 → Option R) (k1 : List E_Cell → Option R) (t : T_impl_CellsOk_2) : Option R := iter (S_impl_CellsOk_2 k0 k1) FUEL t
noncomputable def F_impl_CellsOk (x : List E_Cell) : Option Bool :=
  L_impl_CellsOk_2 (fun x6 => some x6.2) (fun x7 => some (((List.length x7 : Nat) : Int) == (24 : Int))) (x, x, ((List.length x : Nat) : Int), (0 : Int))
noncomputable def f133Q : List QF := [q134, q208]
def f133e2_0 (t : Qz115) : St := ⟨v_Cell t.1 :: dd 4 (v_Cell t.2.1 :: vI t.2.2.1 :: vI t.2.2.2 :: dd 27 []), []⟩
noncomputable def f133g2 : Gk T_impl_CellsOk_2 := fun κ => S_impl_CellsOk_2 (fun t => κ none ⟨v_Cell t.1 :: .dead :: vB t.2 :: dd 32 [], []⟩) (fun t => κ (some 0) ⟨v_Cell t :: dd 34 [], []⟩)
noncomputable def f133P : Lp := lpC 2 (unG qz115 f133e2_0) @f133g2 lpN
theorem f133C2 : LF f133Q f133P 133 2 Tryz.f133 0 f133e2_0 @f133g2 fun t => t := fun R κ again t => by kernel_rfl
theorem f133k2 : LK f133Q f133P 133 Tryz.f133 0 := loop_okG (u := (unG qz115 f133e2_0)) (by kernel_rfl) (unG_ok fun t => by kernel_rfl) (fun R κ s => by kernel_rfl) f133C2
theorem ev133 : EV f133Q f133P 133 Tryz.f133 sg133 [(.sl 95 ts_Cell)] [.bool] F_impl_CellsOk := fun x => by kernel_rfl
noncomputable def q133 : QF := ⟨133, F_impl_CellsOk, okN (n := 1) Tryz.func133 (by kernel_rfl) (by kernel_rfl) ⟨f133k2, trivial⟩ ev133⟩
abbrev T_impl_NameOk_2 : Type := Qz70
noncomputable def S_impl_NameOk_2 {R : Type} (k0 : Qz71 → Option R) (k1 : ByteArray → Option R) (again : T_impl_NameOk_2 → Option R) (t2 : T_impl_NameOk_2) : Option R :=
  bif (decide (t2.2 < ((ByteArray.size t2.1 : Nat) : Int))) then if (0 : Int) ≤ t2.2 then if h1 : Int.toNat t2.2 < ByteArray.size t2.1 then Option.bind (F_impl_within ((Go.IntKind.wrap .i64 ((UInt8.toNat (ByteArray.get t2.1 (Int.toNat t2.2) h1) : Nat) : Int)), (97 : Int), (122 : Int))) fun r2 => Option.bind (bif (!r2) then if (0 : Int) ≤ t2.2 then if h4 : Int.toNat t2.2 < ByteArray.size t2.1 then Option.bind (F_impl_within ((Go.IntKind.wrap .i64 ((UInt8.toNat (ByteArray.get t2.1 (Int.toNat t2.2) h4) : Nat) : Int)), (48 : Int), (57 : Int))) fun r5 => some (!r5) else none else none else some false) fun u3 => bif u3 then k0 (t2.1, false) else again (t2.1, (Go.IntKind.wrap .i64 (t2.2 + (1 : Int)))) else none else none else k1 t2.1
noncomputable def L_impl_NameOk_2 {R : Type} (k0 : Qz71 → Option R) (k1 : ByteArray → Option R) (t : T_impl_NameOk_2) : Option R := iter (S_impl_NameOk_2 k0 k1) FUEL t
noncomputable def F_impl_NameOk (x : ByteArray) : Option Bool :=
  L_impl_NameOk_2 (fun x6 => some x6.2) (fun x7 => Option.bind (F_impl_within (((ByteArray.size x7 : Nat) : Int), (1 : Int), (6 : Int))) fun r8 => some r8) (x, (0 : Int))
noncomputable def f209Q : List QF := [q134]
def f209e2_0 (t : Qz70) : St := ⟨vS t.1 :: dd 2 (vI t.2 :: dd 23 []), []⟩
noncomputable def f209g2 : Gk T_impl_NameOk_2 := fun κ => S_impl_NameOk_2 (fun t => κ none ⟨vS t.1 :: .dead :: vB t.2 :: dd 24 [], []⟩) (fun t => κ (some 0) ⟨vS t :: dd 26 [], []⟩)
noncomputable def f209P : Lp := lpC 2 (unG qz70 f209e2_0) @f209g2 lpN
theorem f209C2 : LF f209Q f209P 209 2 Tryz.f209 0 f209e2_0 @f209g2 fun t => t := fun R κ again t => by kernel_rfl
theorem f209k2 : LK f209Q f209P 209 Tryz.f209 0 := loop_okG (u := (unG qz70 f209e2_0)) (by kernel_rfl) (unG_ok fun t => by kernel_rfl) (fun R κ s => by kernel_rfl) f209C2
theorem ev209 : EV f209Q f209P 209 Tryz.f209 sg209 [.str] [.bool] F_impl_NameOk := fun x => by kernel_rfl
noncomputable def q209 : QF := ⟨209, F_impl_NameOk, okN (n := 1) Tryz.func209 (by kernel_rfl) (by kernel_rfl) ⟨f209k2, trivial⟩ ev209⟩
abbrev T_impl_KidsOf_5 : Type := Qz116
noncomputable def S_impl_KidsOf_5 {R : Type} (k0 : List E_i64 → Option R) (again : T_impl_KidsOf_5 → Option R) (t5 : T_impl_KidsOf_5) : Option R :=
  bif (decide (t5.2.2.2.1 < t5.2.2.1)) then if (0 : Int) ≤ t5.2.2.2.1 then if t5.2.2.2.1 < ((List.length t5.2.1 : Nat) : Int) then bif ((rd_Age t5.2.1 t5.2.2.2.1).2 == t5.1) then if (List.length t5.2.2.2.2 + List.length ([(rd_Age t5.2.1 t5.2.2.2.1).1] : List E_i64)) * 8 < 140737488355328 then again (t5.1, t5.2.1, t5.2.2.1, (Go.IntKind.wrap .i64 (t5.2.2.2.1 + (1 : Int))), (t5.2.2.2.2 ++ ([(rd_Age t5.2.1 t5.2.2.2.1).1] : List E_i64))) else none else again (t5.1, t5.2.1, t5.2.2.1, (Go.IntKind.wrap .i64 (t5.2.2.2.1 + (1 : Int))), t5.2.2.2.2) else none else none else k0 t5.2.2.2.2
noncomputable def L_impl_KidsOf_5 {R : Type} (k0 : List E_i64 → Option R) (t : T_impl_KidsOf_5) : Option R := iter (S_impl_KidsOf_5 k0) FUEL t
noncomputable def F_impl_KidsOf (x : Qz38) : Option (List E_i64) :=
  bif (x.2 == (0 : Int)) then some ([] : List E_i64) else L_impl_KidsOf_5 (fun x1 => some x1) (x.2, x.1, ((List.length x.1 : Nat) : Int), (0 : Int), ([] : List E_i64))
noncomputable def f210Q : List QF := []
def f210e5_0 (t : Qz116) : St := ⟨.dead :: vI t.1 :: dd 3 (.own 10000000 :: dd 6 (v_Age t.2.1 :: vI t.2.2.1 :: vI t.2.2.2.1 :: dd 14 [])), [(10000000, .root true 3 ts_i64 t.2.2.2.2)]⟩
noncomputable def f210g5 : Gk T_impl_KidsOf_5 := fun κ => S_impl_KidsOf_5 (fun t => κ (some 0) ⟨dd 5 (.own 10000000 :: dd 23 []), [(10000000, .root true 3 ts_i64 t)]⟩)
noncomputable def f210P : Lp := lpC 5 (unG qz116 f210e5_0) @f210g5 lpN
theorem f210C5 : LF f210Q f210P 210 5 Tryz.f210 0 f210e5_0 @f210g5 fun t => t := fun R κ again t => by kernel_rfl
theorem f210k5 : LK f210Q f210P 210 Tryz.f210 0 := loop_okG (u := (unG qz116 f210e5_0)) (by kernel_rfl) (unG_ok fun t => by kernel_rfl) (fun R κ s => by kernel_rfl) f210C5
theorem ev210 : EV f210Q f210P 210 Tryz.f210 sg210 qz38 [(.sl 3 ts_i64)] F_impl_KidsOf := fun x => by kernel_rfl
noncomputable def q210 : QF := ⟨210, F_impl_KidsOf, okN (n := 1) Tryz.func210 (by kernel_rfl) (by kernel_rfl) ⟨f210k5, trivial⟩ ev210⟩
noncomputable def F_impl_volsOk_1 (x : Qz18) : Option Qz117 :=
  some ((x.2.1 == x.2.2.2.2.2.1), x.2.2.2.2.1, x.2.2.2.2.2.1, x.2.2.2.2.2.2.1, x.2.2.2.2.2.2.2)
theorem ev212 : EV [] lpN 212 Tryz.f212 sg212 qz18 qz117 F_impl_volsOk_1 := fun x => by kernel_rfl
noncomputable def q212 : QF := ⟨212, F_impl_volsOk_1, okN (n := 0) Tryz.func212 (by kernel_rfl) (by kernel_rfl) trivial ev212⟩
abbrev T_slices_IndexFunc_Vol_impl_volsOk_1_2 : Type := Qz118
noncomputable def S_slices_IndexFunc_Vol_impl_volsOk_1_2 {R : Type} (k0 : Qz119 → Option R) (k1 : Qz120 → Option R) (again : T_slices_IndexFunc_Vol_impl_volsOk_1_2 → Option R) (t2 : T_slices_IndexFunc_Vol_impl_volsOk_1_2) : Option R :=
  bif (decide (t2.2.2.1 < t2.2.1)) then if (0 : Int) ≤ t2.2.2.1 then if t2.2.2.1 < ((List.length t2.1 : Nat) : Int) then Option.bind (F_impl_volsOk_1 ((rd_Vol t2.1 t2.2.2.1).1, (rd_Vol t2.1 t2.2.2.1).2.1, (rd_Vol t2.1 t2.2.2.1).2.2.1, (rd_Vol t2.1 t2.2.2.1).2.2.2, t2.2.2.2.1, t2.2.2.2.2.1, t2.2.2.2.2.2.1, t2.2.2.2.2.2.2)) fun r1 => bif r1.1 then k0 (t2.2.2.1, r1.2.1, r1.2.2.1, r1.2.2.2.1, r1.2.2.2.2) else again (t2.1, t2.2.1, (Go.IntKind.wrap .i64 (t2.2.2.1 + (1 : Int))), r1.2.1, r1.2.2.1, r1.2.2.2.1, r1.2.2.2.2) else none else none else k1 (t2.2.2.2.1, t2.2.2.2.2.1, t2.2.2.2.2.2.1, t2.2.2.2.2.2.2)
noncomputable def L_slices_IndexFunc_Vol_impl_volsOk_1_2 {R : Type} (k0 : Qz119 → Option R) (k1 : Qz120 → Option R) (t : T_slices_IndexFunc_Vol_impl_volsOk_1_2) : Option R := iter (S_slices_IndexFunc_Vol_impl_volsOk_1_2 k0 k1) FUEL t
noncomputable def F_slices_IndexFunc_Vol_impl_volsOk_1 (x : Qz121) : Option Qz119 :=
  L_slices_IndexFunc_Vol_impl_volsOk_1_2 (fun x2 => some (x2.1, x2.2.1, x2.2.2.1, x2.2.2.2.1, x2.2.2.2.2)) (fun x3 => some ((-1 : Int), x3.1, x3.2.1, x3.2.2.1, x3.2.2.2)) (x.1, ((List.length x.1 : Nat) : Int), (0 : Int), x.2.1, x.2.2.1, x.2.2.2.1, x.2.2.2.2)
noncomputable def f100002Q : List QF := [q212]
def f100002e2_0 (t : Qz118) : St := ⟨v_Vol t.1 :: .clo 212 901 :: dd 5 (vI t.2.1 :: vI t.2.2.1 :: dd 10 []), [(901, .box [vS t.2.2.2.1, vI t.2.2.2.2.1, vI t.2.2.2.2.2.1, vB t.2.2.2.2.2.2])]⟩
noncomputable def f100002g2 : Gk T_slices_IndexFunc_Vol_impl_volsOk_1_2 := fun κ => S_slices_IndexFunc_Vol_impl_volsOk_1_2 (fun t => κ none ⟨.dead :: .clo 212 901 :: dd 2 (vI t.1 :: dd 14 []), [(901, .box [vS t.2.1, vI t.2.2.1, vI t.2.2.2.1, vB t.2.2.2.2])]⟩) (fun t => κ (some 0) ⟨.dead :: .clo 212 901 :: dd 17 [], [(901, .box [vS t.1, vI t.2.1, vI t.2.2.1, vB t.2.2.2])]⟩)
noncomputable def f100002P : Lp := lpC 2 (unG qz118 f100002e2_0) @f100002g2 lpN
theorem f100002C2 : LF f100002Q f100002P 100002 2 Tryz.f252 0 f100002e2_0 @f100002g2 fun t => t := fun R κ again t => by kernel_rfl
theorem f100002k2 : LK f100002Q f100002P 100002 Tryz.f252 0 := loop_okG (u := (unG qz118 f100002e2_0)) (by kernel_rfl) (unG_ok fun t => by kernel_rfl) (fun R κ s => by kernel_rfl) f100002C2
theorem ev100002 : EV f100002Q f100002P 100002 Tryz.f252 sg100002 qz121 qz119 F_slices_IndexFunc_Vol_impl_volsOk_1 := fun x => by kernel_rfl
noncomputable def q100002 : QF := ⟨100002, F_slices_IndexFunc_Vol_impl_volsOk_1, okN (n := 1) Tryz.func252 (by kernel_rfl) (by kernel_rfl) ⟨f100002k2, trivial⟩ ev100002⟩
noncomputable def F_slices_ContainsFunc_Vol_impl_volsOk_1 (x : Qz121) : Option Qz117 :=
  Option.bind (F_slices_IndexFunc_Vol_impl_volsOk_1 (x.1, x.2.1, x.2.2.1, x.2.2.2.1, x.2.2.2.2)) fun r1 => some ((decide (r1.1 ≥ (0 : Int))), r1.2.1, r1.2.2.1, r1.2.2.2.1, r1.2.2.2.2)
theorem ev100001 : EV [q100002] lpN 100001 Tryz.f211 sg100001 qz121 qz117 F_slices_ContainsFunc_Vol_impl_volsOk_1 := fun x => by kernel_rfl
noncomputable def q100001 : QF := ⟨100001, F_slices_ContainsFunc_Vol_impl_volsOk_1, okN (n := 0) Tryz.func211 (by kernel_rfl) (by kernel_rfl) trivial ev100001⟩
abbrev T_impl_volsOk_2 : Type := Qz122
noncomputable def S_impl_volsOk_2 {R : Type} (k0 : Qz76 → Option R) (k1 : Qz77 → Option R) (again : T_impl_volsOk_2 → Option R) (t2 : T_impl_volsOk_2) : Option R :=
  bif (decide (t2.2.2.1 < t2.2.1)) then if (0 : Int) ≤ t2.2.2.1 then if t2.2.2.1 < ((List.length t2.1 : Nat) : Int) then Option.bind (F_impl_NameOk ((rd_Vol t2.1 t2.2.2.1).1)) fun r1 => Option.bind (bif (!r1) then some true else Option.bind (bif (decide (t2.2.2.1 > (0 : Int))) then if (0 : Int) ≤ (Go.IntKind.wrap .i64 (t2.2.2.1 - (1 : Int))) then if (Go.IntKind.wrap .i64 (t2.2.2.1 - (1 : Int))) < ((List.length t2.2.2.2.2.2.2.2.1 : Nat) : Int) then some (!Go.Op.bytesLess (ByteArray.toList ((rd_Vol t2.2.2.2.2.2.2.2.1 (Go.IntKind.wrap .i64 (t2.2.2.1 - (1 : Int)))).1)) (ByteArray.toList ((rd_Vol t2.1 t2.2.2.1).1))) else none else none else some false) fun u3 => some u3) fun u2 => Option.bind (bif u2 then some true else Option.bind (F_impl_within ((rd_Vol t2.1 t2.2.2.1).2.2.1, (1 : Int), (12 : Int))) fun r5 => some (!r5)) fun u4 => bif u4 then k0 (false, t2.2.2.2.1, t2.2.2.2.2.1, t2.2.2.2.2.2.1, t2.2.2.2.2.2.2.1, t2.2.2.2.2.2.2.2.1, t2.2.2.2.2.2.2.2.2) else Option.bind (F_impl_AgeAt (t2.2.2.2.2.2.1, (rd_Vol t2.1 t2.2.2.1).2.1)) fun r6 => Option.bind (bif (decide (r6 < (0 : Int))) then some true else Option.bind (F_impl_KidsOf (t2.2.2.2.2.2.1, (rd_Vol t2.1 t2.2.2.1).2.1)) fun r8 => some (decide (((List.length r8 : Nat) : Int) > (0 : Int)))) fun u7 => bif u7 then k0 (false, t2.2.2.2.1, t2.2.2.2.2.1, t2.2.2.2.2.2.1, t2.2.2.2.2.2.2.1, t2.2.2.2.2.2.2.2.1, t2.2.2.2.2.2.2.2.2) else if (0 : Int) ≤ (0 : Int) then if (0 : Int) ≤ t2.2.2.1 then if t2.2.2.1 ≤ ((List.length t2.2.2.2.2.2.2.2.1 : Nat) : Int) then Option.bind (F_slices_ContainsFunc_Vol_impl_volsOk_1 ((List.drop (Int.toNat (0 : Int)) (List.take (Int.toNat t2.2.2.1) t2.2.2.2.2.2.2.2.1)), (rd_Vol t2.1 t2.2.2.1).1, (rd_Vol t2.1 t2.2.2.1).2.1, (rd_Vol t2.1 t2.2.2.1).2.2.1, (rd_Vol t2.1 t2.2.2.1).2.2.2)) fun r9 => bif r9.1 then k0 (false, t2.2.2.2.1, t2.2.2.2.2.1, t2.2.2.2.2.2.1, t2.2.2.2.2.2.2.1, t2.2.2.2.2.2.2.2.1, t2.2.2.2.2.2.2.2.2) else again (t2.1, t2.2.1, (Go.IntKind.wrap .i64 (t2.2.2.1 + (1 : Int))), t2.2.2.2.1, t2.2.2.2.2.1, t2.2.2.2.2.2.1, t2.2.2.2.2.2.2.1, t2.2.2.2.2.2.2.2.1, t2.2.2.2.2.2.2.2.2) else none else none else none else none else none else k1 (t2.2.2.2.1, t2.2.2.2.2.1, t2.2.2.2.2.2.1, t2.2.2.2.2.2.2.1, t2.2.2.2.2.2.2.2.1, t2.2.2.2.2.2.2.2.2)
noncomputable def L_impl_volsOk_2 {R : Type} (k0 : Qz76 → Option R) (k1 : Qz77 → Option R) (t : T_impl_volsOk_2) : Option R := iter (S_impl_volsOk_2 k0 k1) FUEL t
noncomputable def F_impl_volsOk (x : Qz77) : Option Bool :=
  L_impl_volsOk_2 (fun x10 => some x10.1) (fun x11 => some (decide (((List.length x11.2.2.2.2.1 : Nat) : Int) ≤ (6 : Int)))) (x.2.2.2.2.1, ((List.length x.2.2.2.2.1 : Nat) : Int), (0 : Int), x.1, x.2.1, x.2.2.1, x.2.2.2.1, x.2.2.2.2.1, x.2.2.2.2.2)
noncomputable def f135Q : List QF := [q134, q207, q209, q210, q100001]
def f135e2_0 (t : Qz122) : St := ⟨.dead :: .box 1 0 :: dd 4 (v_Vol t.1 :: vI t.2.1 :: vI t.2.2.1 :: dd 56 []), [(1, .box [v_i64 t.2.2.2.1, v_Node t.2.2.2.2.1, v_Age t.2.2.2.2.2.1, v_Cell t.2.2.2.2.2.2.1, v_Vol t.2.2.2.2.2.2.2.1, vI t.2.2.2.2.2.2.2.2])]⟩
noncomputable def f135g2 : Gk T_impl_volsOk_2 := fun κ => S_impl_volsOk_2 (fun t => κ none ⟨.dead :: .box 1 0 :: vB t.1 :: dd 62 [], [(1, .box [v_i64 t.2.1, v_Node t.2.2.1, v_Age t.2.2.2.1, v_Cell t.2.2.2.2.1, v_Vol t.2.2.2.2.2.1, vI t.2.2.2.2.2.2])]⟩) (fun t => κ (some 0) ⟨.dead :: .box 1 0 :: dd 63 [], [(1, .box [v_i64 t.1, v_Node t.2.1, v_Age t.2.2.1, v_Cell t.2.2.2.1, v_Vol t.2.2.2.2.1, vI t.2.2.2.2.2])]⟩)
noncomputable def f135P : Lp := lpC 2 (unG qz122 f135e2_0) @f135g2 lpN
theorem f135C2 : LF f135Q f135P 135 2 Tryz.f135 0 f135e2_0 @f135g2 fun t => t := fun R κ again t => by kernel_rfl
theorem f135k2 : LK f135Q f135P 135 Tryz.f135 0 := loop_okG (u := (unG qz122 f135e2_0)) (by kernel_rfl) (unG_ok fun t => by kernel_rfl) (fun R κ s => by kernel_rfl) f135C2
theorem ev135 : EV f135Q f135P 135 Tryz.f135 sg135 qz77 [.bool] F_impl_volsOk := fun x => by kernel_rfl
noncomputable def q135 : QF := ⟨135, F_impl_volsOk, okN (n := 1) Tryz.func135 (by kernel_rfl) (by kernel_rfl) ⟨f135k2, trivial⟩ ev135⟩
abbrev T_impl_TreeKeys_3 : Type := Qz123
noncomputable def S_impl_TreeKeys_3 {R : Type} (k0 : List E_Key → Option R) (again : T_impl_TreeKeys_3 → Option R) (t3 : T_impl_TreeKeys_3) : Option R :=
  bif (decide (t3.2.2.1 < t3.2.1)) then if (0 : Int) ≤ t3.2.2.1 then if t3.2.2.1 < ((List.length t3.1 : Nat) : Int) then Option.bind (F_impl_NodeKeys (rd_Node t3.1 t3.2.2.1)) fun r1 => if (List.length t3.2.2.2 + List.length r1) * 40 < 140737488355328 then again (t3.1, t3.2.1, (Go.IntKind.wrap .i64 (t3.2.2.1 + (1 : Int))), (t3.2.2.2 ++ r1)) else none else none else none else k0 t3.2.2.2
noncomputable def L_impl_TreeKeys_3 {R : Type} (k0 : List E_Key → Option R) (t : T_impl_TreeKeys_3) : Option R := iter (S_impl_TreeKeys_3 k0) FUEL t
noncomputable def F_impl_TreeKeys (x : Qz58) : Option (List E_Key) :=
  L_impl_TreeKeys_3 (fun x2 => some x2) (x.2, ((List.length x.2 : Nat) : Int), (0 : Int), ([] : List E_Key))
noncomputable def f213Q : List QF := [q206]
def f213e3_0 (t : Qz123) : St := ⟨dd 3 (.own 10000000 :: dd 4 (v_Node t.1 :: vI t.2.1 :: vI t.2.2.1 :: dd 9 [])), [(10000000, .root true 106 ts_Key t.2.2.2)]⟩
noncomputable def f213g3 : Gk T_impl_TreeKeys_3 := fun κ => S_impl_TreeKeys_3 (fun t => κ (some 0) ⟨dd 3 (.own 10000000 :: dd 16 []), [(10000000, .root true 106 ts_Key t)]⟩)
noncomputable def f213P : Lp := lpC 3 (unG qz123 f213e3_0) @f213g3 lpN
theorem f213C3 : LF f213Q f213P 213 3 Tryz.f213 0 f213e3_0 @f213g3 fun t => t := fun R κ again t => by kernel_rfl
theorem f213k3 : LK f213Q f213P 213 Tryz.f213 0 := loop_okG (u := (unG qz123 f213e3_0)) (by kernel_rfl) (unG_ok fun t => by kernel_rfl) (fun R κ s => by kernel_rfl) f213C3
theorem ev213 : EV f213Q f213P 213 Tryz.f213 sg213 qz58 [(.sl 106 ts_Key)] F_impl_TreeKeys := fun x => by kernel_rfl
noncomputable def q213 : QF := ⟨213, F_impl_TreeKeys, okN (n := 1) Tryz.func213 (by kernel_rfl) (by kernel_rfl) ⟨f213k3, trivial⟩ ev213⟩
noncomputable def F_impl_CellAt (x : Qz78) : Option Qz79 :=
  Option.bind (F_impl_within (x.2.1, (0 : Int), (Go.IntKind.wrap .i64 (((List.length x.1 : Nat) : Int) - (1 : Int))))) fun r1 => Option.bind (bif (!r1) then some true else if (0 : Int) ≤ x.2.1 then if x.2.1 < ((List.length x.1 : Nat) : Int) then some (!((rd_Cell x.1 x.2.1).2.1)) else none else none) fun u2 => Option.bind (bif u2 then some true else if (0 : Int) ≤ x.2.1 then if x.2.1 < ((List.length x.1 : Nat) : Int) then some ((rd_Cell x.1 x.2.1).1 != x.2.2) else none else none) fun u3 => bif u3 then some ((0 : Int), false) else if (0 : Int) ≤ x.2.1 then if x.2.1 < ((List.length x.1 : Nat) : Int) then some ((rd_Cell x.1 x.2.1).2.2, true) else none else none
theorem ev214 : EV [q134] lpN 214 Tryz.f214 sg214 qz78 qz79 F_impl_CellAt := fun x => by kernel_rfl
noncomputable def q214 : QF := ⟨214, F_impl_CellAt, okN (n := 0) Tryz.func214 (by kernel_rfl) (by kernel_rfl) trivial ev214⟩
abbrev T_impl_UsedCells_3 : Type := Qz124
noncomputable def S_impl_UsedCells_3 {R : Type} (k0 : Int → Option R) (again : T_impl_UsedCells_3 → Option R) (t3 : T_impl_UsedCells_3) : Option R :=
  bif (decide (t3.2.2.2 < t3.2.2.1)) then if (0 : Int) ≤ t3.2.2.2 then if t3.2.2.2 < ((List.length t3.2.1 : Nat) : Int) then bif (rd_Cell t3.2.1 t3.2.2.2).2.1 then again ((Go.IntKind.wrap .i64 (t3.1 + (1 : Int))), t3.2.1, t3.2.2.1, (Go.IntKind.wrap .i64 (t3.2.2.2 + (1 : Int)))) else again (t3.1, t3.2.1, t3.2.2.1, (Go.IntKind.wrap .i64 (t3.2.2.2 + (1 : Int)))) else none else none else k0 t3.1
noncomputable def L_impl_UsedCells_3 {R : Type} (k0 : Int → Option R) (t : T_impl_UsedCells_3) : Option R := iter (S_impl_UsedCells_3 k0) FUEL t
noncomputable def F_impl_UsedCells (x : List E_Cell) : Option Int :=
  L_impl_UsedCells_3 (fun x1 => some x1) ((0 : Int), x, ((List.length x : Nat) : Int), (0 : Int))
noncomputable def f215Q : List QF := []
def f215e3_0 (t : Qz124) : St := ⟨dd 3 (vI t.1 :: dd 2 (v_Cell t.2.1 :: vI t.2.2.1 :: vI t.2.2.2 :: dd 9 [])), []⟩
noncomputable def f215g3 : Gk T_impl_UsedCells_3 := fun κ => S_impl_UsedCells_3 (fun t => κ (some 0) ⟨dd 3 (vI t :: dd 14 []), []⟩)
noncomputable def f215P : Lp := lpC 3 (unG qz124 f215e3_0) @f215g3 lpN
theorem f215C3 : LF f215Q f215P 215 3 Tryz.f215 0 f215e3_0 @f215g3 fun t => t := fun R κ again t => by kernel_rfl
theorem f215k3 : LK f215Q f215P 215 Tryz.f215 0 := loop_okG (u := (unG qz124 f215e3_0)) (by kernel_rfl) (unG_ok fun t => by kernel_rfl) (fun R κ s => by kernel_rfl) f215C3
theorem ev215 : EV f215Q f215P 215 Tryz.f215 sg215 [(.sl 95 ts_Cell)] [(.int .i64)] F_impl_UsedCells := fun x => by kernel_rfl
noncomputable def q215 : QF := ⟨215, F_impl_UsedCells, okN (n := 1) Tryz.func215 (by kernel_rfl) (by kernel_rfl) ⟨f215k3, trivial⟩ ev215⟩
abbrev T_impl_keysFit_4 : Type := Qz125
noncomputable def S_impl_keysFit_4 {R : Type} (k0 : Qz74 → Option R) (k1 : Qz75 → Option R) (again : T_impl_keysFit_4 → Option R) (t4 : T_impl_keysFit_4) : Option R :=
  bif (decide (t4.2.2.1 < t4.2.1)) then if (0 : Int) ≤ t4.2.2.1 then if t4.2.2.1 < ((List.length t4.2.2.2.2.2.2.2.2.2.2 : Nat) : Int) then Option.bind (F_impl_AgeAt (t4.2.2.2.2.2.1, (rd_Key t4.2.2.2.2.2.2.2.2.2.2 t4.2.2.1).2.1)) fun r2 => bif (decide (r2 < (0 : Int))) then k0 (false, t4.1, t4.2.2.2.1, t4.2.2.2.2.1, t4.2.2.2.2.2.1, t4.2.2.2.2.2.2.1, t4.2.2.2.2.2.2.2.1, t4.2.2.2.2.2.2.2.2.1) else bif ((rd_Key t4.2.2.2.2.2.2.2.2.2.2 t4.2.2.1).2.2.1 != (1 : Int)) then again (t4.1, t4.2.1, (Go.IntKind.wrap .i64 (t4.2.2.1 + (1 : Int))), t4.2.2.2.1, t4.2.2.2.2.1, t4.2.2.2.2.2.1, t4.2.2.2.2.2.2.1, t4.2.2.2.2.2.2.2.1, t4.2.2.2.2.2.2.2.2.1, t4.2.2.2.2.2.2.2.2.2.1, t4.2.2.2.2.2.2.2.2.2.2) else Option.bind (F_impl_CellAt (t4.2.2.2.2.2.2.1, (rd_Key t4.2.2.2.2.2.2.2.2.2.2 t4.2.2.1).2.2.2.1, (rd_Key t4.2.2.2.2.2.2.2.2.2.2 t4.2.2.1).2.2.2.2)) fun r3 => Option.bind (bif (!r3.2) then some true else if (0 : Int) ≤ (rd_Key t4.2.2.2.2.2.2.2.2.2.2 t4.2.2.1).2.2.2.1 then if (rd_Key t4.2.2.2.2.2.2.2.2.2.2 t4.2.2.1).2.2.2.1 < ((List.length t4.2.2.2.2.2.2.2.2.2.1 : Nat) : Int) then some (rd_bool t4.2.2.2.2.2.2.2.2.2.1 ((rd_Key t4.2.2.2.2.2.2.2.2.2.2 t4.2.2.1).2.2.2.1)) else none else none) fun u4 => bif u4 then k0 (false, t4.1, t4.2.2.2.1, t4.2.2.2.2.1, t4.2.2.2.2.2.1, t4.2.2.2.2.2.2.1, t4.2.2.2.2.2.2.2.1, t4.2.2.2.2.2.2.2.2.1) else if (0 : Int) ≤ (rd_Key t4.2.2.2.2.2.2.2.2.2.2 t4.2.2.1).2.2.2.1 then if (rd_Key t4.2.2.2.2.2.2.2.2.2.2 t4.2.2.1).2.2.2.1 < ((List.length t4.2.2.2.2.2.2.2.2.2.1 : Nat) : Int) then again ((Go.IntKind.wrap .i64 (t4.1 + (1 : Int))), t4.2.1, (Go.IntKind.wrap .i64 (t4.2.2.1 + (1 : Int))), t4.2.2.2.1, t4.2.2.2.2.1, t4.2.2.2.2.2.1, t4.2.2.2.2.2.2.1, t4.2.2.2.2.2.2.2.1, t4.2.2.2.2.2.2.2.2.1, (List.set t4.2.2.2.2.2.2.2.2.2.1 (Int.toNat ((rd_Key t4.2.2.2.2.2.2.2.2.2.2 t4.2.2.1).2.2.2.1)) true), t4.2.2.2.2.2.2.2.2.2.2) else none else none else none else none else k1 (t4.1, t4.2.2.2.1, t4.2.2.2.2.1, t4.2.2.2.2.2.1, t4.2.2.2.2.2.2.1, t4.2.2.2.2.2.2.2.1, t4.2.2.2.2.2.2.2.2.1)
noncomputable def L_impl_keysFit_4 {R : Type} (k0 : Qz74 → Option R) (k1 : Qz75 → Option R) (t : T_impl_keysFit_4) : Option R := iter (S_impl_keysFit_4 k0 k1) FUEL t
noncomputable def F_impl_keysFit (x : Qz77) : Option Bool :=
  if (0 : Int) ≤ (24 : Int) then if (24 : Int) ≤ (24 : Int) then if (24 : Int) * ((1 : Nat) : Int) ≤ 140737488351232 then Option.bind (F_impl_TreeKeys (x.1, x.2.1)) fun r1 => L_impl_keysFit_4 (fun x5 => some x5.1) (fun x6 => Option.bind (F_impl_UsedCells x6.2.2.2.2.1) fun r7 => some (r7 == x6.1)) ((0 : Int), ((List.length r1 : Nat) : Int), (0 : Int), x.1, x.2.1, x.2.2.1, x.2.2.2.1, x.2.2.2.2.1, x.2.2.2.2.2, (List.replicate (Int.toNat (24 : Int)) z_bool), r1) else none else none else none
noncomputable def f136Q : List QF := [q207, q213, q214, q215]
def f136e4_0 (t : Qz125) : St := ⟨.dead :: .box 1 0 :: .dead :: .own 10000000 :: vI t.1 :: dd 7 (.own 10000001 :: vI t.2.1 :: vI t.2.2.1 :: dd 43 []), [(1, .box [v_i64 t.2.2.2.1, v_Node t.2.2.2.2.1, v_Age t.2.2.2.2.2.1, v_Cell t.2.2.2.2.2.2.1, v_Vol t.2.2.2.2.2.2.2.1, vI t.2.2.2.2.2.2.2.2.1]), (10000000, .root true 4 ts_bool t.2.2.2.2.2.2.2.2.2.1), (10000001, .root true 106 ts_Key t.2.2.2.2.2.2.2.2.2.2)]⟩
noncomputable def f136g4 : Gk T_impl_keysFit_4 := fun κ => S_impl_keysFit_4 (fun t => κ none ⟨.dead :: .box 1 0 :: vB t.1 :: .dead :: vI t.2.1 :: dd 53 [], [(1, .box [v_i64 t.2.2.1, v_Node t.2.2.2.1, v_Age t.2.2.2.2.1, v_Cell t.2.2.2.2.2.1, v_Vol t.2.2.2.2.2.2.1, vI t.2.2.2.2.2.2.2])]⟩) (fun t => κ (some 0) ⟨.dead :: .box 1 0 :: dd 2 (vI t.1 :: dd 53 []), [(1, .box [v_i64 t.2.1, v_Node t.2.2.1, v_Age t.2.2.2.1, v_Cell t.2.2.2.2.1, v_Vol t.2.2.2.2.2.1, vI t.2.2.2.2.2.2])]⟩)
noncomputable def f136P : Lp := lpC 4 (unG qz125 f136e4_0) @f136g4 lpN
theorem f136C4 : LF f136Q f136P 136 4 Tryz.f136 0 f136e4_0 @f136g4 fun t => t := fun R κ again t => by kernel_rfl
theorem f136k4 : LK f136Q f136P 136 Tryz.f136 0 := loop_okG (u := (unG qz125 f136e4_0)) (by kernel_rfl) (unG_ok fun t => by kernel_rfl) (fun R κ s => by kernel_rfl) f136C4
theorem ev136 : EV f136Q f136P 136 Tryz.f136 sg136 qz77 [.bool] F_impl_keysFit := fun x => by kernel_rfl
noncomputable def q136 : QF := ⟨136, F_impl_keysFit, okN (n := 1) Tryz.func136 (by kernel_rfl) (by kernel_rfl) ⟨f136k4, trivial⟩ ev136⟩
abbrev T_impl_PoolOk_4 : Type := Qz126
noncomputable def S_impl_PoolOk_4 {R : Type} (k0 : Qz76 → Option R) (k1 : Qz77 → Option R) (again : T_impl_PoolOk_4 → Option R) (t4 : T_impl_PoolOk_4) : Option R :=
  bif (decide (t4.2.2.1 < t4.2.1)) then if (0 : Int) ≤ t4.2.2.1 then if t4.2.2.1 < ((List.length t4.1 : Nat) : Int) then bif (decide ((rd_Age t4.1 t4.2.2.1).1 ≥ t4.2.2.2.2.2.2.2.2)) then k0 (false, t4.2.2.2.1, t4.2.2.2.2.1, t4.2.2.2.2.2.1, t4.2.2.2.2.2.2.1, t4.2.2.2.2.2.2.2.1, t4.2.2.2.2.2.2.2.2) else again (t4.1, t4.2.1, (Go.IntKind.wrap .i64 (t4.2.2.1 + (1 : Int))), t4.2.2.2.1, t4.2.2.2.2.1, t4.2.2.2.2.2.1, t4.2.2.2.2.2.2.1, t4.2.2.2.2.2.2.2.1, t4.2.2.2.2.2.2.2.2) else none else none else k1 (t4.2.2.2.1, t4.2.2.2.2.1, t4.2.2.2.2.2.1, t4.2.2.2.2.2.2.1, t4.2.2.2.2.2.2.2.1, t4.2.2.2.2.2.2.2.2)
noncomputable def L_impl_PoolOk_4 {R : Type} (k0 : Qz76 → Option R) (k1 : Qz77 → Option R) (t : T_impl_PoolOk_4) : Option R := iter (S_impl_PoolOk_4 k0 k1) FUEL t
noncomputable def F_impl_PoolOk (x : Qz77) : Option Bool :=
  Option.bind (F_impl_TreeOk (x.1, x.2.1)) fun r1 => Option.bind (bif (!r1) then some true else Option.bind (F_impl_AgesOk x.2.2.1) fun r3 => some (!r3)) fun u2 => Option.bind (bif u2 then some true else Option.bind (F_impl_CellsOk x.2.2.2.1) fun r5 => some (!r5)) fun u4 => Option.bind (bif u4 then some true else Option.bind (F_impl_within (x.2.2.2.2.2, (1 : Int), (61 : Int))) fun r7 => some (!r7)) fun u6 => bif u6 then some false else L_impl_PoolOk_4 (fun x8 => some x8.1) (fun x9 => Option.bind (F_impl_volsOk (x9.1, x9.2.1, x9.2.2.1, x9.2.2.2.1, x9.2.2.2.2.1, x9.2.2.2.2.2)) fun r10 => Option.bind (bif r10 then Option.bind (F_impl_keysFit (x9.1, x9.2.1, x9.2.2.1, x9.2.2.2.1, x9.2.2.2.2.1, x9.2.2.2.2.2)) fun r12 => some r12 else some false) fun u11 => some u11) (x.2.2.1, ((List.length x.2.2.1 : Nat) : Int), (0 : Int), x.1, x.2.1, x.2.2.1, x.2.2.2.1, x.2.2.2.2.1, x.2.2.2.2.2)
noncomputable def f56Q : List QF := [q131, q132, q133, q134, q135, q136]
def f56e4_0 (t : Qz126) : St := ⟨.dead :: .box 1 0 :: dd 26 (v_Age t.1 :: vI t.2.1 :: vI t.2.2.1 :: dd 15 []), [(1, .box [v_i64 t.2.2.2.1, v_Node t.2.2.2.2.1, v_Age t.2.2.2.2.2.1, v_Cell t.2.2.2.2.2.2.1, v_Vol t.2.2.2.2.2.2.2.1, vI t.2.2.2.2.2.2.2.2])]⟩
noncomputable def f56g4 : Gk T_impl_PoolOk_4 := fun κ => S_impl_PoolOk_4 (fun t => κ none ⟨.dead :: .box 1 0 :: vB t.1 :: dd 43 [], [(1, .box [v_i64 t.2.1, v_Node t.2.2.1, v_Age t.2.2.2.1, v_Cell t.2.2.2.2.1, v_Vol t.2.2.2.2.2.1, vI t.2.2.2.2.2.2])]⟩) (fun t => κ (some 0) ⟨.dead :: .box 1 0 :: dd 44 [], [(1, .box [v_i64 t.1, v_Node t.2.1, v_Age t.2.2.1, v_Cell t.2.2.2.1, v_Vol t.2.2.2.2.1, vI t.2.2.2.2.2])]⟩)
noncomputable def f56P : Lp := lpC 4 (unG qz126 f56e4_0) @f56g4 lpN
theorem f56C4 : LF f56Q f56P 56 4 Tryz.f56 0 f56e4_0 @f56g4 fun t => t := fun R κ again t => by kernel_rfl
theorem f56k4 : LK f56Q f56P 56 Tryz.f56 0 := loop_okG (u := (unG qz126 f56e4_0)) (by kernel_rfl) (unG_ok fun t => by kernel_rfl) (fun R κ s => by kernel_rfl) f56C4
theorem ev56 : EV f56Q f56P 56 Tryz.f56 sg56 qz77 [.bool] F_impl_PoolOk := fun x => by kernel_rfl
noncomputable def q56 : QF := ⟨56, F_impl_PoolOk, okN (n := 1) Tryz.func56 (by kernel_rfl) (by kernel_rfl) ⟨f56k4, trivial⟩ ev56⟩
abbrev T_impl_joined_3 : Type := Qz127
noncomputable def S_impl_joined_3 {R : Type} (k0 : List E_u8 → Option R) (again : T_impl_joined_3 → Option R) (t3 : T_impl_joined_3) : Option R :=
  bif (decide (t3.2.2.1 < t3.2.1)) then if (0 : Int) ≤ t3.2.2.1 then if t3.2.2.1 < ((List.length t3.1 : Nat) : Int) then if (List.length t3.2.2.2 + List.length (rd_s_u8 t3.1 t3.2.2.1)) * 1 < 140737488355328 then again (t3.1, t3.2.1, (Go.IntKind.wrap .i64 (t3.2.2.1 + (1 : Int))), (t3.2.2.2 ++ (rd_s_u8 t3.1 t3.2.2.1))) else none else none else none else k0 t3.2.2.2
noncomputable def L_impl_joined_3 {R : Type} (k0 : List E_u8 → Option R) (t : T_impl_joined_3) : Option R := iter (S_impl_joined_3 k0) FUEL t
noncomputable def F_impl_joined (x : List E_s_u8) : Option (List E_u8) :=
  L_impl_joined_3 (fun x1 => some x1) (x, ((List.length x : Nat) : Int), (0 : Int), ([] : List E_u8))
noncomputable def f137Q : List QF := []
def f137e3_0 (t : Qz127) : St := ⟨dd 3 (.own 10000000 :: dd 3 (v_s_u8 t.1 :: vI t.2.1 :: vI t.2.2.1 :: dd 8 [])), [(10000000, .root true 5 ts_u8 t.2.2.2)]⟩
noncomputable def f137g3 : Gk T_impl_joined_3 := fun κ => S_impl_joined_3 (fun t => κ (some 0) ⟨dd 3 (.own 10000000 :: dd 14 []), [(10000000, .root true 5 ts_u8 t)]⟩)
noncomputable def f137P : Lp := lpC 3 (unG qz127 f137e3_0) @f137g3 lpN
theorem f137C3 : LF f137Q f137P 137 3 Tryz.f137 0 f137e3_0 @f137g3 fun t => t := fun R κ again t => by kernel_rfl
theorem f137k3 : LK f137Q f137P 137 Tryz.f137 0 := loop_okG (u := (unG qz127 f137e3_0)) (by kernel_rfl) (unG_ok fun t => by kernel_rfl) (fun R κ s => by kernel_rfl) f137C3
theorem ev137 : EV f137Q f137P 137 Tryz.f137 sg137 [(.sl 32 ts_s_u8)] [(.sl 5 ts_u8)] F_impl_joined := fun x => by kernel_rfl
noncomputable def q137 : QF := ⟨137, F_impl_joined, okN (n := 1) Tryz.func137 (by kernel_rfl) (by kernel_rfl) ⟨f137k3, trivial⟩ ev137⟩
noncomputable def F_impl_PutW (x : Qz50) : Option (List E_u8) :=
  Option.bind (F_impl_joined ([x.1, ([(Go.IntKind.wrap .u8 (Go.bits .and .i64 (Int.fdiv x.2 (2 ^ (min (Int.toNat (8 : Int)) (Go.IntKind.bits .i64)))) (255 : Int))), (Go.IntKind.wrap .u8 (Go.bits .and .i64 x.2 (255 : Int)))] : List E_u8)] : List E_s_u8)) fun r1 => some r1
theorem ev57 : EV [q137] lpN 57 Tryz.f57 sg57 qz50 [(.sl 5 ts_u8)] F_impl_PutW := fun x => by kernel_rfl
noncomputable def q57 : QF := ⟨57, F_impl_PutW, okN (n := 0) Tryz.func57 (by kernel_rfl) (by kernel_rfl) trivial ev57⟩
noncomputable def F_impl_PutText (x : Qz128) : Option (List E_u8) :=
  bif (decide (((ByteArray.size x.2 : Nat) : Int) > (60 : Int))) then Option.bind (F_impl_joined ([x.1] : List E_s_u8)) fun r1 => some r1 else Option.bind (F_impl_PutW (x.1, ((ByteArray.size x.2 : Nat) : Int))) fun r2 => if ByteArray.size x.2 < 140737488351232 then Option.bind (F_impl_joined ([r2, (bytesL x.2)] : List E_s_u8)) fun r3 => some r3 else none
theorem ev58 : EV [q57, q137] lpN 58 Tryz.f58 sg58 qz128 [(.sl 5 ts_u8)] F_impl_PutText := fun x => by kernel_rfl
noncomputable def q58 : QF := ⟨58, F_impl_PutText, okN (n := 0) Tryz.func58 (by kernel_rfl) (by kernel_rfl) trivial ev58⟩
noncomputable def F_impl_flag (x : Bool) : Option Int :=
  bif x then some (1 : Int) else some (0 : Int)
theorem ev59 : EV [] lpN 59 Tryz.f59 sg59 [.bool] [(.int .u8)] F_impl_flag := fun x => by kernel_rfl
noncomputable def q59 : QF := ⟨59, F_impl_flag, okN (n := 0) Tryz.func59 (by kernel_rfl) (by kernel_rfl) trivial ev59⟩
noncomputable def F_impl_PutKey (x : Qz129) : Option (List E_u8) :=
  Option.bind (F_impl_joined ([x.1] : List E_s_u8)) fun r1 => Option.bind (F_impl_KeyOk (x.2.1, x.2.2.1, x.2.2.2.1, x.2.2.2.2.1, x.2.2.2.2.2)) fun r2 => bif (!r2) then some r1 else if (List.length r1 + List.length ([(Go.IntKind.wrap .u8 x.2.1), (Go.IntKind.wrap .u8 x.2.2.1), (Go.IntKind.wrap .u8 x.2.2.2.1), (Go.IntKind.wrap .u8 x.2.2.2.2.1)] : List E_u8)) * 1 < 140737488355328 then Option.bind (F_impl_PutW ((r1 ++ ([(Go.IntKind.wrap .u8 x.2.1), (Go.IntKind.wrap .u8 x.2.2.1), (Go.IntKind.wrap .u8 x.2.2.2.1), (Go.IntKind.wrap .u8 x.2.2.2.2.1)] : List E_u8)), x.2.2.2.2.2)) fun r3 => some r3 else none
theorem ev60 : EV [q57, q137, q138] lpN 60 Tryz.f60 sg60 qz129 [(.sl 5 ts_u8)] F_impl_PutKey := fun x => by kernel_rfl
noncomputable def q60 : QF := ⟨60, F_impl_PutKey, okN (n := 0) Tryz.func60 (by kernel_rfl) (by kernel_rfl) trivial ev60⟩
abbrev T_impl_PutPool_5 : Type := Qz130
noncomputable def S_impl_PutPool_5 {R : Type} (k0 : Qz131 → Option R) (again : T_impl_PutPool_5 → Option R) (t5 : T_impl_PutPool_5) : Option R :=
  bif (decide (t5.2.2.1 < t5.2.1)) then if (0 : Int) ≤ t5.2.2.1 then if t5.2.2.1 < ((List.length t5.1 : Nat) : Int) then if (List.length t5.2.2.2.2.2.2.2.2.2 + List.length ([(Go.IntKind.wrap .u8 ((rd_Age t5.1 t5.2.2.1).1)), (Go.IntKind.wrap .u8 ((rd_Age t5.1 t5.2.2.1).2))] : List E_u8)) * 1 < 140737488355328 then again (t5.1, t5.2.1, (Go.IntKind.wrap .i64 (t5.2.2.1 + (1 : Int))), t5.2.2.2.1, t5.2.2.2.2.1, t5.2.2.2.2.2.1, t5.2.2.2.2.2.2.1, t5.2.2.2.2.2.2.2.1, t5.2.2.2.2.2.2.2.2.1, (t5.2.2.2.2.2.2.2.2.2 ++ ([(Go.IntKind.wrap .u8 ((rd_Age t5.1 t5.2.2.1).1)), (Go.IntKind.wrap .u8 ((rd_Age t5.1 t5.2.2.1).2))] : List E_u8))) else none else none else none else k0 (t5.2.2.2.1, t5.2.2.2.2.1, t5.2.2.2.2.2.1, t5.2.2.2.2.2.2.1, t5.2.2.2.2.2.2.2.1, t5.2.2.2.2.2.2.2.2.1, t5.2.2.2.2.2.2.2.2.2)
noncomputable def L_impl_PutPool_5 {R : Type} (k0 : Qz131 → Option R) (t : T_impl_PutPool_5) : Option R := iter (S_impl_PutPool_5 k0) FUEL t
abbrev T_impl_PutPool_11 : Type := Qz132
noncomputable def S_impl_PutPool_11 {R : Type} (k0 : Qz131 → Option R) (again : T_impl_PutPool_11 → Option R) (t11 : T_impl_PutPool_11) : Option R :=
  bif (decide (t11.2.2.1 < t11.2.1)) then if (0 : Int) ≤ t11.2.2.1 then if t11.2.2.1 < ((List.length t11.1 : Nat) : Int) then Option.bind (F_impl_PutText (t11.2.2.2.2.2.2.2.2.2, (rd_Vol t11.1 t11.2.2.1).1)) fun r4 => Option.bind (F_impl_flag ((rd_Vol t11.1 t11.2.2.1).2.2.2)) fun r5 => if (List.length r4 + List.length ([(Go.IntKind.wrap .u8 ((rd_Vol t11.1 t11.2.2.1).2.1)), (Go.IntKind.wrap .u8 ((rd_Vol t11.1 t11.2.2.1).2.2.1)), r5] : List E_u8)) * 1 < 140737488355328 then again (t11.1, t11.2.1, (Go.IntKind.wrap .i64 (t11.2.2.1 + (1 : Int))), t11.2.2.2.1, t11.2.2.2.2.1, t11.2.2.2.2.2.1, t11.2.2.2.2.2.2.1, t11.2.2.2.2.2.2.2.1, t11.2.2.2.2.2.2.2.2.1, (r4 ++ ([(Go.IntKind.wrap .u8 ((rd_Vol t11.1 t11.2.2.1).2.1)), (Go.IntKind.wrap .u8 ((rd_Vol t11.1 t11.2.2.1).2.2.1)), r5] : List E_u8))) else none else none else none else k0 (t11.2.2.2.1, t11.2.2.2.2.1, t11.2.2.2.2.2.1, t11.2.2.2.2.2.2.1, t11.2.2.2.2.2.2.2.1, t11.2.2.2.2.2.2.2.2.1, t11.2.2.2.2.2.2.2.2.2)
noncomputable def L_impl_PutPool_11 {R : Type} (k0 : Qz131 → Option R) (t : T_impl_PutPool_11) : Option R := iter (S_impl_PutPool_11 k0) FUEL t
abbrev T_impl_PutPool_16 : Type := Qz133
noncomputable def S_impl_PutPool_16 {R : Type} (k0 : Qz131 → Option R) (again : T_impl_PutPool_16 → Option R) (t16 : T_impl_PutPool_16) : Option R :=
  bif (decide (t16.2.2.1 < t16.2.1)) then if (0 : Int) ≤ t16.2.2.1 then if t16.2.2.1 < ((List.length t16.1 : Nat) : Int) then Option.bind (F_impl_PutW (t16.2.2.2.2.2.2.2.2.2, (rd_Cell t16.1 t16.2.2.1).1)) fun r7 => Option.bind (F_impl_flag ((rd_Cell t16.1 t16.2.2.1).2.1)) fun r8 => if (List.length r7 + List.length ([r8] : List E_u8)) * 1 < 140737488355328 then Option.bind (F_impl_PutW ((r7 ++ ([r8] : List E_u8)), (rd_Cell t16.1 t16.2.2.1).2.2)) fun r9 => again (t16.1, t16.2.1, (Go.IntKind.wrap .i64 (t16.2.2.1 + (1 : Int))), t16.2.2.2.1, t16.2.2.2.2.1, t16.2.2.2.2.2.1, t16.2.2.2.2.2.2.1, t16.2.2.2.2.2.2.2.1, t16.2.2.2.2.2.2.2.2.1, r9) else none else none else none else k0 (t16.2.2.2.1, t16.2.2.2.2.1, t16.2.2.2.2.2.1, t16.2.2.2.2.2.2.1, t16.2.2.2.2.2.2.2.1, t16.2.2.2.2.2.2.2.2.1, t16.2.2.2.2.2.2.2.2.2)
noncomputable def L_impl_PutPool_16 {R : Type} (k0 : Qz131 → Option R) (t : T_impl_PutPool_16) : Option R := iter (S_impl_PutPool_16 k0) FUEL t
abbrev T_impl_PutPool_30 : Type := Qz134
noncomputable def S_impl_PutPool_30 {R : Type} (k0 : Qz135 → Option R) (again : T_impl_PutPool_30 → Option R) (t30 : T_impl_PutPool_30) : Option R :=
  bif (decide (t30.2.2.2.2.2.2.2.2.1 < t30.2.2.2.2.2.2.2.1)) then if (0 : Int) ≤ t30.2.2.2.2.2.2.2.2.1 then if t30.2.2.2.2.2.2.2.2.1 < ((List.length t30.2.2.2.2.2.2.1 : Nat) : Int) then Option.bind (F_impl_PutKey (t30.2.2.2.2.2.2.2.2.2.2.2.2.2.2.2, (rd_Key t30.2.2.2.2.2.2.1 t30.2.2.2.2.2.2.2.2.1).1, (rd_Key t30.2.2.2.2.2.2.1 t30.2.2.2.2.2.2.2.2.1).2.1, (rd_Key t30.2.2.2.2.2.2.1 t30.2.2.2.2.2.2.2.2.1).2.2.1, (rd_Key t30.2.2.2.2.2.2.1 t30.2.2.2.2.2.2.2.2.1).2.2.2.1, (rd_Key t30.2.2.2.2.2.2.1 t30.2.2.2.2.2.2.2.2.1).2.2.2.2)) fun r12 => again (t30.1, t30.2.1, t30.2.2.1, t30.2.2.2.1, t30.2.2.2.2.1, t30.2.2.2.2.2.1, t30.2.2.2.2.2.2.1, t30.2.2.2.2.2.2.2.1, (Go.IntKind.wrap .i64 (t30.2.2.2.2.2.2.2.2.1 + (1 : Int))), t30.2.2.2.2.2.2.2.2.2.1, t30.2.2.2.2.2.2.2.2.2.2.1, t30.2.2.2.2.2.2.2.2.2.2.2.1, t30.2.2.2.2.2.2.2.2.2.2.2.2.1, t30.2.2.2.2.2.2.2.2.2.2.2.2.2.1, t30.2.2.2.2.2.2.2.2.2.2.2.2.2.2.1, r12) else none else none else k0 (t30.1, t30.2.1, t30.2.2.1, t30.2.2.2.1, t30.2.2.2.2.1, t30.2.2.2.2.2.1, t30.2.2.2.2.2.2.2.2.2.1, t30.2.2.2.2.2.2.2.2.2.2.1, t30.2.2.2.2.2.2.2.2.2.2.2.1, t30.2.2.2.2.2.2.2.2.2.2.2.2.1, t30.2.2.2.2.2.2.2.2.2.2.2.2.2.1, t30.2.2.2.2.2.2.2.2.2.2.2.2.2.2.1, t30.2.2.2.2.2.2.2.2.2.2.2.2.2.2.2)
noncomputable def L_impl_PutPool_30 {R : Type} (k0 : Qz135 → Option R) (t : T_impl_PutPool_30) : Option R := iter (S_impl_PutPool_30 k0) FUEL t
abbrev T_impl_PutPool_26 : Type := Qz135
noncomputable def S_impl_PutPool_26 {R : Type} (k0 : Qz136 → Option R) (again : T_impl_PutPool_26 → Option R) (t26 : T_impl_PutPool_26) : Option R :=
  bif (decide (t26.2.2.2.2.2.1 < t26.2.2.2.2.1)) then if (0 : Int) ≤ t26.2.2.2.2.2.1 then if t26.2.2.2.2.2.1 < ((List.length t26.2.2.2.1 : Nat) : Int) then if (List.length t26.2.2.2.2.2.2.2.2.2.2.2.2 + List.length ([(Go.IntKind.wrap .u8 ((List.length (rd_s_Key t26.2.2.2.1 t26.2.2.2.2.2.1) : Nat) : Int))] : List E_u8)) * 1 < 140737488355328 then L_impl_PutPool_30 (fun x13 => again (x13.1, x13.2.1, x13.2.2.1, x13.2.2.2.1, x13.2.2.2.2.1, (Go.IntKind.wrap .i64 (x13.2.2.2.2.2.1 + (1 : Int))), x13.2.2.2.2.2.2.1, x13.2.2.2.2.2.2.2.1, x13.2.2.2.2.2.2.2.2.1, x13.2.2.2.2.2.2.2.2.2.1, x13.2.2.2.2.2.2.2.2.2.2.1, x13.2.2.2.2.2.2.2.2.2.2.2.1, x13.2.2.2.2.2.2.2.2.2.2.2.2)) (t26.1, t26.2.1, t26.2.2.1, t26.2.2.2.1, t26.2.2.2.2.1, t26.2.2.2.2.2.1, (rd_s_Key t26.2.2.2.1 t26.2.2.2.2.2.1), ((List.length (rd_s_Key t26.2.2.2.1 t26.2.2.2.2.2.1) : Nat) : Int), (0 : Int), t26.2.2.2.2.2.2.1, t26.2.2.2.2.2.2.2.1, t26.2.2.2.2.2.2.2.2.1, t26.2.2.2.2.2.2.2.2.2.1, t26.2.2.2.2.2.2.2.2.2.2.1, t26.2.2.2.2.2.2.2.2.2.2.2.1, (t26.2.2.2.2.2.2.2.2.2.2.2.2 ++ ([(Go.IntKind.wrap .u8 ((List.length (rd_s_Key t26.2.2.2.1 t26.2.2.2.2.2.1) : Nat) : Int))] : List E_u8))) else none else none else none else k0 (t26.1, t26.2.1, t26.2.2.1, t26.2.2.2.2.2.2.1, t26.2.2.2.2.2.2.2.1, t26.2.2.2.2.2.2.2.2.1, t26.2.2.2.2.2.2.2.2.2.1, t26.2.2.2.2.2.2.2.2.2.2.1, t26.2.2.2.2.2.2.2.2.2.2.2.1, t26.2.2.2.2.2.2.2.2.2.2.2.2)
noncomputable def L_impl_PutPool_26 {R : Type} (k0 : Qz136 → Option R) (t : T_impl_PutPool_26) : Option R := iter (S_impl_PutPool_26 k0) FUEL t
abbrev T_impl_PutPool_22 : Type := Qz136
noncomputable def S_impl_PutPool_22 {R : Type} (k0 : List E_u8 → Option R) (again : T_impl_PutPool_22 → Option R) (t22 : T_impl_PutPool_22) : Option R :=
  bif (decide (t22.2.2.1 < t22.2.1)) then if (0 : Int) ≤ t22.2.2.1 then if t22.2.2.1 < ((List.length t22.1 : Nat) : Int) then if (0 : Int) ≤ t22.2.2.1 then if t22.2.2.1 < ((List.length t22.2.2.2.1 : Nat) : Int) then Option.bind (F_impl_PutW (t22.2.2.2.2.2.2.2.2.2, (rd_i64 t22.2.2.2.1 t22.2.2.1))) fun r11 => if (List.length r11 + List.length ([(Go.IntKind.wrap .u8 ((List.length (rd_Node t22.1 t22.2.2.1) : Nat) : Int))] : List E_u8)) * 1 < 140737488355328 then L_impl_PutPool_26 (fun x14 => again (x14.1, x14.2.1, (Go.IntKind.wrap .i64 (x14.2.2.1 + (1 : Int))), x14.2.2.2.1, x14.2.2.2.2.1, x14.2.2.2.2.2.1, x14.2.2.2.2.2.2.1, x14.2.2.2.2.2.2.2.1, x14.2.2.2.2.2.2.2.2.1, x14.2.2.2.2.2.2.2.2.2)) (t22.1, t22.2.1, t22.2.2.1, (rd_Node t22.1 t22.2.2.1), ((List.length (rd_Node t22.1 t22.2.2.1) : Nat) : Int), (0 : Int), t22.2.2.2.1, t22.2.2.2.2.1, t22.2.2.2.2.2.1, t22.2.2.2.2.2.2.1, t22.2.2.2.2.2.2.2.1, t22.2.2.2.2.2.2.2.2.1, (r11 ++ ([(Go.IntKind.wrap .u8 ((List.length (rd_Node t22.1 t22.2.2.1) : Nat) : Int))] : List E_u8))) else none else none else none else none else none else k0 t22.2.2.2.2.2.2.2.2.2
noncomputable def L_impl_PutPool_22 {R : Type} (k0 : List E_u8 → Option R) (t : T_impl_PutPool_22) : Option R := iter (S_impl_PutPool_22 k0) FUEL t
noncomputable def F_impl_PutPool (x : Qz77) : Option (List E_u8) :=
  Option.bind (F_impl_PoolOk (x.1, x.2.1, x.2.2.1, x.2.2.2.1, x.2.2.2.2.1, x.2.2.2.2.2)) fun r1 => bif (!r1) then some ([] : List E_u8) else Option.bind (F_impl_PutW (([] : List E_u8), x.2.2.2.2.2)) fun r2 => if (List.length r2 + List.length ([(Go.IntKind.wrap .u8 ((List.length x.2.2.1 : Nat) : Int))] : List E_u8)) * 1 < 140737488355328 then L_impl_PutPool_5 (fun x3 => if (List.length x3.2.2.2.2.2.2 + List.length ([(Go.IntKind.wrap .u8 ((List.length x3.2.2.2.2.1 : Nat) : Int))] : List E_u8)) * 1 < 140737488355328 then L_impl_PutPool_11 (fun x6 => L_impl_PutPool_16 (fun x10 => if (List.length x10.2.2.2.2.2.2 + List.length ([(Go.IntKind.wrap .u8 ((List.length x10.2.1 : Nat) : Int))] : List E_u8)) * 1 < 140737488355328 then L_impl_PutPool_22 (fun x15 => some x15) (x10.2.1, ((List.length x10.2.1 : Nat) : Int), (0 : Int), x10.1, x10.2.1, x10.2.2.1, x10.2.2.2.1, x10.2.2.2.2.1, x10.2.2.2.2.2.1, (x10.2.2.2.2.2.2 ++ ([(Go.IntKind.wrap .u8 ((List.length x10.2.1 : Nat) : Int))] : List E_u8))) else none) (x6.2.2.2.1, ((List.length x6.2.2.2.1 : Nat) : Int), (0 : Int), x6.1, x6.2.1, x6.2.2.1, x6.2.2.2.1, x6.2.2.2.2.1, x6.2.2.2.2.2.1, x6.2.2.2.2.2.2)) (x3.2.2.2.2.1, ((List.length x3.2.2.2.2.1 : Nat) : Int), (0 : Int), x3.1, x3.2.1, x3.2.2.1, x3.2.2.2.1, x3.2.2.2.2.1, x3.2.2.2.2.2.1, (x3.2.2.2.2.2.2 ++ ([(Go.IntKind.wrap .u8 ((List.length x3.2.2.2.2.1 : Nat) : Int))] : List E_u8))) else none) (x.2.2.1, ((List.length x.2.2.1 : Nat) : Int), (0 : Int), x.1, x.2.1, x.2.2.1, x.2.2.2.1, x.2.2.2.2.1, x.2.2.2.2.2, (r2 ++ ([(Go.IntKind.wrap .u8 ((List.length x.2.2.1 : Nat) : Int))] : List E_u8))) else none
noncomputable def f13Q : List QF := [q56, q57, q58, q59, q60]
def f13e5_0 (t : Qz130) : St := ⟨.dead :: .box 1 0 :: .dead :: .own 10000000 :: dd 25 (v_Age t.1 :: vI t.2.1 :: vI t.2.2.1 :: dd 120 []), [(1, .box [v_i64 t.2.2.2.1, v_Node t.2.2.2.2.1, v_Age t.2.2.2.2.2.1, v_Cell t.2.2.2.2.2.2.1, v_Vol t.2.2.2.2.2.2.2.1, vI t.2.2.2.2.2.2.2.2.1]), (10000000, .root true 5 ts_u8 t.2.2.2.2.2.2.2.2.2)]⟩
noncomputable def f13g5 : Gk T_impl_PutPool_5 := fun κ => S_impl_PutPool_5 (fun t => κ (some 0) ⟨.dead :: .box 1 0 :: .dead :: .own 10000000 :: dd 148 [], [(1, .box [v_i64 t.1, v_Node t.2.1, v_Age t.2.2.1, v_Cell t.2.2.2.1, v_Vol t.2.2.2.2.1, vI t.2.2.2.2.2.1]), (10000000, .root true 5 ts_u8 t.2.2.2.2.2.2)]⟩)
def f13e11_0 (t : Qz132) : St := ⟨.dead :: .box 1 0 :: .dead :: .own 10000000 :: dd 49 (v_Vol t.1 :: vI t.2.1 :: vI t.2.2.1 :: dd 96 []), [(1, .box [v_i64 t.2.2.2.1, v_Node t.2.2.2.2.1, v_Age t.2.2.2.2.2.1, v_Cell t.2.2.2.2.2.2.1, v_Vol t.2.2.2.2.2.2.2.1, vI t.2.2.2.2.2.2.2.2.1]), (10000000, .root true 5 ts_u8 t.2.2.2.2.2.2.2.2.2)]⟩
noncomputable def f13g11 : Gk T_impl_PutPool_11 := fun κ => S_impl_PutPool_11 (fun t => κ (some 2) ⟨.dead :: .box 1 0 :: .dead :: .own 10000000 :: dd 148 [], [(1, .box [v_i64 t.1, v_Node t.2.1, v_Age t.2.2.1, v_Cell t.2.2.2.1, v_Vol t.2.2.2.2.1, vI t.2.2.2.2.2.1]), (10000000, .root true 5 ts_u8 t.2.2.2.2.2.2)]⟩)
def f13e16_0 (t : Qz133) : St := ⟨.dead :: .box 1 0 :: .dead :: .own 10000000 :: dd 72 (v_Cell t.1 :: vI t.2.1 :: vI t.2.2.1 :: dd 73 []), [(1, .box [v_i64 t.2.2.2.1, v_Node t.2.2.2.2.1, v_Age t.2.2.2.2.2.1, v_Cell t.2.2.2.2.2.2.1, v_Vol t.2.2.2.2.2.2.2.1, vI t.2.2.2.2.2.2.2.2.1]), (10000000, .root true 5 ts_u8 t.2.2.2.2.2.2.2.2.2)]⟩
noncomputable def f13g16 : Gk T_impl_PutPool_16 := fun κ => S_impl_PutPool_16 (fun t => κ (some 4) ⟨.dead :: .box 1 0 :: .dead :: .own 10000000 :: dd 148 [], [(1, .box [v_i64 t.1, v_Node t.2.1, v_Age t.2.2.1, v_Cell t.2.2.2.1, v_Vol t.2.2.2.2.1, vI t.2.2.2.2.2.1]), (10000000, .root true 5 ts_u8 t.2.2.2.2.2.2)]⟩)
def f13e30_0 (t : Qz134) : St := ⟨.dead :: .box 1 0 :: .dead :: .own 10000000 :: dd 101 (v_Node t.1 :: vI t.2.1 :: vI t.2.2.1 :: dd 19 (v_s_Key t.2.2.2.1 :: vI t.2.2.2.2.1 :: vI t.2.2.2.2.2.1 :: dd 9 (v_Key t.2.2.2.2.2.2.1 :: vI t.2.2.2.2.2.2.2.1 :: vI t.2.2.2.2.2.2.2.2.1 :: dd 10 []))), [(1, .box [v_i64 t.2.2.2.2.2.2.2.2.2.1, v_Node t.2.2.2.2.2.2.2.2.2.2.1, v_Age t.2.2.2.2.2.2.2.2.2.2.2.1, v_Cell t.2.2.2.2.2.2.2.2.2.2.2.2.1, v_Vol t.2.2.2.2.2.2.2.2.2.2.2.2.2.1, vI t.2.2.2.2.2.2.2.2.2.2.2.2.2.2.1]), (10000000, .root true 5 ts_u8 t.2.2.2.2.2.2.2.2.2.2.2.2.2.2.2)]⟩
noncomputable def f13g30 : Gk T_impl_PutPool_30 := fun κ => S_impl_PutPool_30 (fun t => κ (some 10) ⟨.dead :: .box 1 0 :: .dead :: .own 10000000 :: dd 101 (v_Node t.1 :: vI t.2.1 :: vI t.2.2.1 :: dd 19 (v_s_Key t.2.2.2.1 :: vI t.2.2.2.2.1 :: vI t.2.2.2.2.2.1 :: dd 22 [])), [(1, .box [v_i64 t.2.2.2.2.2.2.1, v_Node t.2.2.2.2.2.2.2.1, v_Age t.2.2.2.2.2.2.2.2.1, v_Cell t.2.2.2.2.2.2.2.2.2.1, v_Vol t.2.2.2.2.2.2.2.2.2.2.1, vI t.2.2.2.2.2.2.2.2.2.2.2.1]), (10000000, .root true 5 ts_u8 t.2.2.2.2.2.2.2.2.2.2.2.2)]⟩)
def f13e26_0 (t : Qz135) : St := ⟨.dead :: .box 1 0 :: .dead :: .own 10000000 :: dd 101 (v_Node t.1 :: vI t.2.1 :: vI t.2.2.1 :: dd 19 (v_s_Key t.2.2.2.1 :: vI t.2.2.2.2.1 :: vI t.2.2.2.2.2.1 :: dd 22 [])), [(1, .box [v_i64 t.2.2.2.2.2.2.1, v_Node t.2.2.2.2.2.2.2.1, v_Age t.2.2.2.2.2.2.2.2.1, v_Cell t.2.2.2.2.2.2.2.2.2.1, v_Vol t.2.2.2.2.2.2.2.2.2.2.1, vI t.2.2.2.2.2.2.2.2.2.2.2.1]), (10000000, .root true 5 ts_u8 t.2.2.2.2.2.2.2.2.2.2.2.2)]⟩
noncomputable def f13g26 : Gk T_impl_PutPool_26 := fun κ => S_impl_PutPool_26 (fun t => κ (some 8) ⟨.dead :: .box 1 0 :: .dead :: .own 10000000 :: dd 101 (v_Node t.1 :: vI t.2.1 :: vI t.2.2.1 :: dd 44 []), [(1, .box [v_i64 t.2.2.2.1, v_Node t.2.2.2.2.1, v_Age t.2.2.2.2.2.1, v_Cell t.2.2.2.2.2.2.1, v_Vol t.2.2.2.2.2.2.2.1, vI t.2.2.2.2.2.2.2.2.1]), (10000000, .root true 5 ts_u8 t.2.2.2.2.2.2.2.2.2)]⟩)
def f13e22_0 (t : Qz136) : St := ⟨.dead :: .box 1 0 :: .dead :: .own 10000000 :: dd 101 (v_Node t.1 :: vI t.2.1 :: vI t.2.2.1 :: dd 44 []), [(1, .box [v_i64 t.2.2.2.1, v_Node t.2.2.2.2.1, v_Age t.2.2.2.2.2.1, v_Cell t.2.2.2.2.2.2.1, v_Vol t.2.2.2.2.2.2.2.1, vI t.2.2.2.2.2.2.2.2.1]), (10000000, .root true 5 ts_u8 t.2.2.2.2.2.2.2.2.2)]⟩
noncomputable def f13g22 : Gk T_impl_PutPool_22 := fun κ => S_impl_PutPool_22 (fun t => κ (some 6) ⟨dd 3 (.own 10000000 :: dd 148 []), [(10000000, .root true 5 ts_u8 t)]⟩)
noncomputable def f13P : Lp := lpC 22 (unG qz136 f13e22_0) @f13g22 (lpC 26 (unG qz135 f13e26_0) @f13g26 (lpC 30 (unG qz134 f13e30_0) @f13g30 (lpC 16 (unG qz133 f13e16_0) @f13g16 (lpC 11 (unG qz132 f13e11_0) @f13g11 (lpC 5 (unG qz130 f13e5_0) @f13g5 lpN)))))
theorem f13C5 : LF f13Q f13P 13 5 Tryz.f13 0 f13e5_0 @f13g5 fun t => t := fun R κ again t => by kernel_rfl
theorem f13k5 : LK f13Q f13P 13 Tryz.f13 0 := loop_okG (u := (unG qz130 f13e5_0)) (by kernel_rfl) (unG_ok fun t => by kernel_rfl) (fun R κ s => by kernel_rfl) f13C5
theorem f13C11 : LF f13Q f13P 13 11 Tryz.f13 1 f13e11_0 @f13g11 fun t => t := fun R κ again t => by kernel_rfl
theorem f13k11 : LK f13Q f13P 13 Tryz.f13 1 := loop_okG (u := (unG qz132 f13e11_0)) (by kernel_rfl) (unG_ok fun t => by kernel_rfl) (fun R κ s => by kernel_rfl) f13C11
theorem f13C16 : LF f13Q f13P 13 16 Tryz.f13 2 f13e16_0 @f13g16 fun t => t := fun R κ again t => by kernel_rfl
theorem f13k16 : LK f13Q f13P 13 Tryz.f13 2 := loop_okG (u := (unG qz133 f13e16_0)) (by kernel_rfl) (unG_ok fun t => by kernel_rfl) (fun R κ s => by kernel_rfl) f13C16
theorem f13C30 : LF f13Q f13P 13 30 Tryz.f13 5 f13e30_0 @f13g30 fun t => t := fun R κ again t => by kernel_rfl
theorem f13k30 : LK f13Q f13P 13 Tryz.f13 5 := loop_okG (u := (unG qz134 f13e30_0)) (by kernel_rfl) (unG_ok fun t => by kernel_rfl) (fun R κ s => by kernel_rfl) f13C30
theorem f13C26 : LF f13Q f13P 13 26 Tryz.f13 4 f13e26_0 @f13g26 fun t => t := fun R κ again t => by kernel_rfl
theorem f13k26 : LK f13Q f13P 13 Tryz.f13 4 := loop_okG (u := (unG qz135 f13e26_0)) (by kernel_rfl) (unG_ok fun t => by kernel_rfl) (fun R κ s => by kernel_rfl) f13C26
theorem f13C22 : LF f13Q f13P 13 22 Tryz.f13 3 f13e22_0 @f13g22 fun t => t := fun R κ again t => by kernel_rfl
theorem f13k22 : LK f13Q f13P 13 Tryz.f13 3 := loop_okG (u := (unG qz136 f13e22_0)) (by kernel_rfl) (unG_ok fun t => by kernel_rfl) (fun R κ s => by kernel_rfl) f13C22
theorem ev13 : EV f13Q f13P 13 Tryz.f13 sg13 qz77 [(.sl 5 ts_u8)] F_impl_PutPool := fun x => by kernel_rfl
noncomputable def q13 : QF := ⟨13, F_impl_PutPool, okN (n := 6) Tryz.func13 (by kernel_rfl) (by kernel_rfl) ⟨f13k5, f13k11, f13k16, f13k22, f13k26, f13k30, trivial⟩ ev13⟩
noncomputable def F_impl_GetW (x : Qz50) : Option Qz86 :=
  Option.bind (bif (decide (x.2 < (0 : Int))) then some true else some (decide (x.2 > (Go.IntKind.wrap .i64 (((List.length x.1 : Nat) : Int) - (2 : Int)))))) fun u1 => bif u1 then some ((0 : Int), (0 : Int), false) else if (0 : Int) ≤ x.2 then if x.2 < ((List.length x.1 : Nat) : Int) then if (0 : Int) ≤ (Go.IntKind.wrap .i64 (x.2 + (1 : Int))) then if (Go.IntKind.wrap .i64 (x.2 + (1 : Int))) < ((List.length x.1 : Nat) : Int) then some ((Go.bits .or .i64 (Go.IntKind.wrap .i64 ((Go.IntKind.wrap .i64 (rd_u8 x.1 x.2)) * 2 ^ (min (Int.toNat (8 : Int)) (Go.IntKind.bits .i64)))) (Go.IntKind.wrap .i64 (rd_u8 x.1 (Go.IntKind.wrap .i64 (x.2 + (1 : Int)))))), (Go.IntKind.wrap .i64 (x.2 + (2 : Int))), true) else none else none else none else none
theorem ev218 : EV [] lpN 218 Tryz.f218 sg218 qz50 qz86 F_impl_GetW := fun x => by kernel_rfl
noncomputable def q218 : QF := ⟨218, F_impl_GetW, okN (n := 0) Tryz.func218 (by kernel_rfl) (by kernel_rfl) trivial ev218⟩
noncomputable def F_impl_reader_word (x : Qz83) : Option Qz84 :=
  Option.bind (F_impl_GetW (x.1, x.2.1)) fun r1 => Option.bind (bif x.2.2 then some true else some (!r1.2.2)) fun u2 => bif u2 then some ((0 : Int), x.1, x.2.1, true) else some (r1.1, x.1, r1.2.1, x.2.2)
theorem ev156 : EV [q218] lpN 156 Tryz.f156 sg156 qz83 qz84 F_impl_reader_word := fun x => by kernel_rfl
noncomputable def q156 : QF := ⟨156, F_impl_reader_word, okN (n := 0) Tryz.func156 (by kernel_rfl) (by kernel_rfl) trivial ev156⟩
noncomputable def F_impl_reader_one (x : Qz83) : Option Qz84 :=
  Option.bind (bif x.2.2 then some true else some (decide (x.2.1 < (0 : Int)))) fun u1 => Option.bind (bif u1 then some true else some (decide (x.2.1 ≥ ((List.length x.1 : Nat) : Int)))) fun u2 => bif u2 then some ((0 : Int), x.1, x.2.1, true) else if (0 : Int) ≤ (Go.IntKind.wrap .i64 ((Go.IntKind.wrap .i64 (x.2.1 + (1 : Int))) - (1 : Int))) then if (Go.IntKind.wrap .i64 ((Go.IntKind.wrap .i64 (x.2.1 + (1 : Int))) - (1 : Int))) < ((List.length x.1 : Nat) : Int) then some ((Go.IntKind.wrap .i64 (rd_u8 x.1 (Go.IntKind.wrap .i64 ((Go.IntKind.wrap .i64 (x.2.1 + (1 : Int))) - (1 : Int))))), x.1, (Go.IntKind.wrap .i64 (x.2.1 + (1 : Int))), x.2.2) else none else none
theorem ev157 : EV [] lpN 157 Tryz.f157 sg157 qz83 qz84 F_impl_reader_one := fun x => by kernel_rfl
noncomputable def q157 : QF := ⟨157, F_impl_reader_one, okN (n := 0) Tryz.func157 (by kernel_rfl) (by kernel_rfl) trivial ev157⟩
noncomputable def F_impl_GetText (x : Qz50) : Option Qz87 :=
  Option.bind (F_impl_GetW (x.1, x.2)) fun r1 => Option.bind (bif (!r1.2.2) then some true else some (decide (r1.1 > (60 : Int)))) fun u2 => Option.bind (bif u2 then some true else some (decide (r1.1 > (Go.IntKind.wrap .i64 (((List.length x.1 : Nat) : Int) - r1.2.1))))) fun u3 => bif u3 then some ({ data := #[] }, (0 : Int), false) else if (0 : Int) ≤ r1.2.1 then if r1.2.1 ≤ (Go.IntKind.wrap .i64 (r1.2.1 + r1.1)) then if (Go.IntKind.wrap .i64 (r1.2.1 + r1.1)) ≤ ((List.length x.1 : Nat) : Int) then some ((textOf (List.drop (Int.toNat r1.2.1) (List.take (Int.toNat (Go.IntKind.wrap .i64 (r1.2.1 + r1.1))) x.1))), (Go.IntKind.wrap .i64 (r1.2.1 + r1.1)), true) else none else none else none
theorem ev220 : EV [q218] lpN 220 Tryz.f220 sg220 qz50 qz87 F_impl_GetText := fun x => by kernel_rfl
noncomputable def q220 : QF := ⟨220, F_impl_GetText, okN (n := 0) Tryz.func220 (by kernel_rfl) (by kernel_rfl) trivial ev220⟩
noncomputable def F_impl_reader_text (x : Qz83) : Option Qz137 :=
  Option.bind (F_impl_GetText (x.1, x.2.1)) fun r1 => Option.bind (bif x.2.2 then some true else some (!r1.2.2)) fun u2 => bif u2 then some ({ data := #[] }, x.1, x.2.1, true) else some (r1.1, x.1, r1.2.1, x.2.2)
theorem ev165 : EV [q220] lpN 165 Tryz.f165 sg165 qz83 qz137 F_impl_reader_text := fun x => by kernel_rfl
noncomputable def q165 : QF := ⟨165, F_impl_reader_text, okN (n := 0) Tryz.func165 (by kernel_rfl) (by kernel_rfl) trivial ev165⟩
noncomputable def F_impl_reader_flag (x : Qz83) : Option Qz85 :=
  Option.bind (F_impl_reader_one (x.1, x.2.1, x.2.2)) fun r1 => bif (decide (r1.1 > (1 : Int))) then some ((r1.1 == (1 : Int)), r1.2.1, r1.2.2.1, true) else some ((r1.1 == (1 : Int)), r1.2.1, r1.2.2.1, r1.2.2.2)
theorem ev166 : EV [q157] lpN 166 Tryz.f166 sg166 qz83 qz85 F_impl_reader_flag := fun x => by kernel_rfl
noncomputable def q166 : QF := ⟨166, F_impl_reader_flag, okN (n := 0) Tryz.func166 (by kernel_rfl) (by kernel_rfl) trivial ev166⟩
noncomputable def F_impl_reader_key (x : Qz83) : Option Qz138 :=
  Option.bind (F_impl_reader_one (x.1, x.2.1, x.2.2)) fun r1 => Option.bind (F_impl_reader_one (r1.2.1, r1.2.2.1, r1.2.2.2)) fun r2 => Option.bind (F_impl_reader_one (r2.2.1, r2.2.2.1, r2.2.2.2)) fun r3 => Option.bind (F_impl_reader_one (r3.2.1, r3.2.2.1, r3.2.2.2)) fun r4 => Option.bind (F_impl_reader_word (r4.2.1, r4.2.2.1, r4.2.2.2)) fun r5 => Option.bind (bif r5.2.2.2 then some true else Option.bind (F_impl_KeyOk (r1.1, r2.1, r3.1, r4.1, r5.1)) fun r7 => some (!r7)) fun u6 => bif u6 then some ((0 : Int), (0 : Int), (0 : Int), (0 : Int), (0 : Int), r5.2.1, r5.2.2.1, true) else some (r1.1, r2.1, r3.1, r4.1, r5.1, r5.2.1, r5.2.2.1, r5.2.2.2)
theorem ev221 : EV [q138, q156, q157] lpN 221 Tryz.f221 sg221 qz83 qz138 F_impl_reader_key := fun x => by kernel_rfl
noncomputable def q221 : QF := ⟨221, F_impl_reader_key, okN (n := 0) Tryz.func221 (by kernel_rfl) (by kernel_rfl) trivial ev221⟩
abbrev T_impl_reader_node_8 : Type := Qz139 ⊕ Qz140
noncomputable def S_impl_reader_node_8 {R : Type} (k0 : Qz141 → Option R) (k1 : Qz142 → Option R) (again : T_impl_reader_node_8 → Option R) : T_impl_reader_node_8 → Option R
  | .inl t8 => bif (decide (t8.2.2.2.1 < t8.2.2.1)) then Option.bind (F_impl_reader_key (t8.2.2.2.2.1, t8.2.2.2.2.2.1, t8.2.2.2.2.2.2.1)) fun r8 => if (List.length t8.2.2.2.2.2.2.2 + List.length ([(r8.1, r8.2.1, r8.2.2.1, r8.2.2.2.1, r8.2.2.2.2.1)] : List E_Key)) * 40 < 140737488355328 then again (Sum.inl (t8.1, t8.2.1, t8.2.2.1, (Go.IntKind.wrap .i64 (t8.2.2.2.1 + (1 : Int))), r8.2.2.2.2.2.1, r8.2.2.2.2.2.2.1, r8.2.2.2.2.2.2.2, (t8.2.2.2.2.2.2.2 ++ ([(r8.1, r8.2.1, r8.2.2.1, r8.2.2.2.1, r8.2.2.2.2.1)] : List E_Key)))) else none else k0 (t8.1, t8.2.1, t8.2.2.2.2.1, t8.2.2.2.2.2.1, t8.2.2.2.2.2.2.1, t8.2.2.2.2.2.2.2)
  | .inr t8 => bif (decide (t8.2.2.2.1 < t8.2.2.1)) then Option.bind (F_impl_reader_key (t8.2.2.2.2.1, t8.2.2.2.2.2.1, t8.2.2.2.2.2.2.1)) fun r9 => if (List.length t8.2.2.2.2.2.2.2.1 + List.length ([(r9.1, r9.2.1, r9.2.2.1, r9.2.2.2.1, r9.2.2.2.2.1)] : List E_Key)) * 40 < 140737488355328 then again (Sum.inr (t8.1, t8.2.1, t8.2.2.1, (Go.IntKind.wrap .i64 (t8.2.2.2.1 + (1 : Int))), r9.2.2.2.2.2.1, r9.2.2.2.2.2.2.1, r9.2.2.2.2.2.2.2, (t8.2.2.2.2.2.2.2.1 ++ ([(r9.1, r9.2.1, r9.2.2.1, r9.2.2.2.1, r9.2.2.2.2.1)] : List E_Key)), t8.2.2.2.2.2.2.2.2)) else none else k1 (t8.1, t8.2.1, t8.2.2.2.2.1, t8.2.2.2.2.2.1, t8.2.2.2.2.2.2.1, t8.2.2.2.2.2.2.2.1, t8.2.2.2.2.2.2.2.2)
noncomputable def L_impl_reader_node_8 {R : Type} (k0 : Qz141 → Option R) (k1 : Qz142 → Option R) (t : T_impl_reader_node_8) : Option R := iter (S_impl_reader_node_8 k0 k1) FUEL t
abbrev T_impl_reader_node_4 : Type := Qz143 ⊕ Qz144
noncomputable def S_impl_reader_node_4 {R : Type} (k0 : Qz83 → Option R) (k1 : Qz94 → Option R) (again : T_impl_reader_node_4 → Option R) : T_impl_reader_node_4 → Option R
  | .inl t4 => bif (decide (t4.2.1 < t4.1)) then Option.bind (F_impl_reader_one (t4.2.2.1, t4.2.2.2.1, t4.2.2.2.2)) fun r2 => L_impl_reader_node_8 (fun x5 => if List.length ([x5.2.2.2.2.2] : List E_s_Key) * 24 < 140737488355328 then again (Sum.inr (x5.1, (Go.IntKind.wrap .i64 (x5.2.1 + (1 : Int))), x5.2.2.1, x5.2.2.2.1, x5.2.2.2.2.1, ([x5.2.2.2.2.2] : List E_s_Key))) else none) (fun x6 => if (List.length x6.2.2.2.2.2.2 + List.length ([x6.2.2.2.2.2.1] : List E_s_Key)) * 24 < 140737488355328 then again (Sum.inr (x6.1, (Go.IntKind.wrap .i64 (x6.2.1 + (1 : Int))), x6.2.2.1, x6.2.2.2.1, x6.2.2.2.2.1, (x6.2.2.2.2.2.2 ++ ([x6.2.2.2.2.2.1] : List E_s_Key)))) else none) (Sum.inl (t4.1, t4.2.1, r2.1, (0 : Int), r2.2.1, r2.2.2.1, r2.2.2.2, ([] : List E_Key))) else k0 (t4.2.2.1, t4.2.2.2.1, t4.2.2.2.2)
  | .inr t4 => bif (decide (t4.2.1 < t4.1)) then Option.bind (F_impl_reader_one (t4.2.2.1, t4.2.2.2.1, t4.2.2.2.2.1)) fun r7 => L_impl_reader_node_8 (fun x10 => if List.length ([x10.2.2.2.2.2] : List E_s_Key) * 24 < 140737488355328 then again (Sum.inr (x10.1, (Go.IntKind.wrap .i64 (x10.2.1 + (1 : Int))), x10.2.2.1, x10.2.2.2.1, x10.2.2.2.2.1, ([x10.2.2.2.2.2] : List E_s_Key))) else none) (fun x11 => if (List.length x11.2.2.2.2.2.2 + List.length ([x11.2.2.2.2.2.1] : List E_s_Key)) * 24 < 140737488355328 then again (Sum.inr (x11.1, (Go.IntKind.wrap .i64 (x11.2.1 + (1 : Int))), x11.2.2.1, x11.2.2.2.1, x11.2.2.2.2.1, (x11.2.2.2.2.2.2 ++ ([x11.2.2.2.2.2.1] : List E_s_Key)))) else none) (Sum.inr (t4.1, t4.2.1, r7.1, (0 : Int), r7.2.1, r7.2.2.1, r7.2.2.2, ([] : List E_Key), t4.2.2.2.2.2)) else k1 (t4.2.2.1, t4.2.2.2.1, t4.2.2.2.2.1, t4.2.2.2.2.2)
noncomputable def L_impl_reader_node_4 {R : Type} (k0 : Qz83 → Option R) (k1 : Qz94 → Option R) (t : T_impl_reader_node_4) : Option R := iter (S_impl_reader_node_4 k0 k1) FUEL t
noncomputable def F_impl_reader_node (x : Qz83) : Option Qz95 :=
  Option.bind (F_impl_reader_one (x.1, x.2.1, x.2.2)) fun r1 => L_impl_reader_node_4 (fun x12 => some (([] : List E_s_Key), x12.1, x12.2.1, x12.2.2)) (fun x13 => some (x13.2.2.2, x13.1, x13.2.1, x13.2.2.1)) (Sum.inl (r1.1, (0 : Int), r1.2.1, r1.2.2.1, r1.2.2.2))
noncomputable def f167Q : List QF := [q157, q221]
def f167e8_0 (t : Qz139) : St := ⟨.box 900 0 :: .dead :: .box 2 0 :: .box 3 0 :: .dead :: .own 10000000 :: dd 5 (vI t.1 :: vI t.2.1 :: dd 4 (vI t.2.2.1 :: vI t.2.2.2.1 :: dd 16 [])), [(900, .box [v_u8 t.2.2.2.2.1, vI t.2.2.2.2.2.1, vB t.2.2.2.2.2.2.1]), (2, .box [.nils]), (3, .box [.nils]), (10000000, .root true 106 ts_Key t.2.2.2.2.2.2.2)]⟩
theorem f167v8_0 : ∀ s t, unG qz139 f167e8_0 s = some t → f167e8_0 t = s := unG_ok fun t => by kernel_rfl
def f167e8_1 (t : Qz140) : St := ⟨.box 900 0 :: .dead :: .box 2 0 :: .box 3 0 :: .dead :: .own 10000000 :: dd 5 (vI t.1 :: vI t.2.1 :: dd 4 (vI t.2.2.1 :: vI t.2.2.2.1 :: dd 16 [])), [(900, .box [v_u8 t.2.2.2.2.1, vI t.2.2.2.2.2.1, vB t.2.2.2.2.2.2.1]), (2, .box [.nils]), (3, .box [.own 10000001]), (10000000, .root true 106 ts_Key t.2.2.2.2.2.2.2.1), (10000001, .deep true 0 100 ts_s_Key t.2.2.2.2.2.2.2.2)]⟩
theorem f167v8_1 : ∀ s t, unG qz140 f167e8_1 s = some t → f167e8_1 t = s := unG_ok fun t => by kernel_rfl
def f167e8r0 : (Qz139 ⊕ Qz140) → St := Sum.elim f167e8_0 f167e8_1
def f167u8r0 (s : St) : Option (Qz139 ⊕ Qz140) := ((unG qz139 f167e8_0 s).map Sum.inl).or (((unG qz140 f167e8_1) s).map Sum.inr)
theorem f167v8r0 : ∀ s t, f167u8r0 s = some t → f167e8r0 t = s := or_un f167v8_0 f167v8_1
noncomputable def f167g8 : Gk T_impl_reader_node_8 := fun κ => S_impl_reader_node_8 (fun t => κ (some 2) ⟨.box 900 0 :: .dead :: .box 2 0 :: .box 3 0 :: .dead :: .own 10000000 :: dd 5 (vI t.1 :: vI t.2.1 :: dd 22 []), [(900, .box [v_u8 t.2.2.1, vI t.2.2.2.1, vB t.2.2.2.2.1]), (2, .box [.nils]), (3, .box [.nils]), (10000000, .root true 106 ts_Key t.2.2.2.2.2)]⟩) (fun t => κ (some 2) ⟨.box 900 0 :: .dead :: .box 2 0 :: .box 3 0 :: .dead :: .own 10000000 :: dd 5 (vI t.1 :: vI t.2.1 :: dd 22 []), [(900, .box [v_u8 t.2.2.1, vI t.2.2.2.1, vB t.2.2.2.2.1]), (2, .box [.nils]), (3, .box [.own 10000001]), (10000000, .root true 106 ts_Key t.2.2.2.2.2.1), (10000001, .deep true 0 100 ts_s_Key t.2.2.2.2.2.2)]⟩)
def f167e4_0 (t : Qz143) : St := ⟨.box 900 0 :: .dead :: .box 2 0 :: .box 3 0 :: dd 7 (vI t.1 :: vI t.2.1 :: dd 22 []), [(900, .box [v_u8 t.2.2.1, vI t.2.2.2.1, vB t.2.2.2.2]), (2, .box [.nils]), (3, .box [.nils])]⟩
theorem f167v4_0 : ∀ s t, unG qz143 f167e4_0 s = some t → f167e4_0 t = s := unG_ok fun t => by kernel_rfl
def f167e4_1 (t : Qz144) : St := ⟨.box 900 0 :: .dead :: .box 2 0 :: .box 3 0 :: dd 7 (vI t.1 :: vI t.2.1 :: dd 22 []), [(900, .box [v_u8 t.2.2.1, vI t.2.2.2.1, vB t.2.2.2.2.1]), (2, .box [.nils]), (3, .box [.own 10000000]), (10000000, .deep true 0 100 ts_s_Key t.2.2.2.2.2)]⟩
theorem f167v4_1 : ∀ s t, unG qz144 f167e4_1 s = some t → f167e4_1 t = s := unG_ok fun t => by kernel_rfl
def f167e4r0 : (Qz143 ⊕ Qz144) → St := Sum.elim f167e4_0 f167e4_1
def f167u4r0 (s : St) : Option (Qz143 ⊕ Qz144) := ((unG qz143 f167e4_0 s).map Sum.inl).or (((unG qz144 f167e4_1) s).map Sum.inr)
theorem f167v4r0 : ∀ s t, f167u4r0 s = some t → f167e4r0 t = s := or_un f167v4_0 f167v4_1
noncomputable def f167g4 : Gk T_impl_reader_node_4 := fun κ => S_impl_reader_node_4 (fun t => κ (some 0) ⟨.box 900 0 :: .dead :: .box 2 0 :: .box 3 0 :: dd 31 [], [(900, .box [v_u8 t.1, vI t.2.1, vB t.2.2]), (2, .box [.nils]), (3, .box [.nils])]⟩) (fun t => κ (some 0) ⟨.box 900 0 :: .dead :: .box 2 0 :: .box 3 0 :: dd 31 [], [(900, .box [v_u8 t.1, vI t.2.1, vB t.2.2.1]), (2, .box [.nils]), (3, .box [.own 10000000]), (10000000, .deep true 0 100 ts_s_Key t.2.2.2)]⟩)
noncomputable def f167P : Lp := lpC 4 f167u4r0 @f167g4 (lpC 8 f167u8r0 @f167g8 lpN)
theorem f167C8_0 : LF f167Q f167P 167 8 Tryz.f167 1 f167e8r0 @f167g8 fun v : Qz139 => .inl v := fun R κ again v => by kernel_rfl
theorem f167C8_1 : LF f167Q f167P 167 8 Tryz.f167 1 f167e8r0 @f167g8 fun v : Qz140 => .inr v := fun R κ again v => by kernel_rfl
theorem f167C8 : LF f167Q f167P 167 8 Tryz.f167 1 f167e8r0 @f167g8 fun t => t := (LC.sum f167C8_0 f167C8_1)
theorem f167k8 : LK f167Q f167P 167 Tryz.f167 1 := loop_okG (u := f167u8r0) (by kernel_rfl) f167v8r0 (fun R κ s => by kernel_rfl) f167C8
theorem f167C4_0 : LF f167Q f167P 167 4 Tryz.f167 0 f167e4r0 @f167g4 fun v : Qz143 => .inl v := fun R κ again v => by kernel_rfl
theorem f167C4_1 : LF f167Q f167P 167 4 Tryz.f167 0 f167e4r0 @f167g4 fun v : Qz144 => .inr v := fun R κ again v => by kernel_rfl
theorem f167C4 : LF f167Q f167P 167 4 Tryz.f167 0 f167e4r0 @f167g4 fun t => t := (LC.sum f167C4_0 f167C4_1)
theorem f167k4 : LK f167Q f167P 167 Tryz.f167 0 := loop_okG (u := f167u4r0) (by kernel_rfl) f167v4r0 (fun R κ s => by kernel_rfl) f167C4
theorem ev167 : EV f167Q f167P 167 Tryz.f167 sg167 qz83 qz95 F_impl_reader_node := fun x => by kernel_rfl
noncomputable def q167 : QF := ⟨167, F_impl_reader_node, okN (n := 2) Tryz.func167 (by kernel_rfl) (by kernel_rfl) ⟨f167k4, f167k8, trivial⟩ ev167⟩
abbrev T_impl_reader_pool_5 : Type := Qz145
noncomputable def S_impl_reader_pool_5 {R : Type} (k0 : Qz146 → Option R) (again : T_impl_reader_pool_5 → Option R) (t5 : T_impl_reader_pool_5) : Option R :=
  bif (decide (t5.2.1 < t5.1)) then Option.bind (F_impl_reader_one (t5.2.2.1, t5.2.2.2.1, t5.2.2.2.2.1)) fun r3 => Option.bind (F_impl_reader_one (r3.2.1, r3.2.2.1, r3.2.2.2)) fun r4 => if (List.length t5.2.2.2.2.2.2.2.2.1 + List.length ([(r3.1, r4.1)] : List E_Age)) * 16 < 140737488355328 then again (t5.1, (Go.IntKind.wrap .i64 (t5.2.1 + (1 : Int))), r4.2.1, r4.2.2.1, r4.2.2.2, t5.2.2.2.2.2.1, t5.2.2.2.2.2.2.1, t5.2.2.2.2.2.2.2.1, (t5.2.2.2.2.2.2.2.2.1 ++ ([(r3.1, r4.1)] : List E_Age)), t5.2.2.2.2.2.2.2.2.2.1, t5.2.2.2.2.2.2.2.2.2.2) else none else k0 (t5.2.2.1, t5.2.2.2.1, t5.2.2.2.2.1, t5.2.2.2.2.2.1, t5.2.2.2.2.2.2.1, t5.2.2.2.2.2.2.2.1, t5.2.2.2.2.2.2.2.2.1, t5.2.2.2.2.2.2.2.2.2.1, t5.2.2.2.2.2.2.2.2.2.2)
noncomputable def L_impl_reader_pool_5 {R : Type} (k0 : Qz146 → Option R) (t : T_impl_reader_pool_5) : Option R := iter (S_impl_reader_pool_5 k0) FUEL t
abbrev T_impl_reader_pool_13 : Type := Qz145
noncomputable def S_impl_reader_pool_13 {R : Type} (k0 : Qz146 → Option R) (again : T_impl_reader_pool_13 → Option R) (t13 : T_impl_reader_pool_13) : Option R :=
  bif (decide (t13.2.1 < t13.1)) then Option.bind (F_impl_reader_text (t13.2.2.1, t13.2.2.2.1, t13.2.2.2.2.1)) fun r7 => Option.bind (F_impl_reader_one (r7.2.1, r7.2.2.1, r7.2.2.2)) fun r8 => Option.bind (F_impl_reader_one (r8.2.1, r8.2.2.1, r8.2.2.2)) fun r9 => Option.bind (F_impl_reader_flag (r9.2.1, r9.2.2.1, r9.2.2.2)) fun r10 => if (List.length t13.2.2.2.2.2.2.2.2.2.2 + List.length ([(r7.1, r8.1, r9.1, r10.1)] : List E_Vol)) * 40 < 140737488355328 then again (t13.1, (Go.IntKind.wrap .i64 (t13.2.1 + (1 : Int))), r10.2.1, r10.2.2.1, r10.2.2.2, t13.2.2.2.2.2.1, t13.2.2.2.2.2.2.1, t13.2.2.2.2.2.2.2.1, t13.2.2.2.2.2.2.2.2.1, t13.2.2.2.2.2.2.2.2.2.1, (t13.2.2.2.2.2.2.2.2.2.2 ++ ([(r7.1, r8.1, r9.1, r10.1)] : List E_Vol))) else none else k0 (t13.2.2.1, t13.2.2.2.1, t13.2.2.2.2.1, t13.2.2.2.2.2.1, t13.2.2.2.2.2.2.1, t13.2.2.2.2.2.2.2.1, t13.2.2.2.2.2.2.2.2.1, t13.2.2.2.2.2.2.2.2.2.1, t13.2.2.2.2.2.2.2.2.2.2)
noncomputable def L_impl_reader_pool_13 {R : Type} (k0 : Qz146 → Option R) (t : T_impl_reader_pool_13) : Option R := iter (S_impl_reader_pool_13 k0) FUEL t
abbrev T_impl_reader_pool_22 : Type := Qz147
noncomputable def S_impl_reader_pool_22 {R : Type} (k0 : Qz146 → Option R) (again : T_impl_reader_pool_22 → Option R) (t22 : T_impl_reader_pool_22) : Option R :=
  bif (decide (t22.1 < (24 : Int))) then Option.bind (F_impl_reader_word (t22.2.1, t22.2.2.1, t22.2.2.2.1)) fun r12 => Option.bind (F_impl_reader_flag (r12.2.1, r12.2.2.1, r12.2.2.2)) fun r13 => Option.bind (F_impl_reader_word (r13.2.1, r13.2.2.1, r13.2.2.2)) fun r14 => if (List.length t22.2.2.2.2.2.2.2.2.1 + List.length ([(r12.1, r13.1, r14.1)] : List E_Cell)) * 24 < 140737488355328 then again ((Go.IntKind.wrap .i64 (t22.1 + (1 : Int))), r14.2.1, r14.2.2.1, r14.2.2.2, t22.2.2.2.2.1, t22.2.2.2.2.2.1, t22.2.2.2.2.2.2.1, t22.2.2.2.2.2.2.2.1, (t22.2.2.2.2.2.2.2.2.1 ++ ([(r12.1, r13.1, r14.1)] : List E_Cell)), t22.2.2.2.2.2.2.2.2.2) else none else k0 (t22.2.1, t22.2.2.1, t22.2.2.2.1, t22.2.2.2.2.1, t22.2.2.2.2.2.1, t22.2.2.2.2.2.2.1, t22.2.2.2.2.2.2.2.1, t22.2.2.2.2.2.2.2.2.1, t22.2.2.2.2.2.2.2.2.2)
noncomputable def L_impl_reader_pool_22 {R : Type} (k0 : Qz146 → Option R) (t : T_impl_reader_pool_22) : Option R := iter (S_impl_reader_pool_22 k0) FUEL t
abbrev T_impl_reader_pool_31 : Type := Qz145 ⊕ Qz148
noncomputable def S_impl_reader_pool_31 {R : Type} (k0 : Qz146 → Option R) (k1 : Qz149 → Option R) (again : T_impl_reader_pool_31 → Option R) : T_impl_reader_pool_31 → Option R
  | .inl t31 => bif (decide (t31.2.1 < t31.1)) then Option.bind (F_impl_reader_word (t31.2.2.1, t31.2.2.2.1, t31.2.2.2.2.1)) fun r17 => Option.bind (F_impl_reader_node (r17.2.1, r17.2.2.1, r17.2.2.2)) fun r18 => if (List.length t31.2.2.2.2.2.2.2.1 + List.length ([r17.1] : List E_i64)) * 8 < 140737488355328 then if List.length ([r18.1] : List E_Node) * 24 < 140737488355328 then again (Sum.inr (t31.1, (Go.IntKind.wrap .i64 (t31.2.1 + (1 : Int))), r18.2.1, r18.2.2.1, r18.2.2.2, t31.2.2.2.2.2.1, t31.2.2.2.2.2.2.1, (t31.2.2.2.2.2.2.2.1 ++ ([r17.1] : List E_i64)), ([r18.1] : List E_Node), t31.2.2.2.2.2.2.2.2.1, t31.2.2.2.2.2.2.2.2.2.1, t31.2.2.2.2.2.2.2.2.2.2)) else none else none else k0 (t31.2.2.1, t31.2.2.2.1, t31.2.2.2.2.1, t31.2.2.2.2.2.1, t31.2.2.2.2.2.2.1, t31.2.2.2.2.2.2.2.1, t31.2.2.2.2.2.2.2.2.1, t31.2.2.2.2.2.2.2.2.2.1, t31.2.2.2.2.2.2.2.2.2.2)
  | .inr t31 => bif (decide (t31.2.1 < t31.1)) then Option.bind (F_impl_reader_word (t31.2.2.1, t31.2.2.2.1, t31.2.2.2.2.1)) fun r19 => Option.bind (F_impl_reader_node (r19.2.1, r19.2.2.1, r19.2.2.2)) fun r20 => if (List.length t31.2.2.2.2.2.2.2.1 + List.length ([r19.1] : List E_i64)) * 8 < 140737488355328 then if (List.length t31.2.2.2.2.2.2.2.2.1 + List.length ([r20.1] : List E_Node)) * 24 < 140737488355328 then again (Sum.inr (t31.1, (Go.IntKind.wrap .i64 (t31.2.1 + (1 : Int))), r20.2.1, r20.2.2.1, r20.2.2.2, t31.2.2.2.2.2.1, t31.2.2.2.2.2.2.1, (t31.2.2.2.2.2.2.2.1 ++ ([r19.1] : List E_i64)), (t31.2.2.2.2.2.2.2.2.1 ++ ([r20.1] : List E_Node)), t31.2.2.2.2.2.2.2.2.2.1, t31.2.2.2.2.2.2.2.2.2.2.1, t31.2.2.2.2.2.2.2.2.2.2.2)) else none else none else k1 (t31.2.2.1, t31.2.2.2.1, t31.2.2.2.2.1, t31.2.2.2.2.2.1, t31.2.2.2.2.2.2.1, t31.2.2.2.2.2.2.2.1, t31.2.2.2.2.2.2.2.2.1, t31.2.2.2.2.2.2.2.2.2.1, t31.2.2.2.2.2.2.2.2.2.2.1, t31.2.2.2.2.2.2.2.2.2.2.2)
noncomputable def L_impl_reader_pool_31 {R : Type} (k0 : Qz146 → Option R) (k1 : Qz149 → Option R) (t : T_impl_reader_pool_31) : Option R := iter (S_impl_reader_pool_31 k0 k1) FUEL t
noncomputable def F_impl_reader_pool (x : Qz83) : Option Qz150 :=
  Option.bind (F_impl_reader_word (x.1, x.2.1, x.2.2)) fun r1 => Option.bind (F_impl_reader_one (r1.2.1, r1.2.2.1, r1.2.2.2)) fun r2 => L_impl_reader_pool_5 (fun x5 => Option.bind (F_impl_reader_one (x5.1, x5.2.1, x5.2.2.1)) fun r6 => L_impl_reader_pool_13 (fun x11 => L_impl_reader_pool_22 (fun x15 => Option.bind (F_impl_reader_one (x15.1, x15.2.1, x15.2.2.1)) fun r16 => L_impl_reader_pool_31 (fun x21 => some (x21.2.2.2.2.2.1, ([] : List E_Node), x21.2.2.2.2.2.2.1, x21.2.2.2.2.2.2.2.1, x21.2.2.2.2.2.2.2.2, x21.2.2.2.2.1, x21.1, x21.2.1, x21.2.2.1)) (fun x22 => some (x22.2.2.2.2.2.1, x22.2.2.2.2.2.2.1, x22.2.2.2.2.2.2.2.1, x22.2.2.2.2.2.2.2.2.1, x22.2.2.2.2.2.2.2.2.2, x22.2.2.2.2.1, x22.1, x22.2.1, x22.2.2.1)) (Sum.inl (r16.1, (0 : Int), r16.2.1, r16.2.2.1, r16.2.2.2, x15.2.2.2.1, x15.2.2.2.2.1, x15.2.2.2.2.2.1, x15.2.2.2.2.2.2.1, x15.2.2.2.2.2.2.2.1, x15.2.2.2.2.2.2.2.2))) ((0 : Int), x11.1, x11.2.1, x11.2.2.1, x11.2.2.2.1, x11.2.2.2.2.1, x11.2.2.2.2.2.1, x11.2.2.2.2.2.2.1, x11.2.2.2.2.2.2.2.1, x11.2.2.2.2.2.2.2.2)) (r6.1, (0 : Int), r6.2.1, r6.2.2.1, r6.2.2.2, x5.2.2.2.1, x5.2.2.2.2.1, x5.2.2.2.2.2.1, x5.2.2.2.2.2.2.1, x5.2.2.2.2.2.2.2.1, x5.2.2.2.2.2.2.2.2)) (r2.1, (0 : Int), r2.2.1, r2.2.2.1, r2.2.2.2, (0 : Int), r1.1, ([] : List E_i64), ([] : List E_Age), ([] : List E_Cell), ([] : List E_Vol))
noncomputable def f88Q : List QF := [q156, q157, q165, q166, q167]
def f88e5_0 (t : Qz145) : St := ⟨.box 900 0 :: .dead :: .box 2 0 :: .box 3 0 :: dd 14 (vI t.1 :: vI t.2.1 :: dd 86 []), [(900, .box [v_u8 t.2.2.1, vI t.2.2.2.1, vB t.2.2.2.2.1]), (2, .box [.nils, .nils, .nils, .nils, .nils, vI t.2.2.2.2.2.1]), (3, .box [.own 10000000, .nils, .own 10000001, .own 10000002, .own 10000003, vI t.2.2.2.2.2.2.1]), (10000000, .root true 3 ts_i64 t.2.2.2.2.2.2.2.1), (10000001, .root true 89 ts_Age t.2.2.2.2.2.2.2.2.1), (10000002, .root true 95 ts_Cell t.2.2.2.2.2.2.2.2.2.1), (10000003, .root true 91 ts_Vol t.2.2.2.2.2.2.2.2.2.2)]⟩
noncomputable def f88g5 : Gk T_impl_reader_pool_5 := fun κ => S_impl_reader_pool_5 (fun t => κ (some 0) ⟨.box 900 0 :: .dead :: .box 2 0 :: .box 3 0 :: dd 102 [], [(900, .box [v_u8 t.1, vI t.2.1, vB t.2.2.1]), (2, .box [.nils, .nils, .nils, .nils, .nils, vI t.2.2.2.1]), (3, .box [.own 10000000, .nils, .own 10000001, .own 10000002, .own 10000003, vI t.2.2.2.2.1]), (10000000, .root true 3 ts_i64 t.2.2.2.2.2.1), (10000001, .root true 89 ts_Age t.2.2.2.2.2.2.1), (10000002, .root true 95 ts_Cell t.2.2.2.2.2.2.2.1), (10000003, .root true 91 ts_Vol t.2.2.2.2.2.2.2.2)]⟩)
def f88e13_0 (t : Qz145) : St := ⟨.box 900 0 :: .dead :: .box 2 0 :: .box 3 0 :: dd 33 (vI t.1 :: vI t.2.1 :: dd 67 []), [(900, .box [v_u8 t.2.2.1, vI t.2.2.2.1, vB t.2.2.2.2.1]), (2, .box [.nils, .nils, .nils, .nils, .nils, vI t.2.2.2.2.2.1]), (3, .box [.own 10000000, .nils, .own 10000001, .own 10000002, .own 10000003, vI t.2.2.2.2.2.2.1]), (10000000, .root true 3 ts_i64 t.2.2.2.2.2.2.2.1), (10000001, .root true 89 ts_Age t.2.2.2.2.2.2.2.2.1), (10000002, .root true 95 ts_Cell t.2.2.2.2.2.2.2.2.2.1), (10000003, .root true 91 ts_Vol t.2.2.2.2.2.2.2.2.2.2)]⟩
noncomputable def f88g13 : Gk T_impl_reader_pool_13 := fun κ => S_impl_reader_pool_13 (fun t => κ (some 2) ⟨.box 900 0 :: .dead :: .box 2 0 :: .box 3 0 :: dd 102 [], [(900, .box [v_u8 t.1, vI t.2.1, vB t.2.2.1]), (2, .box [.nils, .nils, .nils, .nils, .nils, vI t.2.2.2.1]), (3, .box [.own 10000000, .nils, .own 10000001, .own 10000002, .own 10000003, vI t.2.2.2.2.1]), (10000000, .root true 3 ts_i64 t.2.2.2.2.2.1), (10000001, .root true 89 ts_Age t.2.2.2.2.2.2.1), (10000002, .root true 95 ts_Cell t.2.2.2.2.2.2.2.1), (10000003, .root true 91 ts_Vol t.2.2.2.2.2.2.2.2)]⟩)
def f88e22_0 (t : Qz147) : St := ⟨.box 900 0 :: .dead :: .box 2 0 :: .box 3 0 :: dd 56 (vI t.1 :: dd 45 []), [(900, .box [v_u8 t.2.1, vI t.2.2.1, vB t.2.2.2.1]), (2, .box [.nils, .nils, .nils, .nils, .nils, vI t.2.2.2.2.1]), (3, .box [.own 10000000, .nils, .own 10000001, .own 10000002, .own 10000003, vI t.2.2.2.2.2.1]), (10000000, .root true 3 ts_i64 t.2.2.2.2.2.2.1), (10000001, .root true 89 ts_Age t.2.2.2.2.2.2.2.1), (10000002, .root true 95 ts_Cell t.2.2.2.2.2.2.2.2.1), (10000003, .root true 91 ts_Vol t.2.2.2.2.2.2.2.2.2)]⟩
noncomputable def f88g22 : Gk T_impl_reader_pool_22 := fun κ => S_impl_reader_pool_22 (fun t => κ (some 4) ⟨.box 900 0 :: .dead :: .box 2 0 :: .box 3 0 :: dd 102 [], [(900, .box [v_u8 t.1, vI t.2.1, vB t.2.2.1]), (2, .box [.nils, .nils, .nils, .nils, .nils, vI t.2.2.2.1]), (3, .box [.own 10000000, .nils, .own 10000001, .own 10000002, .own 10000003, vI t.2.2.2.2.1]), (10000000, .root true 3 ts_i64 t.2.2.2.2.2.1), (10000001, .root true 89 ts_Age t.2.2.2.2.2.2.1), (10000002, .root true 95 ts_Cell t.2.2.2.2.2.2.2.1), (10000003, .root true 91 ts_Vol t.2.2.2.2.2.2.2.2)]⟩)
def f88e31_0 (t : Qz145) : St := ⟨.box 900 0 :: .dead :: .box 2 0 :: .box 3 0 :: dd 77 (vI t.1 :: vI t.2.1 :: dd 23 []), [(900, .box [v_u8 t.2.2.1, vI t.2.2.2.1, vB t.2.2.2.2.1]), (2, .box [.nils, .nils, .nils, .nils, .nils, vI t.2.2.2.2.2.1]), (3, .box [.own 10000000, .nils, .own 10000001, .own 10000002, .own 10000003, vI t.2.2.2.2.2.2.1]), (10000000, .root true 3 ts_i64 t.2.2.2.2.2.2.2.1), (10000001, .root true 89 ts_Age t.2.2.2.2.2.2.2.2.1), (10000002, .root true 95 ts_Cell t.2.2.2.2.2.2.2.2.2.1), (10000003, .root true 91 ts_Vol t.2.2.2.2.2.2.2.2.2.2)]⟩
theorem f88v31_0 : ∀ s t, unG qz145 f88e31_0 s = some t → f88e31_0 t = s := unG_ok fun t => by kernel_rfl
def f88e31_1 (t : Qz148) : St := ⟨.box 900 0 :: .dead :: .box 2 0 :: .box 3 0 :: dd 77 (vI t.1 :: vI t.2.1 :: dd 23 []), [(900, .box [v_u8 t.2.2.1, vI t.2.2.2.1, vB t.2.2.2.2.1]), (2, .box [.nils, .nils, .nils, .nils, .nils, vI t.2.2.2.2.2.1]), (3, .box [.own 10000000, .own 10000001, .own 10000002, .own 10000003, .own 10000004, vI t.2.2.2.2.2.2.1]), (10000000, .root true 3 ts_i64 t.2.2.2.2.2.2.2.1), (10000001, .deep true 0 98 ts_Node t.2.2.2.2.2.2.2.2.1), (10000002, .root true 89 ts_Age t.2.2.2.2.2.2.2.2.2.1), (10000003, .root true 95 ts_Cell t.2.2.2.2.2.2.2.2.2.2.1), (10000004, .root true 91 ts_Vol t.2.2.2.2.2.2.2.2.2.2.2)]⟩
theorem f88v31_1 : ∀ s t, unG qz148 f88e31_1 s = some t → f88e31_1 t = s := unG_ok fun t => by kernel_rfl
def f88e31r0 : (Qz145 ⊕ Qz148) → St := Sum.elim f88e31_0 f88e31_1
def f88u31r0 (s : St) : Option (Qz145 ⊕ Qz148) := ((unG qz145 f88e31_0 s).map Sum.inl).or (((unG qz148 f88e31_1) s).map Sum.inr)
theorem f88v31r0 : ∀ s t, f88u31r0 s = some t → f88e31r0 t = s := or_un f88v31_0 f88v31_1
noncomputable def f88g31 : Gk T_impl_reader_pool_31 := fun κ => S_impl_reader_pool_31 (fun t => κ (some 6) ⟨.box 900 0 :: .dead :: .box 2 0 :: .box 3 0 :: dd 102 [], [(900, .box [v_u8 t.1, vI t.2.1, vB t.2.2.1]), (2, .box [.nils, .nils, .nils, .nils, .nils, vI t.2.2.2.1]), (3, .box [.own 10000000, .nils, .own 10000001, .own 10000002, .own 10000003, vI t.2.2.2.2.1]), (10000000, .root true 3 ts_i64 t.2.2.2.2.2.1), (10000001, .root true 89 ts_Age t.2.2.2.2.2.2.1), (10000002, .root true 95 ts_Cell t.2.2.2.2.2.2.2.1), (10000003, .root true 91 ts_Vol t.2.2.2.2.2.2.2.2)]⟩) (fun t => κ (some 6) ⟨.box 900 0 :: .dead :: .box 2 0 :: .box 3 0 :: dd 102 [], [(900, .box [v_u8 t.1, vI t.2.1, vB t.2.2.1]), (2, .box [.nils, .nils, .nils, .nils, .nils, vI t.2.2.2.1]), (3, .box [.own 10000000, .own 10000001, .own 10000002, .own 10000003, .own 10000004, vI t.2.2.2.2.1]), (10000000, .root true 3 ts_i64 t.2.2.2.2.2.1), (10000001, .deep true 0 98 ts_Node t.2.2.2.2.2.2.1), (10000002, .root true 89 ts_Age t.2.2.2.2.2.2.2.1), (10000003, .root true 95 ts_Cell t.2.2.2.2.2.2.2.2.1), (10000004, .root true 91 ts_Vol t.2.2.2.2.2.2.2.2.2)]⟩)
noncomputable def f88P : Lp := lpC 31 f88u31r0 @f88g31 (lpC 22 (unG qz147 f88e22_0) @f88g22 (lpC 13 (unG qz145 f88e13_0) @f88g13 (lpC 5 (unG qz145 f88e5_0) @f88g5 lpN)))
theorem f88C5 : LF f88Q f88P 88 5 Tryz.f88 0 f88e5_0 @f88g5 fun t => t := fun R κ again t => by kernel_rfl
theorem f88k5 : LK f88Q f88P 88 Tryz.f88 0 := loop_okG (u := (unG qz145 f88e5_0)) (by kernel_rfl) (unG_ok fun t => by kernel_rfl) (fun R κ s => by kernel_rfl) f88C5
theorem f88C13 : LF f88Q f88P 88 13 Tryz.f88 1 f88e13_0 @f88g13 fun t => t := fun R κ again t => by kernel_rfl
theorem f88k13 : LK f88Q f88P 88 Tryz.f88 1 := loop_okG (u := (unG qz145 f88e13_0)) (by kernel_rfl) (unG_ok fun t => by kernel_rfl) (fun R κ s => by kernel_rfl) f88C13
theorem f88C22 : LF f88Q f88P 88 22 Tryz.f88 2 f88e22_0 @f88g22 fun t => t := fun R κ again t => by kernel_rfl
theorem f88k22 : LK f88Q f88P 88 Tryz.f88 2 := loop_okG (u := (unG qz147 f88e22_0)) (by kernel_rfl) (unG_ok fun t => by kernel_rfl) (fun R κ s => by kernel_rfl) f88C22
theorem f88C31_0 : LF f88Q f88P 88 31 Tryz.f88 3 f88e31r0 @f88g31 fun v : Qz145 => .inl v := fun R κ again v => by kernel_rfl
theorem f88C31_1 : LF f88Q f88P 88 31 Tryz.f88 3 f88e31r0 @f88g31 fun v : Qz148 => .inr v := fun R κ again v => by kernel_rfl
theorem f88C31 : LF f88Q f88P 88 31 Tryz.f88 3 f88e31r0 @f88g31 fun t => t := (LC.sum f88C31_0 f88C31_1)
theorem f88k31 : LK f88Q f88P 88 Tryz.f88 3 := loop_okG (u := f88u31r0) (by kernel_rfl) f88v31r0 (fun R κ s => by kernel_rfl) f88C31
theorem ev88 : EV f88Q f88P 88 Tryz.f88 sg88 qz83 qz150 F_impl_reader_pool := fun x => by kernel_rfl
noncomputable def q88 : QF := ⟨88, F_impl_reader_pool, okN (n := 4) Tryz.func88 (by kernel_rfl) (by kernel_rfl) ⟨f88k5, f88k13, f88k22, f88k31, trivial⟩ ev88⟩
noncomputable def F_impl_reader_done (x : Qz83) : Option Qz85 :=
  Option.bind (bif (!x.2.2) then some (x.2.1 == ((List.length x.1 : Nat) : Int)) else some false) fun u1 => some (u1, x.1, x.2.1, x.2.2)
theorem ev89 : EV [] lpN 89 Tryz.f89 sg89 qz83 qz85 F_impl_reader_done := fun x => by kernel_rfl
noncomputable def q89 : QF := ⟨89, F_impl_reader_done, okN (n := 0) Tryz.func89 (by kernel_rfl) (by kernel_rfl) trivial ev89⟩
noncomputable def F_bytes_Equal (x : Qz1) : Option Bool :=
  some ((ByteArray.toList (textOf x.1)) == (ByteArray.toList (textOf x.2)))
theorem ev90 : EV [] lpN 90 Tryz.f90 sg90 qz1 [.bool] F_bytes_Equal := fun x => by kernel_rfl
noncomputable def q90 : QF := ⟨90, F_bytes_Equal, okN (n := 0) Tryz.func90 (by kernel_rfl) (by kernel_rfl) trivial ev90⟩
noncomputable def F_impl_GetPool (x : List E_u8) : Option Qz100 :=
  Option.bind (F_impl_reader_pool (x, (0 : Int), false)) fun r1 => Option.bind (F_impl_reader_done (r1.2.2.2.2.2.2.1, r1.2.2.2.2.2.2.2.1, r1.2.2.2.2.2.2.2.2)) fun r2 => Option.bind (bif (!r2.1) then some true else Option.bind (F_impl_PoolOk (r1.1, r1.2.1, r1.2.2.1, r1.2.2.2.1, r1.2.2.2.2.1, r1.2.2.2.2.2.1)) fun r4 => some (!r4)) fun u3 => Option.bind (bif u3 then some true else Option.bind (F_impl_PutPool (r1.1, r1.2.1, r1.2.2.1, r1.2.2.2.1, r1.2.2.2.2.1, r1.2.2.2.2.2.1)) fun r6 => Option.bind (F_bytes_Equal (r6, x)) fun r7 => some (!r7)) fun u5 => bif u5 then some (([] : List E_i64), ([] : List E_Node), ([] : List E_Age), ([] : List E_Cell), ([] : List E_Vol), (0 : Int), false) else some (r1.1, r1.2.1, r1.2.2.1, r1.2.2.2.1, r1.2.2.2.2.1, r1.2.2.2.2.2.1, true)
theorem ev28 : EV [q13, q56, q88, q89, q90] lpN 28 Tryz.f28 sg28 [(.sl 5 ts_u8)] qz100 F_impl_GetPool := fun x => by kernel_rfl
noncomputable def q28 : QF := ⟨28, F_impl_GetPool, okN (n := 0) Tryz.func28 (by kernel_rfl) (by kernel_rfl) trivial ev28⟩
abbrev T_laws_heldIntS_2 : Type := Qz151
noncomputable def S_laws_heldIntS_2 {R : Type} (k0 : Qz59 → Option R) (k1 : Int → Option R) (again : T_laws_heldIntS_2 → Option R) (t2 : T_laws_heldIntS_2) : Option R :=
  bif (decide (t2.2.2 < ((List.length t2.1 : Nat) : Int))) then if (0 : Int) ≤ t2.2.2 then if t2.2.2 < ((List.length t2.1 : Nat) : Int) then bif ((rd_i64 t2.1 t2.2.2) != t2.2.1) then k0 (t2.2.1, (-1 : Int)) else again (t2.1, (Go.IntKind.wrap .i64 (t2.2.1 + (1 : Int))), (Go.IntKind.wrap .i64 (t2.2.2 + (1 : Int)))) else none else none else k1 t2.2.1
noncomputable def L_laws_heldIntS_2 {R : Type} (k0 : Qz59 → Option R) (k1 : Int → Option R) (t : T_laws_heldIntS_2) : Option R := iter (S_laws_heldIntS_2 k0 k1) FUEL t
noncomputable def F_laws_heldIntS (x : Qz24) : Option Int :=
  L_laws_heldIntS_2 (fun x1 => some x1.2) (fun x2 => some x2) (x.1, x.2, (0 : Int))
noncomputable def f168Q : List QF := []
def f168e2_0 (t : Qz151) : St := ⟨v_i64 t.1 :: vI t.2.1 :: dd 3 (vI t.2.2 :: dd 15 []), []⟩
noncomputable def f168g2 : Gk T_laws_heldIntS_2 := fun κ => S_laws_heldIntS_2 (fun t => κ none ⟨.dead :: vI t.1 :: dd 2 (vI t.2 :: dd 16 []), []⟩) (fun t => κ (some 0) ⟨.dead :: vI t :: dd 19 [], []⟩)
noncomputable def f168P : Lp := lpC 2 (unG qz151 f168e2_0) @f168g2 lpN
theorem f168C2 : LF f168Q f168P 168 2 Tryz.f168 0 f168e2_0 @f168g2 fun t => t := fun R κ again t => by kernel_rfl
theorem f168k2 : LK f168Q f168P 168 Tryz.f168 0 := loop_okG (u := (unG qz151 f168e2_0)) (by kernel_rfl) (unG_ok fun t => by kernel_rfl) (fun R κ s => by kernel_rfl) f168C2
theorem ev168 : EV f168Q f168P 168 Tryz.f168 sg168 qz24 [(.int .i64)] F_laws_heldIntS := fun x => by kernel_rfl
noncomputable def q168 : QF := ⟨168, F_laws_heldIntS, okN (n := 1) Tryz.func168 (by kernel_rfl) (by kernel_rfl) ⟨f168k2, trivial⟩ ev168⟩
abbrev T_laws_heldKeyS_2 : Type := Qz152
noncomputable def S_laws_heldKeyS_2 {R : Type} (k0 : Qz59 → Option R) (k1 : Int → Option R) (again : T_laws_heldKeyS_2 → Option R) (t2 : T_laws_heldKeyS_2) : Option R :=
  bif (decide (t2.2.2 < ((List.length t2.1 : Nat) : Int))) then if (0 : Int) ≤ t2.2.2 then if t2.2.2 < ((List.length t2.1 : Nat) : Int) then bif ((rd_Key t2.1 t2.2.2).1 != t2.2.1) then k0 (t2.2.1, (-1 : Int)) else if (0 : Int) ≤ t2.2.2 then if t2.2.2 < ((List.length t2.1 : Nat) : Int) then bif ((rd_Key t2.1 t2.2.2).2.1 != (Go.IntKind.wrap .i64 (t2.2.1 + (1 : Int)))) then k0 ((Go.IntKind.wrap .i64 (t2.2.1 + (1 : Int))), (-1 : Int)) else if (0 : Int) ≤ t2.2.2 then if t2.2.2 < ((List.length t2.1 : Nat) : Int) then bif ((rd_Key t2.1 t2.2.2).2.2.1 != (Go.IntKind.wrap .i64 ((Go.IntKind.wrap .i64 (t2.2.1 + (1 : Int))) + (1 : Int)))) then k0 ((Go.IntKind.wrap .i64 ((Go.IntKind.wrap .i64 (t2.2.1 + (1 : Int))) + (1 : Int))), (-1 : Int)) else if (0 : Int) ≤ t2.2.2 then if t2.2.2 < ((List.length t2.1 : Nat) : Int) then bif ((rd_Key t2.1 t2.2.2).2.2.2.1 != (Go.IntKind.wrap .i64 ((Go.IntKind.wrap .i64 ((Go.IntKind.wrap .i64 (t2.2.1 + (1 : Int))) + (1 : Int))) + (1 : Int)))) then k0 ((Go.IntKind.wrap .i64 ((Go.IntKind.wrap .i64 ((Go.IntKind.wrap .i64 (t2.2.1 + (1 : Int))) + (1 : Int))) + (1 : Int))), (-1 : Int)) else if (0 : Int) ≤ t2.2.2 then if t2.2.2 < ((List.length t2.1 : Nat) : Int) then bif ((rd_Key t2.1 t2.2.2).2.2.2.2 != (Go.IntKind.wrap .i64 ((Go.IntKind.wrap .i64 ((Go.IntKind.wrap .i64 ((Go.IntKind.wrap .i64 (t2.2.1 + (1 : Int))) + (1 : Int))) + (1 : Int))) + (1 : Int)))) then k0 ((Go.IntKind.wrap .i64 ((Go.IntKind.wrap .i64 ((Go.IntKind.wrap .i64 ((Go.IntKind.wrap .i64 (t2.2.1 + (1 : Int))) + (1 : Int))) + (1 : Int))) + (1 : Int))), (-1 : Int)) else again (t2.1, (Go.IntKind.wrap .i64 ((Go.IntKind.wrap .i64 ((Go.IntKind.wrap .i64 ((Go.IntKind.wrap .i64 ((Go.IntKind.wrap .i64 (t2.2.1 + (1 : Int))) + (1 : Int))) + (1 : Int))) + (1 : Int))) + (1 : Int))), (Go.IntKind.wrap .i64 (t2.2.2 + (1 : Int)))) else none else none else none else none else none else none else none else none else none else none else k1 t2.2.1
noncomputable def L_laws_heldKeyS_2 {R : Type} (k0 : Qz59 → Option R) (k1 : Int → Option R) (t : T_laws_heldKeyS_2) : Option R := iter (S_laws_heldKeyS_2 k0 k1) FUEL t
noncomputable def F_laws_heldKeyS (x : Qz27) : Option Int :=
  L_laws_heldKeyS_2 (fun x1 => some x1.2) (fun x2 => some x2) (x.1, x.2, (0 : Int))
noncomputable def f255Q : List QF := []
def f255e2_0 (t : Qz152) : St := ⟨v_Key t.1 :: vI t.2.1 :: dd 3 (vI t.2.2 :: dd 52 []), []⟩
noncomputable def f255g2 : Gk T_laws_heldKeyS_2 := fun κ => S_laws_heldKeyS_2 (fun t => κ none ⟨.dead :: vI t.1 :: dd 2 (vI t.2 :: dd 53 []), []⟩) (fun t => κ (some 0) ⟨.dead :: vI t :: dd 56 [], []⟩)
noncomputable def f255P : Lp := lpC 2 (unG qz152 f255e2_0) @f255g2 lpN
theorem f255C2 : LF f255Q f255P 255 2 Tryz.f255 0 f255e2_0 @f255g2 fun t => t := fun R κ again t => by kernel_rfl
theorem f255k2 : LK f255Q f255P 255 Tryz.f255 0 := loop_okG (u := (unG qz152 f255e2_0)) (by kernel_rfl) (unG_ok fun t => by kernel_rfl) (fun R κ s => by kernel_rfl) f255C2
theorem ev255 : EV f255Q f255P 255 Tryz.f255 sg255 qz27 [(.int .i64)] F_laws_heldKeyS := fun x => by kernel_rfl
noncomputable def q255 : QF := ⟨255, F_laws_heldKeyS, okN (n := 1) Tryz.func255 (by kernel_rfl) (by kernel_rfl) ⟨f255k2, trivial⟩ ev255⟩
abbrev T_laws_heldKeySS_2 : Type := Qz153
noncomputable def S_laws_heldKeySS_2 {R : Type} (k0 : Qz59 → Option R) (k1 : Int → Option R) (again : T_laws_heldKeySS_2 → Option R) (t2 : T_laws_heldKeySS_2) : Option R :=
  bif (decide (t2.2.2 < ((List.length t2.1 : Nat) : Int))) then if (0 : Int) ≤ t2.2.2 then if t2.2.2 < ((List.length t2.1 : Nat) : Int) then Option.bind (F_laws_heldKeyS ((rd_s_Key t2.1 t2.2.2), t2.2.1)) fun r1 => bif (decide (r1 < (0 : Int))) then k0 (r1, (-1 : Int)) else again (t2.1, r1, (Go.IntKind.wrap .i64 (t2.2.2 + (1 : Int)))) else none else none else k1 t2.2.1
noncomputable def L_laws_heldKeySS_2 {R : Type} (k0 : Qz59 → Option R) (k1 : Int → Option R) (t : T_laws_heldKeySS_2) : Option R := iter (S_laws_heldKeySS_2 k0 k1) FUEL t
noncomputable def F_laws_heldKeySS (x : Qz30) : Option Int :=
  L_laws_heldKeySS_2 (fun x2 => some x2.2) (fun x3 => some x3) (x.1, x.2, (0 : Int))
noncomputable def f222Q : List QF := [q255]
def f222e2_0 (t : Qz153) : St := ⟨v_s_Key t.1 :: vI t.2.1 :: dd 3 (vI t.2.2 :: dd 15 []), []⟩
noncomputable def f222g2 : Gk T_laws_heldKeySS_2 := fun κ => S_laws_heldKeySS_2 (fun t => κ none ⟨.dead :: vI t.1 :: dd 2 (vI t.2 :: dd 16 []), []⟩) (fun t => κ (some 0) ⟨.dead :: vI t :: dd 19 [], []⟩)
noncomputable def f222P : Lp := lpC 2 (unG qz153 f222e2_0) @f222g2 lpN
theorem f222C2 : LF f222Q f222P 222 2 Tryz.f222 0 f222e2_0 @f222g2 fun t => t := fun R κ again t => by kernel_rfl
theorem f222k2 : LK f222Q f222P 222 Tryz.f222 0 := loop_okG (u := (unG qz153 f222e2_0)) (by kernel_rfl) (unG_ok fun t => by kernel_rfl) (fun R κ s => by kernel_rfl) f222C2
theorem ev222 : EV f222Q f222P 222 Tryz.f222 sg222 qz30 [(.int .i64)] F_laws_heldKeySS := fun x => by kernel_rfl
noncomputable def q222 : QF := ⟨222, F_laws_heldKeySS, okN (n := 1) Tryz.func222 (by kernel_rfl) (by kernel_rfl) ⟨f222k2, trivial⟩ ev222⟩
abbrev T_laws_heldNodeS_2 : Type := Qz154
noncomputable def S_laws_heldNodeS_2 {R : Type} (k0 : Qz59 → Option R) (k1 : Int → Option R) (again : T_laws_heldNodeS_2 → Option R) (t2 : T_laws_heldNodeS_2) : Option R :=
  bif (decide (t2.2.2 < ((List.length t2.1 : Nat) : Int))) then if (0 : Int) ≤ t2.2.2 then if t2.2.2 < ((List.length t2.1 : Nat) : Int) then Option.bind (F_laws_heldKeySS ((rd_Node t2.1 t2.2.2), t2.2.1)) fun r1 => bif (decide (r1 < (0 : Int))) then k0 (r1, (-1 : Int)) else again (t2.1, r1, (Go.IntKind.wrap .i64 (t2.2.2 + (1 : Int)))) else none else none else k1 t2.2.1
noncomputable def L_laws_heldNodeS_2 {R : Type} (k0 : Qz59 → Option R) (k1 : Int → Option R) (t : T_laws_heldNodeS_2) : Option R := iter (S_laws_heldNodeS_2 k0 k1) FUEL t
noncomputable def F_laws_heldNodeS (x : Qz33) : Option Int :=
  L_laws_heldNodeS_2 (fun x2 => some x2.2) (fun x3 => some x3) (x.1, x.2, (0 : Int))
noncomputable def f169Q : List QF := [q222]
def f169e2_0 (t : Qz154) : St := ⟨v_Node t.1 :: vI t.2.1 :: dd 3 (vI t.2.2 :: dd 16 []), []⟩
noncomputable def f169g2 : Gk T_laws_heldNodeS_2 := fun κ => S_laws_heldNodeS_2 (fun t => κ none ⟨.dead :: vI t.1 :: dd 2 (vI t.2 :: dd 17 []), []⟩) (fun t => κ (some 0) ⟨.dead :: vI t :: dd 20 [], []⟩)
noncomputable def f169P : Lp := lpC 2 (unG qz154 f169e2_0) @f169g2 lpN
theorem f169C2 : LF f169Q f169P 169 2 Tryz.f169 0 f169e2_0 @f169g2 fun t => t := fun R κ again t => by kernel_rfl
theorem f169k2 : LK f169Q f169P 169 Tryz.f169 0 := loop_okG (u := (unG qz154 f169e2_0)) (by kernel_rfl) (unG_ok fun t => by kernel_rfl) (fun R κ s => by kernel_rfl) f169C2
theorem ev169 : EV f169Q f169P 169 Tryz.f169 sg169 qz33 [(.int .i64)] F_laws_heldNodeS := fun x => by kernel_rfl
noncomputable def q169 : QF := ⟨169, F_laws_heldNodeS, okN (n := 1) Tryz.func169 (by kernel_rfl) (by kernel_rfl) ⟨f169k2, trivial⟩ ev169⟩
noncomputable def F_laws_heldTree (x : Qz34) : Option Int :=
  Option.bind (F_laws_heldIntS (x.1, x.2.2)) fun r1 => bif (decide (r1 < (0 : Int))) then some (-1 : Int) else Option.bind (F_laws_heldNodeS (x.2.1, r1)) fun r2 => bif (decide (r2 < (0 : Int))) then some (-1 : Int) else some r2
theorem ev91 : EV [q168, q169] lpN 91 Tryz.f91 sg91 qz34 [(.int .i64)] F_laws_heldTree := fun x => by kernel_rfl
noncomputable def q91 : QF := ⟨91, F_laws_heldTree, okN (n := 0) Tryz.func91 (by kernel_rfl) (by kernel_rfl) trivial ev91⟩
abbrev T_laws_heldAgeS_2 : Type := Qz67
noncomputable def S_laws_heldAgeS_2 {R : Type} (k0 : Qz59 → Option R) (k1 : Int → Option R) (again : T_laws_heldAgeS_2 → Option R) (t2 : T_laws_heldAgeS_2) : Option R :=
  bif (decide (t2.2.2 < ((List.length t2.1 : Nat) : Int))) then if (0 : Int) ≤ t2.2.2 then if t2.2.2 < ((List.length t2.1 : Nat) : Int) then bif ((rd_Age t2.1 t2.2.2).1 != t2.2.1) then k0 (t2.2.1, (-1 : Int)) else if (0 : Int) ≤ t2.2.2 then if t2.2.2 < ((List.length t2.1 : Nat) : Int) then bif ((rd_Age t2.1 t2.2.2).2 != (Go.IntKind.wrap .i64 (t2.2.1 + (1 : Int)))) then k0 ((Go.IntKind.wrap .i64 (t2.2.1 + (1 : Int))), (-1 : Int)) else again (t2.1, (Go.IntKind.wrap .i64 ((Go.IntKind.wrap .i64 (t2.2.1 + (1 : Int))) + (1 : Int))), (Go.IntKind.wrap .i64 (t2.2.2 + (1 : Int)))) else none else none else none else none else k1 t2.2.1
noncomputable def L_laws_heldAgeS_2 {R : Type} (k0 : Qz59 → Option R) (k1 : Int → Option R) (t : T_laws_heldAgeS_2) : Option R := iter (S_laws_heldAgeS_2 k0 k1) FUEL t
noncomputable def F_laws_heldAgeS (x : Qz38) : Option Int :=
  L_laws_heldAgeS_2 (fun x1 => some x1.2) (fun x2 => some x2) (x.1, x.2, (0 : Int))
noncomputable def f92Q : List QF := []
def f92e2_0 (t : Qz67) : St := ⟨v_Age t.1 :: vI t.2.1 :: dd 3 (vI t.2.2 :: dd 25 []), []⟩
noncomputable def f92g2 : Gk T_laws_heldAgeS_2 := fun κ => S_laws_heldAgeS_2 (fun t => κ none ⟨.dead :: vI t.1 :: dd 2 (vI t.2 :: dd 26 []), []⟩) (fun t => κ (some 0) ⟨.dead :: vI t :: dd 29 [], []⟩)
noncomputable def f92P : Lp := lpC 2 (unG qz67 f92e2_0) @f92g2 lpN
theorem f92C2 : LF f92Q f92P 92 2 Tryz.f92 0 f92e2_0 @f92g2 fun t => t := fun R κ again t => by kernel_rfl
theorem f92k2 : LK f92Q f92P 92 Tryz.f92 0 := loop_okG (u := (unG qz67 f92e2_0)) (by kernel_rfl) (unG_ok fun t => by kernel_rfl) (fun R κ s => by kernel_rfl) f92C2
theorem ev92 : EV f92Q f92P 92 Tryz.f92 sg92 qz38 [(.int .i64)] F_laws_heldAgeS := fun x => by kernel_rfl
noncomputable def q92 : QF := ⟨92, F_laws_heldAgeS, okN (n := 1) Tryz.func92 (by kernel_rfl) (by kernel_rfl) ⟨f92k2, trivial⟩ ev92⟩
abbrev T_laws_heldCellS_2 : Type := Qz78
noncomputable def S_laws_heldCellS_2 {R : Type} (k0 : Qz59 → Option R) (k1 : Int → Option R) (again : T_laws_heldCellS_2 → Option R) (t2 : T_laws_heldCellS_2) : Option R :=
  bif (decide (t2.2.2 < ((List.length t2.1 : Nat) : Int))) then if (0 : Int) ≤ t2.2.2 then if t2.2.2 < ((List.length t2.1 : Nat) : Int) then bif ((rd_Cell t2.1 t2.2.2).1 != t2.2.1) then k0 (t2.2.1, (-1 : Int)) else if (0 : Int) ≤ t2.2.2 then if t2.2.2 < ((List.length t2.1 : Nat) : Int) then bif (!((rd_Cell t2.1 t2.2.2).2.1 == ((Int.tmod (Go.IntKind.wrap .i64 (t2.2.1 + (1 : Int))) (3 : Int)) == (0 : Int)))) then k0 ((Go.IntKind.wrap .i64 (t2.2.1 + (1 : Int))), (-1 : Int)) else if (0 : Int) ≤ t2.2.2 then if t2.2.2 < ((List.length t2.1 : Nat) : Int) then bif ((rd_Cell t2.1 t2.2.2).2.2 != (Go.IntKind.wrap .i64 ((Go.IntKind.wrap .i64 (t2.2.1 + (1 : Int))) + (1 : Int)))) then k0 ((Go.IntKind.wrap .i64 ((Go.IntKind.wrap .i64 (t2.2.1 + (1 : Int))) + (1 : Int))), (-1 : Int)) else again (t2.1, (Go.IntKind.wrap .i64 ((Go.IntKind.wrap .i64 ((Go.IntKind.wrap .i64 (t2.2.1 + (1 : Int))) + (1 : Int))) + (1 : Int))), (Go.IntKind.wrap .i64 (t2.2.2 + (1 : Int)))) else none else none else none else none else none else none else k1 t2.2.1
noncomputable def L_laws_heldCellS_2 {R : Type} (k0 : Qz59 → Option R) (k1 : Int → Option R) (t : T_laws_heldCellS_2) : Option R := iter (S_laws_heldCellS_2 k0 k1) FUEL t
noncomputable def F_laws_heldCellS (x : Qz41) : Option Int :=
  L_laws_heldCellS_2 (fun x1 => some x1.2) (fun x2 => some x2) (x.1, x.2, (0 : Int))
noncomputable def f93Q : List QF := []
def f93e2_0 (t : Qz78) : St := ⟨v_Cell t.1 :: vI t.2.1 :: dd 3 (vI t.2.2 :: dd 36 []), []⟩
noncomputable def f93g2 : Gk T_laws_heldCellS_2 := fun κ => S_laws_heldCellS_2 (fun t => κ none ⟨.dead :: vI t.1 :: dd 2 (vI t.2 :: dd 37 []), []⟩) (fun t => κ (some 0) ⟨.dead :: vI t :: dd 40 [], []⟩)
noncomputable def f93P : Lp := lpC 2 (unG qz78 f93e2_0) @f93g2 lpN
theorem f93C2 : LF f93Q f93P 93 2 Tryz.f93 0 f93e2_0 @f93g2 fun t => t := fun R κ again t => by kernel_rfl
theorem f93k2 : LK f93Q f93P 93 Tryz.f93 0 := loop_okG (u := (unG qz78 f93e2_0)) (by kernel_rfl) (unG_ok fun t => by kernel_rfl) (fun R κ s => by kernel_rfl) f93C2
theorem ev93 : EV f93Q f93P 93 Tryz.f93 sg93 qz41 [(.int .i64)] F_laws_heldCellS := fun x => by kernel_rfl
noncomputable def q93 : QF := ⟨93, F_laws_heldCellS, okN (n := 1) Tryz.func93 (by kernel_rfl) (by kernel_rfl) ⟨f93k2, trivial⟩ ev93⟩
abbrev T_laws_heldVolS_2 : Type := Qz155
noncomputable def S_laws_heldVolS_2 {R : Type} (k0 : Qz59 → Option R) (k1 : Int → Option R) (again : T_laws_heldVolS_2 → Option R) (t2 : T_laws_heldVolS_2) : Option R :=
  bif (decide (t2.2.2 < ((List.length t2.1 : Nat) : Int))) then if (0 : Int) ≤ t2.2.2 then if t2.2.2 < ((List.length t2.1 : Nat) : Int) then Option.bind (F_laws_markText t2.2.1) fun r1 => bif (!((ByteArray.toList ((rd_Vol t2.1 t2.2.2).1)) == (ByteArray.toList r1))) then k0 (t2.2.1, (-1 : Int)) else if (0 : Int) ≤ t2.2.2 then if t2.2.2 < ((List.length t2.1 : Nat) : Int) then bif ((rd_Vol t2.1 t2.2.2).2.1 != (Go.IntKind.wrap .i64 (t2.2.1 + (1 : Int)))) then k0 ((Go.IntKind.wrap .i64 (t2.2.1 + (1 : Int))), (-1 : Int)) else if (0 : Int) ≤ t2.2.2 then if t2.2.2 < ((List.length t2.1 : Nat) : Int) then bif ((rd_Vol t2.1 t2.2.2).2.2.1 != (Go.IntKind.wrap .i64 ((Go.IntKind.wrap .i64 (t2.2.1 + (1 : Int))) + (1 : Int)))) then k0 ((Go.IntKind.wrap .i64 ((Go.IntKind.wrap .i64 (t2.2.1 + (1 : Int))) + (1 : Int))), (-1 : Int)) else if (0 : Int) ≤ t2.2.2 then if t2.2.2 < ((List.length t2.1 : Nat) : Int) then bif (!((rd_Vol t2.1 t2.2.2).2.2.2 == ((Int.tmod (Go.IntKind.wrap .i64 ((Go.IntKind.wrap .i64 ((Go.IntKind.wrap .i64 (t2.2.1 + (1 : Int))) + (1 : Int))) + (1 : Int))) (3 : Int)) == (0 : Int)))) then k0 ((Go.IntKind.wrap .i64 ((Go.IntKind.wrap .i64 ((Go.IntKind.wrap .i64 (t2.2.1 + (1 : Int))) + (1 : Int))) + (1 : Int))), (-1 : Int)) else again (t2.1, (Go.IntKind.wrap .i64 ((Go.IntKind.wrap .i64 ((Go.IntKind.wrap .i64 ((Go.IntKind.wrap .i64 (t2.2.1 + (1 : Int))) + (1 : Int))) + (1 : Int))) + (1 : Int))), (Go.IntKind.wrap .i64 (t2.2.2 + (1 : Int)))) else none else none else none else none else none else none else none else none else k1 t2.2.1
noncomputable def L_laws_heldVolS_2 {R : Type} (k0 : Qz59 → Option R) (k1 : Int → Option R) (t : T_laws_heldVolS_2) : Option R := iter (S_laws_heldVolS_2 k0 k1) FUEL t
noncomputable def F_laws_heldVolS (x : Qz45) : Option Int :=
  L_laws_heldVolS_2 (fun x2 => some x2.2) (fun x3 => some x3) (x.1, x.2, (0 : Int))
noncomputable def f94Q : List QF := [q146]
def f94e2_0 (t : Qz155) : St := ⟨v_Vol t.1 :: vI t.2.1 :: dd 3 (vI t.2.2 :: dd 46 []), []⟩
noncomputable def f94g2 : Gk T_laws_heldVolS_2 := fun κ => S_laws_heldVolS_2 (fun t => κ none ⟨.dead :: vI t.1 :: dd 2 (vI t.2 :: dd 47 []), []⟩) (fun t => κ (some 0) ⟨.dead :: vI t :: dd 50 [], []⟩)
noncomputable def f94P : Lp := lpC 2 (unG qz155 f94e2_0) @f94g2 lpN
theorem f94C2 : LF f94Q f94P 94 2 Tryz.f94 0 f94e2_0 @f94g2 fun t => t := fun R κ again t => by kernel_rfl
theorem f94k2 : LK f94Q f94P 94 Tryz.f94 0 := loop_okG (u := (unG qz155 f94e2_0)) (by kernel_rfl) (unG_ok fun t => by kernel_rfl) (fun R κ s => by kernel_rfl) f94C2
theorem ev94 : EV f94Q f94P 94 Tryz.f94 sg94 qz45 [(.int .i64)] F_laws_heldVolS := fun x => by kernel_rfl
noncomputable def q94 : QF := ⟨94, F_laws_heldVolS, okN (n := 1) Tryz.func94 (by kernel_rfl) (by kernel_rfl) ⟨f94k2, trivial⟩ ev94⟩
noncomputable def F_laws_heldPool (x : Qz46) : Option Int :=
  Option.bind (F_laws_heldTree (x.1, x.2.1, x.2.2.2.2.2.2)) fun r1 => bif (decide (r1 < (0 : Int))) then some (-1 : Int) else Option.bind (F_laws_heldAgeS (x.2.2.1, r1)) fun r2 => bif (decide (r2 < (0 : Int))) then some (-1 : Int) else Option.bind (F_laws_heldCellS (x.2.2.2.1, r2)) fun r3 => bif (decide (r3 < (0 : Int))) then some (-1 : Int) else Option.bind (F_laws_heldVolS (x.2.2.2.2.1, r3)) fun r4 => bif (decide (r4 < (0 : Int))) then some (-1 : Int) else some r4
theorem ev29 : EV [q91, q92, q93, q94] lpN 29 Tryz.f29 sg29 qz46 [(.int .i64)] F_laws_heldPool := fun x => by kernel_rfl
noncomputable def q29 : QF := ⟨29, F_laws_heldPool, okN (n := 0) Tryz.func29 (by kernel_rfl) (by kernel_rfl) trivial ev29⟩
noncomputable def F_laws_FnExactGetPool (x : List E_u8) : Option Bool :=
  bif (decide (((List.length x : Nat) : Int) > (1048576 : Int))) then some true else Option.bind (F_laws_toByteS x) fun r1 => Option.bind (F_spec_GetPool r1) fun r2 => Option.bind (F_laws_toByteS x) fun r3 => Option.bind (F_impl_GetPool r3) fun r4 => Option.bind (F_laws_eqPool (r4.1, r4.2.1, r4.2.2.1, r4.2.2.2.1, r4.2.2.2.2.1, r4.2.2.2.2.2.1, r2.1, r2.2.1, r2.2.2.1, r2.2.2.2.1, r2.2.2.2.2.1, r2.2.2.2.2.2.1)) fun r5 => Option.bind (bif (!r5) then some true else some (!(r4.2.2.2.2.2.2 == r2.2.2.2.2.2.2))) fun u6 => bif u6 then some false else Option.bind (F_laws_toByteS x) fun r7 => Option.bind (F_laws_eqByteS (r3, r7)) fun r8 => bif (!r8) then some false else Option.bind (F_laws_markByteS (r3, (1 : Int))) fun r9 => Option.bind (bif (decide (r9.1 < (0 : Int))) then some true else Option.bind (F_laws_eqPool (r4.1, r4.2.1, r4.2.2.1, r4.2.2.2.1, r4.2.2.2.2.1, r4.2.2.2.2.2.1, r2.1, r2.2.1, r2.2.2.1, r2.2.2.2.1, r2.2.2.2.2.1, r2.2.2.2.2.2.1)) fun r11 => some (!r11)) fun u10 => Option.bind (bif u10 then some true else some (!(r4.2.2.2.2.2.2 == r2.2.2.2.2.2.2))) fun u12 => bif u12 then some false else Option.bind (F_laws_markPool (r4.1, r4.2.1, r4.2.2.1, r4.2.2.2.1, r4.2.2.2.2.1, r4.2.2.2.2.2.1, (1 : Int))) fun r13 => Option.bind (F_laws_heldPool (r13.2.1, r13.2.2.1, r13.2.2.2.1, r13.2.2.2.2.1, r13.2.2.2.2.2, r4.2.2.2.2.2.1, (1 : Int))) fun r14 => bif (decide (r14 < (0 : Int))) then some false else bif (r14 != r13.1) then some false else Option.bind (F_laws_toByteS x) fun r15 => Option.bind (F_impl_GetPool r15) fun r16 => Option.bind (F_laws_eqPool (r16.1, r16.2.1, r16.2.2.1, r16.2.2.2.1, r16.2.2.2.2.1, r16.2.2.2.2.2.1, r2.1, r2.2.1, r2.2.2.1, r2.2.2.2.1, r2.2.2.2.2.1, r2.2.2.2.2.2.1)) fun r17 => Option.bind (bif (!r17) then some true else some (!(r16.2.2.2.2.2.2 == r2.2.2.2.2.2.2))) fun u18 => bif u18 then some false else Option.bind (F_laws_heldPool (r13.2.1, r13.2.2.1, r13.2.2.2.1, r13.2.2.2.2.1, r13.2.2.2.2.2, r4.2.2.2.2.2.1, (1 : Int))) fun r19 => bif (decide (r19 < (0 : Int))) then some false else bif (r19 != r13.1) then some false else some true
theorem ev5 : EV [q14, q15, q16, q17, q26, q27, q28, q29] lpN 5 Tryz.f5 sg5 [(.sl 5 ts_u8)] [.bool] F_laws_FnExactGetPool := fun x => by kernel_rfl
noncomputable def q5 : QF := ⟨5, F_laws_FnExactGetPool, okN (n := 0) Tryz.func5 (by kernel_rfl) (by kernel_rfl) trivial ev5⟩
end Go.Proofs.YtmapoakbdgpamaaGreat.XK
