/- What functions compute, and that they do; part 0 of M; by a program (dec.py). No condition. -/
import Derived.Test.YtmapoakbdgpamaaGreatXM
set_option linter.all false
namespace Go.Proofs.YtmapoakbdgpamaaGreat.XM
open Go.Proofs.YtmapoakbdgpamaaGreat.R
set_option maxRecDepth 100000
noncomputable section
variable {R : Type}
abbrev T_laws_eqIntS_4 : Type := Qz0
def S_laws_eqIntS_4 (k0 : Bool → Option R) (k1 : Unit → Option R) (again : T_laws_eqIntS_4 → Option R) (t4 : T_laws_eqIntS_4) : Option R :=
 bif (decide (t4.2.2 < ((List.length t4.1 : Nat) : Int))) then if (0 : Int) ≤ t4.2.2 then if t4.2.2 < ((List.length t4.1 : Nat) : Int) then if (0 : Int) ≤ t4.2.2 then if t4.2.2 < ((List.length t4.2.1 : Nat) : Int) then bif ((rd_i64 t4.1 t4.2.2) != (rd_i64 t4.2.1 t4.2.2)) then k0 false else again (t4.1, t4.2.1, (Go.IntKind.wrap .i64 (t4.2.2 + (1 : Int)))) else none else none else none else none else k1 ()
def L_laws_eqIntS_4 k0 k1 := iter (@S_laws_eqIntS_4 R k0 k1) FUEL
def F_laws_eqIntS (x : Qz1) : Option Bool :=
 bif (((List.length x.1 : Nat) : Int) != ((List.length x.2 : Nat) : Int)) then some false else L_laws_eqIntS_4 (fun x1 => some x1) (fun x2 => some true) (x.1, x.2, (0 : Int))
def f139Q : List QF := []
def f139e4_0 (t : Qz0) : St := ⟨v_i64 t.1 :: v_i64 t.2.1 :: dd 3 (vI t.2.2 :: dd 20 []), []⟩
def f139g4 : Gk T_laws_eqIntS_4 := fun κ => S_laws_eqIntS_4 (fun t => κ none ⟨dd 4 (vB t :: dd 21 []), []⟩) (fun t => κ (some 0) ⟨dd 26 [], []⟩)
def f139P : Lp := lpC 4 (unG qz0 f139e4_0) @f139g4 lpN
theorem f139C4 : LF f139Q f139P 139 4 Tryz.f139 0 f139e4_0 @f139g4 fun t => t := fun R κ again t => by kernel_rfl
theorem f139k4 : LK f139Q f139P 139 Tryz.f139 0 := lkN (u := (unG qz0 f139e4_0)) (unG_ok fun t => by kernel_rfl) f139C4
theorem ev139 : EV f139Q f139P 139 Tryz.f139 sg139 qz1 [.bool] F_laws_eqIntS := fun x => by kernel_rfl
def q139 : QF := ⟨139, F_laws_eqIntS, okN (n := 1) Tryz.func139 ⟨f139k4, trivial⟩ ev139⟩
def F_laws_eqKey (x : Qz2) : Option Bool :=
 bif (x.1 != x.2.2.2.2.2.1) then some false else bif (x.2.1 != x.2.2.2.2.2.2.1) then some false else bif (x.2.2.1 != x.2.2.2.2.2.2.2.1) then some false else bif (x.2.2.2.1 != x.2.2.2.2.2.2.2.2.1) then some false else bif (x.2.2.2.2.1 != x.2.2.2.2.2.2.2.2.2) then some false else some true
theorem ev303 : EV [] lpN 303 Tryz.f303 sg303 qz2 [.bool] F_laws_eqKey := fun x => by kernel_rfl
def q303 : QF := ⟨303, F_laws_eqKey, okN (n := 0) Tryz.func303 trivial ev303⟩
abbrev T_laws_eqKeyS_4 : Type := Qz3
def S_laws_eqKeyS_4 (k0 : Bool → Option R) (k1 : Unit → Option R) (again : T_laws_eqKeyS_4 → Option R) (t4 : T_laws_eqKeyS_4) : Option R :=
 bif (decide (t4.2.2 < ((List.length t4.1 : Nat) : Int))) then if (0 : Int) ≤ t4.2.2 then if t4.2.2 < ((List.length t4.1 : Nat) : Int) then if (0 : Int) ≤ t4.2.2 then if t4.2.2 < ((List.length t4.2.1 : Nat) : Int) then Option.bind (F_laws_eqKey ((rd_Key t4.1 t4.2.2).1, (rd_Key t4.1 t4.2.2).2.1, (rd_Key t4.1 t4.2.2).2.2.1, (rd_Key t4.1 t4.2.2).2.2.2.1, (rd_Key t4.1 t4.2.2).2.2.2.2, (rd_Key t4.2.1 t4.2.2).1, (rd_Key t4.2.1 t4.2.2).2.1, (rd_Key t4.2.1 t4.2.2).2.2.1, (rd_Key t4.2.1 t4.2.2).2.2.2.1, (rd_Key t4.2.1 t4.2.2).2.2.2.2)) fun r1 => bif (!r1) then k0 false else again (t4.1, t4.2.1, (Go.IntKind.wrap .i64 (t4.2.2 + (1 : Int)))) else none else none else none else none else k1 ()
def L_laws_eqKeyS_4 k0 k1 := iter (@S_laws_eqKeyS_4 R k0 k1) FUEL
def F_laws_eqKeyS (x : Qz4) : Option Bool :=
 bif (((List.length x.1 : Nat) : Int) != ((List.length x.2 : Nat) : Int)) then some false else L_laws_eqKeyS_4 (fun x2 => some x2) (fun x3 => some true) (x.1, x.2, (0 : Int))
def f282Q : List QF := [q303]
def f282e4_0 (t : Qz3) : St := ⟨v_Key t.1 :: v_Key t.2.1 :: dd 3 (vI t.2.2 :: dd 21 []), []⟩
def f282g4 : Gk T_laws_eqKeyS_4 := fun κ => S_laws_eqKeyS_4 (fun t => κ none ⟨dd 4 (vB t :: dd 22 []), []⟩) (fun t => κ (some 0) ⟨dd 27 [], []⟩)
def f282P : Lp := lpC 4 (unG qz3 f282e4_0) @f282g4 lpN
theorem f282C4 : LF f282Q f282P 282 4 Tryz.f282 0 f282e4_0 @f282g4 fun t => t := fun R κ again t => by kernel_rfl
theorem f282k4 : LK f282Q f282P 282 Tryz.f282 0 := lkN (u := (unG qz3 f282e4_0)) (unG_ok fun t => by kernel_rfl) f282C4
theorem ev282 : EV f282Q f282P 282 Tryz.f282 sg282 qz4 [.bool] F_laws_eqKeyS := fun x => by kernel_rfl
def q282 : QF := ⟨282, F_laws_eqKeyS, okN (n := 1) Tryz.func282 ⟨f282k4, trivial⟩ ev282⟩
abbrev T_laws_eqKeySS_4 : Type := Qz5
def S_laws_eqKeySS_4 (k0 : Bool → Option R) (k1 : Unit → Option R) (again : T_laws_eqKeySS_4 → Option R) (t4 : T_laws_eqKeySS_4) : Option R :=
 bif (decide (t4.2.2 < ((List.length t4.1 : Nat) : Int))) then if (0 : Int) ≤ t4.2.2 then if t4.2.2 < ((List.length t4.1 : Nat) : Int) then if (0 : Int) ≤ t4.2.2 then if t4.2.2 < ((List.length t4.2.1 : Nat) : Int) then Option.bind (F_laws_eqKeyS ((rd_s_Key t4.1 t4.2.2), (rd_s_Key t4.2.1 t4.2.2))) fun r1 => bif (!r1) then k0 false else again (t4.1, t4.2.1, (Go.IntKind.wrap .i64 (t4.2.2 + (1 : Int)))) else none else none else none else none else k1 ()
def L_laws_eqKeySS_4 k0 k1 := iter (@S_laws_eqKeySS_4 R k0 k1) FUEL
def F_laws_eqKeySS (x : Qz6) : Option Bool :=
 bif (((List.length x.1 : Nat) : Int) != ((List.length x.2 : Nat) : Int)) then some false else L_laws_eqKeySS_4 (fun x2 => some x2) (fun x3 => some true) (x.1, x.2, (0 : Int))
def f253Q : List QF := [q282]
def f253e4_0 (t : Qz5) : St := ⟨v_s_Key t.1 :: v_s_Key t.2.1 :: dd 3 (vI t.2.2 :: dd 21 []), []⟩
def f253g4 : Gk T_laws_eqKeySS_4 := fun κ => S_laws_eqKeySS_4 (fun t => κ none ⟨dd 4 (vB t :: dd 22 []), []⟩) (fun t => κ (some 0) ⟨dd 27 [], []⟩)
def f253P : Lp := lpC 4 (unG qz5 f253e4_0) @f253g4 lpN
theorem f253C4 : LF f253Q f253P 253 4 Tryz.f253 0 f253e4_0 @f253g4 fun t => t := fun R κ again t => by kernel_rfl
theorem f253k4 : LK f253Q f253P 253 Tryz.f253 0 := lkN (u := (unG qz5 f253e4_0)) (unG_ok fun t => by kernel_rfl) f253C4
theorem ev253 : EV f253Q f253P 253 Tryz.f253 sg253 qz6 [.bool] F_laws_eqKeySS := fun x => by kernel_rfl
def q253 : QF := ⟨253, F_laws_eqKeySS, okN (n := 1) Tryz.func253 ⟨f253k4, trivial⟩ ev253⟩
def F_laws_eqNode (x : Qz6) : Option Bool :=
 Option.bind (F_laws_eqKeySS (x.1, x.2)) fun r1 => bif (!r1) then some false else some true
theorem ev216 : EV [q253] lpN 216 Tryz.f216 sg216 qz6 [.bool] F_laws_eqNode := fun x => by kernel_rfl
def q216 : QF := ⟨216, F_laws_eqNode, okN (n := 0) Tryz.func216 trivial ev216⟩
abbrev T_laws_eqNodeS_4 : Type := Qz7
def S_laws_eqNodeS_4 (k0 : Bool → Option R) (k1 : Unit → Option R) (again : T_laws_eqNodeS_4 → Option R) (t4 : T_laws_eqNodeS_4) : Option R :=
 bif (decide (t4.2.2 < ((List.length t4.1 : Nat) : Int))) then if (0 : Int) ≤ t4.2.2 then if t4.2.2 < ((List.length t4.1 : Nat) : Int) then if (0 : Int) ≤ t4.2.2 then if t4.2.2 < ((List.length t4.2.1 : Nat) : Int) then Option.bind (F_laws_eqNode ((rd_Node t4.1 t4.2.2), (rd_Node t4.2.1 t4.2.2))) fun r1 => bif (!r1) then k0 false else again (t4.1, t4.2.1, (Go.IntKind.wrap .i64 (t4.2.2 + (1 : Int)))) else none else none else none else none else k1 ()
def L_laws_eqNodeS_4 k0 k1 := iter (@S_laws_eqNodeS_4 R k0 k1) FUEL
def F_laws_eqNodeS (x : Qz8) : Option Bool :=
 bif (((List.length x.1 : Nat) : Int) != ((List.length x.2 : Nat) : Int)) then some false else L_laws_eqNodeS_4 (fun x2 => some x2) (fun x3 => some true) (x.1, x.2, (0 : Int))
def f140Q : List QF := [q216]
def f140e4_0 (t : Qz7) : St := ⟨v_Node t.1 :: v_Node t.2.1 :: dd 3 (vI t.2.2 :: dd 21 []), []⟩
def f140g4 : Gk T_laws_eqNodeS_4 := fun κ => S_laws_eqNodeS_4 (fun t => κ none ⟨dd 4 (vB t :: dd 22 []), []⟩) (fun t => κ (some 0) ⟨dd 27 [], []⟩)
def f140P : Lp := lpC 4 (unG qz7 f140e4_0) @f140g4 lpN
theorem f140C4 : LF f140Q f140P 140 4 Tryz.f140 0 f140e4_0 @f140g4 fun t => t := fun R κ again t => by kernel_rfl
theorem f140k4 : LK f140Q f140P 140 Tryz.f140 0 := lkN (u := (unG qz7 f140e4_0)) (unG_ok fun t => by kernel_rfl) f140C4
theorem ev140 : EV f140Q f140P 140 Tryz.f140 sg140 qz8 [.bool] F_laws_eqNodeS := fun x => by kernel_rfl
def q140 : QF := ⟨140, F_laws_eqNodeS, okN (n := 1) Tryz.func140 ⟨f140k4, trivial⟩ ev140⟩
def F_laws_eqTree (x : Qz9) : Option Bool :=
 Option.bind (F_laws_eqIntS (x.1, x.2.2.1)) fun r1 => bif (!r1) then some false else Option.bind (F_laws_eqNodeS (x.2.1, x.2.2.2)) fun r2 => bif (!r2) then some false else some true
theorem ev61 : EV [q139, q140] lpN 61 Tryz.f61 sg61 qz9 [.bool] F_laws_eqTree := fun x => by kernel_rfl
def q61 : QF := ⟨61, F_laws_eqTree, okN (n := 0) Tryz.func61 trivial ev61⟩
def F_laws_eqAge (x : Qz10) : Option Bool :=
 bif (x.1 != x.2.2.1) then some false else bif (x.2.1 != x.2.2.2) then some false else some true
theorem ev141 : EV [] lpN 141 Tryz.f141 sg141 qz10 [.bool] F_laws_eqAge := fun x => by kernel_rfl
def q141 : QF := ⟨141, F_laws_eqAge, okN (n := 0) Tryz.func141 trivial ev141⟩
abbrev T_laws_eqAgeS_4 : Type := Qz11
def S_laws_eqAgeS_4 (k0 : Bool → Option R) (k1 : Unit → Option R) (again : T_laws_eqAgeS_4 → Option R) (t4 : T_laws_eqAgeS_4) : Option R :=
 bif (decide (t4.2.2 < ((List.length t4.1 : Nat) : Int))) then if (0 : Int) ≤ t4.2.2 then if t4.2.2 < ((List.length t4.1 : Nat) : Int) then if (0 : Int) ≤ t4.2.2 then if t4.2.2 < ((List.length t4.2.1 : Nat) : Int) then Option.bind (F_laws_eqAge ((rd_Age t4.1 t4.2.2).1, (rd_Age t4.1 t4.2.2).2, (rd_Age t4.2.1 t4.2.2).1, (rd_Age t4.2.1 t4.2.2).2)) fun r1 => bif (!r1) then k0 false else again (t4.1, t4.2.1, (Go.IntKind.wrap .i64 (t4.2.2 + (1 : Int)))) else none else none else none else none else k1 ()
def L_laws_eqAgeS_4 k0 k1 := iter (@S_laws_eqAgeS_4 R k0 k1) FUEL
def F_laws_eqAgeS (x : Qz12) : Option Bool :=
 bif (((List.length x.1 : Nat) : Int) != ((List.length x.2 : Nat) : Int)) then some false else L_laws_eqAgeS_4 (fun x2 => some x2) (fun x3 => some true) (x.1, x.2, (0 : Int))
def f62Q : List QF := [q141]
def f62e4_0 (t : Qz11) : St := ⟨v_Age t.1 :: v_Age t.2.1 :: dd 3 (vI t.2.2 :: dd 21 []), []⟩
def f62g4 : Gk T_laws_eqAgeS_4 := fun κ => S_laws_eqAgeS_4 (fun t => κ none ⟨dd 4 (vB t :: dd 22 []), []⟩) (fun t => κ (some 0) ⟨dd 27 [], []⟩)
def f62P : Lp := lpC 4 (unG qz11 f62e4_0) @f62g4 lpN
theorem f62C4 : LF f62Q f62P 62 4 Tryz.f62 0 f62e4_0 @f62g4 fun t => t := fun R κ again t => by kernel_rfl
theorem f62k4 : LK f62Q f62P 62 Tryz.f62 0 := lkN (u := (unG qz11 f62e4_0)) (unG_ok fun t => by kernel_rfl) f62C4
theorem ev62 : EV f62Q f62P 62 Tryz.f62 sg62 qz12 [.bool] F_laws_eqAgeS := fun x => by kernel_rfl
def q62 : QF := ⟨62, F_laws_eqAgeS, okN (n := 1) Tryz.func62 ⟨f62k4, trivial⟩ ev62⟩
def F_laws_eqCell (x : Qz13) : Option Bool :=
 bif (x.1 != x.2.2.2.1) then some false else bif (!(x.2.1 == x.2.2.2.2.1)) then some false else bif (x.2.2.1 != x.2.2.2.2.2) then some false else some true
theorem ev142 : EV [] lpN 142 Tryz.f142 sg142 qz13 [.bool] F_laws_eqCell := fun x => by kernel_rfl
def q142 : QF := ⟨142, F_laws_eqCell, okN (n := 0) Tryz.func142 trivial ev142⟩
abbrev T_laws_eqCellS_4 : Type := Qz14
def S_laws_eqCellS_4 (k0 : Bool → Option R) (k1 : Unit → Option R) (again : T_laws_eqCellS_4 → Option R) (t4 : T_laws_eqCellS_4) : Option R :=
 bif (decide (t4.2.2 < ((List.length t4.1 : Nat) : Int))) then if (0 : Int) ≤ t4.2.2 then if t4.2.2 < ((List.length t4.1 : Nat) : Int) then if (0 : Int) ≤ t4.2.2 then if t4.2.2 < ((List.length t4.2.1 : Nat) : Int) then Option.bind (F_laws_eqCell ((rd_Cell t4.1 t4.2.2).1, (rd_Cell t4.1 t4.2.2).2.1, (rd_Cell t4.1 t4.2.2).2.2, (rd_Cell t4.2.1 t4.2.2).1, (rd_Cell t4.2.1 t4.2.2).2.1, (rd_Cell t4.2.1 t4.2.2).2.2)) fun r1 => bif (!r1) then k0 false else again (t4.1, t4.2.1, (Go.IntKind.wrap .i64 (t4.2.2 + (1 : Int)))) else none else none else none else none else k1 ()
def L_laws_eqCellS_4 k0 k1 := iter (@S_laws_eqCellS_4 R k0 k1) FUEL
def F_laws_eqCellS (x : Qz15) : Option Bool :=
 bif (((List.length x.1 : Nat) : Int) != ((List.length x.2 : Nat) : Int)) then some false else L_laws_eqCellS_4 (fun x2 => some x2) (fun x3 => some true) (x.1, x.2, (0 : Int))
def f63Q : List QF := [q142]
def f63e4_0 (t : Qz14) : St := ⟨v_Cell t.1 :: v_Cell t.2.1 :: dd 3 (vI t.2.2 :: dd 21 []), []⟩
def f63g4 : Gk T_laws_eqCellS_4 := fun κ => S_laws_eqCellS_4 (fun t => κ none ⟨dd 4 (vB t :: dd 22 []), []⟩) (fun t => κ (some 0) ⟨dd 27 [], []⟩)
def f63P : Lp := lpC 4 (unG qz14 f63e4_0) @f63g4 lpN
theorem f63C4 : LF f63Q f63P 63 4 Tryz.f63 0 f63e4_0 @f63g4 fun t => t := fun R κ again t => by kernel_rfl
theorem f63k4 : LK f63Q f63P 63 Tryz.f63 0 := lkN (u := (unG qz14 f63e4_0)) (unG_ok fun t => by kernel_rfl) f63C4
theorem ev63 : EV f63Q f63P 63 Tryz.f63 sg63 qz15 [.bool] F_laws_eqCellS := fun x => by kernel_rfl
def q63 : QF := ⟨63, F_laws_eqCellS, okN (n := 1) Tryz.func63 ⟨f63k4, trivial⟩ ev63⟩
def F_laws_eqVol (x : Qz16) : Option Bool :=
 bif (!((ByteArray.toList x.1) == (ByteArray.toList x.2.2.2.2.1))) then some false else bif (x.2.1 != x.2.2.2.2.2.1) then some false else bif (x.2.2.1 != x.2.2.2.2.2.2.1) then some false else bif (!(x.2.2.2.1 == x.2.2.2.2.2.2.2)) then some false else some true
theorem ev143 : EV [] lpN 143 Tryz.f143 sg143 qz16 [.bool] F_laws_eqVol := fun x => by kernel_rfl
def q143 : QF := ⟨143, F_laws_eqVol, okN (n := 0) Tryz.func143 trivial ev143⟩
abbrev T_laws_eqVolS_4 : Type := Qz17
def S_laws_eqVolS_4 (k0 : Bool → Option R) (k1 : Unit → Option R) (again : T_laws_eqVolS_4 → Option R) (t4 : T_laws_eqVolS_4) : Option R :=
 bif (decide (t4.2.2 < ((List.length t4.1 : Nat) : Int))) then if (0 : Int) ≤ t4.2.2 then if t4.2.2 < ((List.length t4.1 : Nat) : Int) then if (0 : Int) ≤ t4.2.2 then if t4.2.2 < ((List.length t4.2.1 : Nat) : Int) then Option.bind (F_laws_eqVol ((rd_Vol t4.1 t4.2.2).1, (rd_Vol t4.1 t4.2.2).2.1, (rd_Vol t4.1 t4.2.2).2.2.1, (rd_Vol t4.1 t4.2.2).2.2.2, (rd_Vol t4.2.1 t4.2.2).1, (rd_Vol t4.2.1 t4.2.2).2.1, (rd_Vol t4.2.1 t4.2.2).2.2.1, (rd_Vol t4.2.1 t4.2.2).2.2.2)) fun r1 => bif (!r1) then k0 false else again (t4.1, t4.2.1, (Go.IntKind.wrap .i64 (t4.2.2 + (1 : Int)))) else none else none else none else none else k1 ()
def L_laws_eqVolS_4 k0 k1 := iter (@S_laws_eqVolS_4 R k0 k1) FUEL
def F_laws_eqVolS (x : Qz18) : Option Bool :=
 bif (((List.length x.1 : Nat) : Int) != ((List.length x.2 : Nat) : Int)) then some false else L_laws_eqVolS_4 (fun x2 => some x2) (fun x3 => some true) (x.1, x.2, (0 : Int))
def f64Q : List QF := [q143]
def f64e4_0 (t : Qz17) : St := ⟨v_Vol t.1 :: v_Vol t.2.1 :: dd 3 (vI t.2.2 :: dd 21 []), []⟩
def f64g4 : Gk T_laws_eqVolS_4 := fun κ => S_laws_eqVolS_4 (fun t => κ none ⟨dd 4 (vB t :: dd 22 []), []⟩) (fun t => κ (some 0) ⟨dd 27 [], []⟩)
def f64P : Lp := lpC 4 (unG qz17 f64e4_0) @f64g4 lpN
theorem f64C4 : LF f64Q f64P 64 4 Tryz.f64 0 f64e4_0 @f64g4 fun t => t := fun R κ again t => by kernel_rfl
theorem f64k4 : LK f64Q f64P 64 Tryz.f64 0 := lkN (u := (unG qz17 f64e4_0)) (unG_ok fun t => by kernel_rfl) f64C4
theorem ev64 : EV f64Q f64P 64 Tryz.f64 sg64 qz18 [.bool] F_laws_eqVolS := fun x => by kernel_rfl
def q64 : QF := ⟨64, F_laws_eqVolS, okN (n := 1) Tryz.func64 ⟨f64k4, trivial⟩ ev64⟩
def F_laws_eqPool (x : Qz19) : Option Bool :=
 Option.bind (F_laws_eqTree (x.1, x.2.1, x.2.2.2.2.2.2.1, x.2.2.2.2.2.2.2.1)) fun r1 => bif (!r1) then some false else Option.bind (F_laws_eqAgeS (x.2.2.1, x.2.2.2.2.2.2.2.2.1)) fun r2 => bif (!r2) then some false else Option.bind (F_laws_eqCellS (x.2.2.2.1, x.2.2.2.2.2.2.2.2.2.1)) fun r3 => bif (!r3) then some false else Option.bind (F_laws_eqVolS (x.2.2.2.2.1, x.2.2.2.2.2.2.2.2.2.2.1)) fun r4 => bif (!r4) then some false else bif (x.2.2.2.2.2.1 != x.2.2.2.2.2.2.2.2.2.2.2) then some false else some true
theorem ev15 : EV [q61, q62, q63, q64] lpN 15 Tryz.f15 sg15 qz19 [.bool] F_laws_eqPool := fun x => by kernel_rfl
def q15 : QF := ⟨15, F_laws_eqPool, okN (n := 0) Tryz.func15 trivial ev15⟩
abbrev T_laws_eqByteS_4 : Type := Qz20
def S_laws_eqByteS_4 (k0 : Bool → Option R) (k1 : Unit → Option R) (again : T_laws_eqByteS_4 → Option R) (t4 : T_laws_eqByteS_4) : Option R :=
 bif (decide (t4.2.2 < ((List.length t4.1 : Nat) : Int))) then if (0 : Int) ≤ t4.2.2 then if t4.2.2 < ((List.length t4.1 : Nat) : Int) then if (0 : Int) ≤ t4.2.2 then if t4.2.2 < ((List.length t4.2.1 : Nat) : Int) then bif ((rd_u8 t4.1 t4.2.2) != (rd_u8 t4.2.1 t4.2.2)) then k0 false else again (t4.1, t4.2.1, (Go.IntKind.wrap .i64 (t4.2.2 + (1 : Int)))) else none else none else none else none else k1 ()
def L_laws_eqByteS_4 k0 k1 := iter (@S_laws_eqByteS_4 R k0 k1) FUEL
def F_laws_eqByteS (x : Qz21) : Option Bool :=
 bif (((List.length x.1 : Nat) : Int) != ((List.length x.2 : Nat) : Int)) then some false else L_laws_eqByteS_4 (fun x1 => some x1) (fun x2 => some true) (x.1, x.2, (0 : Int))
def f14Q : List QF := []
def f14e4_0 (t : Qz20) : St := ⟨v_u8 t.1 :: v_u8 t.2.1 :: dd 3 (vI t.2.2 :: dd 20 []), []⟩
def f14g4 : Gk T_laws_eqByteS_4 := fun κ => S_laws_eqByteS_4 (fun t => κ none ⟨dd 4 (vB t :: dd 21 []), []⟩) (fun t => κ (some 0) ⟨dd 26 [], []⟩)
def f14P : Lp := lpC 4 (unG qz20 f14e4_0) @f14g4 lpN
theorem f14C4 : LF f14Q f14P 14 4 Tryz.f14 0 f14e4_0 @f14g4 fun t => t := fun R κ again t => by kernel_rfl
theorem f14k4 : LK f14Q f14P 14 Tryz.f14 0 := lkN (u := (unG qz20 f14e4_0)) (unG_ok fun t => by kernel_rfl) f14C4
theorem ev14 : EV f14Q f14P 14 Tryz.f14 sg14 qz21 [.bool] F_laws_eqByteS := fun x => by kernel_rfl
def q14 : QF := ⟨14, F_laws_eqByteS, okN (n := 1) Tryz.func14 ⟨f14k4, trivial⟩ ev14⟩
abbrev T_laws_eqByteSS_4 : Type := Qz22
def S_laws_eqByteSS_4 (k0 : Bool → Option R) (k1 : Unit → Option R) (again : T_laws_eqByteSS_4 → Option R) (t4 : T_laws_eqByteSS_4) : Option R :=
 bif (decide (t4.2.2 < ((List.length t4.1 : Nat) : Int))) then if (0 : Int) ≤ t4.2.2 then if t4.2.2 < ((List.length t4.1 : Nat) : Int) then if (0 : Int) ≤ t4.2.2 then if t4.2.2 < ((List.length t4.2.1 : Nat) : Int) then Option.bind (F_laws_eqByteS ((rd_s_u8 t4.1 t4.2.2), (rd_s_u8 t4.2.1 t4.2.2))) fun r1 => bif (!r1) then k0 false else again (t4.1, t4.2.1, (Go.IntKind.wrap .i64 (t4.2.2 + (1 : Int)))) else none else none else none else none else k1 ()
def L_laws_eqByteSS_4 k0 k1 := iter (@S_laws_eqByteSS_4 R k0 k1) FUEL
def F_laws_eqByteSS (x : Qz23) : Option Bool :=
 bif (((List.length x.1 : Nat) : Int) != ((List.length x.2 : Nat) : Int)) then some false else L_laws_eqByteSS_4 (fun x2 => some x2) (fun x3 => some true) (x.1, x.2, (0 : Int))
def f79Q : List QF := [q14]
def f79e4_0 (t : Qz22) : St := ⟨v_s_u8 t.1 :: v_s_u8 t.2.1 :: dd 3 (vI t.2.2 :: dd 21 []), []⟩
def f79g4 : Gk T_laws_eqByteSS_4 := fun κ => S_laws_eqByteSS_4 (fun t => κ none ⟨dd 4 (vB t :: dd 22 []), []⟩) (fun t => κ (some 0) ⟨dd 27 [], []⟩)
def f79P : Lp := lpC 4 (unG qz22 f79e4_0) @f79g4 lpN
theorem f79C4 : LF f79Q f79P 79 4 Tryz.f79 0 f79e4_0 @f79g4 fun t => t := fun R κ again t => by kernel_rfl
theorem f79k4 : LK f79Q f79P 79 Tryz.f79 0 := lkN (u := (unG qz22 f79e4_0)) (unG_ok fun t => by kernel_rfl) f79C4
theorem ev79 : EV f79Q f79P 79 Tryz.f79 sg79 qz23 [.bool] F_laws_eqByteSS := fun x => by kernel_rfl
def q79 : QF := ⟨79, F_laws_eqByteSS, okN (n := 1) Tryz.func79 ⟨f79k4, trivial⟩ ev79⟩
def F_laws_eqWr (x : Qz24) : Option Bool :=
 bif (x.1 != x.2.2.1) then some false else Option.bind (F_laws_eqByteS (x.2.1, x.2.2.2)) fun r1 => bif (!r1) then some false else some true
theorem ev162 : EV [q14] lpN 162 Tryz.f162 sg162 qz24 [.bool] F_laws_eqWr := fun x => by kernel_rfl
def q162 : QF := ⟨162, F_laws_eqWr, okN (n := 0) Tryz.func162 trivial ev162⟩
abbrev T_laws_eqWrS_4 : Type := Qz25
def S_laws_eqWrS_4 (k0 : Bool → Option R) (k1 : Unit → Option R) (again : T_laws_eqWrS_4 → Option R) (t4 : T_laws_eqWrS_4) : Option R :=
 bif (decide (t4.2.2 < ((List.length t4.1 : Nat) : Int))) then if (0 : Int) ≤ t4.2.2 then if t4.2.2 < ((List.length t4.1 : Nat) : Int) then if (0 : Int) ≤ t4.2.2 then if t4.2.2 < ((List.length t4.2.1 : Nat) : Int) then Option.bind (F_laws_eqWr ((rd_Wr t4.1 t4.2.2).1, (rd_Wr t4.1 t4.2.2).2, (rd_Wr t4.2.1 t4.2.2).1, (rd_Wr t4.2.1 t4.2.2).2)) fun r1 => bif (!r1) then k0 false else again (t4.1, t4.2.1, (Go.IntKind.wrap .i64 (t4.2.2 + (1 : Int)))) else none else none else none else none else k1 ()
def L_laws_eqWrS_4 k0 k1 := iter (@S_laws_eqWrS_4 R k0 k1) FUEL
def F_laws_eqWrS (x : Qz26) : Option Bool :=
 bif (((List.length x.1 : Nat) : Int) != ((List.length x.2 : Nat) : Int)) then some false else L_laws_eqWrS_4 (fun x2 => some x2) (fun x3 => some true) (x.1, x.2, (0 : Int))
def f80Q : List QF := [q162]
def f80e4_0 (t : Qz25) : St := ⟨v_Wr t.1 :: v_Wr t.2.1 :: dd 3 (vI t.2.2 :: dd 21 []), []⟩
def f80g4 : Gk T_laws_eqWrS_4 := fun κ => S_laws_eqWrS_4 (fun t => κ none ⟨dd 4 (vB t :: dd 22 []), []⟩) (fun t => κ (some 0) ⟨dd 27 [], []⟩)
def f80P : Lp := lpC 4 (unG qz25 f80e4_0) @f80g4 lpN
theorem f80C4 : LF f80Q f80P 80 4 Tryz.f80 0 f80e4_0 @f80g4 fun t => t := fun R κ again t => by kernel_rfl
theorem f80k4 : LK f80Q f80P 80 Tryz.f80 0 := lkN (u := (unG qz25 f80e4_0)) (unG_ok fun t => by kernel_rfl) f80C4
theorem ev80 : EV f80Q f80P 80 Tryz.f80 sg80 qz26 [.bool] F_laws_eqWrS := fun x => by kernel_rfl
def q80 : QF := ⟨80, F_laws_eqWrS, okN (n := 1) Tryz.func80 ⟨f80k4, trivial⟩ ev80⟩
def F_laws_eqDev (x : Qz27) : Option Bool :=
 Option.bind (F_laws_eqByteSS (x.1, x.2.2.2.2.1)) fun r1 => bif (!r1) then some false else Option.bind (F_laws_eqWrS (x.2.1, x.2.2.2.2.2.1)) fun r2 => bif (!r2) then some false else bif (x.2.2.1 != x.2.2.2.2.2.2.1) then some false else bif (!(x.2.2.2.1 == x.2.2.2.2.2.2.2)) then some false else some true
theorem ev24 : EV [q79, q80] lpN 24 Tryz.f24 sg24 qz27 [.bool] F_laws_eqDev := fun x => by kernel_rfl
def q24 : QF := ⟨24, F_laws_eqDev, okN (n := 0) Tryz.func24 trivial ev24⟩
def F_laws_eqStore (x : Qz28) : Option Bool :=
 Option.bind (F_laws_eqDev (x.1, x.2.1, x.2.2.1, x.2.2.2.1, x.2.2.2.2.2.2.2.2.2.2.2.2.2.1, x.2.2.2.2.2.2.2.2.2.2.2.2.2.2.1, x.2.2.2.2.2.2.2.2.2.2.2.2.2.2.2.1, x.2.2.2.2.2.2.2.2.2.2.2.2.2.2.2.2.1)) fun r1 => bif (!r1) then some false else Option.bind (F_laws_eqPool (x.2.2.2.2.1, x.2.2.2.2.2.1, x.2.2.2.2.2.2.1, x.2.2.2.2.2.2.2.1, x.2.2.2.2.2.2.2.2.1, x.2.2.2.2.2.2.2.2.2.1, x.2.2.2.2.2.2.2.2.2.2.2.2.2.2.2.2.2.1, x.2.2.2.2.2.2.2.2.2.2.2.2.2.2.2.2.2.2.1, x.2.2.2.2.2.2.2.2.2.2.2.2.2.2.2.2.2.2.2.1, x.2.2.2.2.2.2.2.2.2.2.2.2.2.2.2.2.2.2.2.2.1, x.2.2.2.2.2.2.2.2.2.2.2.2.2.2.2.2.2.2.2.2.2.1, x.2.2.2.2.2.2.2.2.2.2.2.2.2.2.2.2.2.2.2.2.2.2.1)) fun r2 => bif (!r2) then some false else bif (x.2.2.2.2.2.2.2.2.2.2.1 != x.2.2.2.2.2.2.2.2.2.2.2.2.2.2.2.2.2.2.2.2.2.2.2.1) then some false else bif (x.2.2.2.2.2.2.2.2.2.2.2.1 != x.2.2.2.2.2.2.2.2.2.2.2.2.2.2.2.2.2.2.2.2.2.2.2.2.1) then some false else bif (x.2.2.2.2.2.2.2.2.2.2.2.2.1 != x.2.2.2.2.2.2.2.2.2.2.2.2.2.2.2.2.2.2.2.2.2.2.2.2.2) then some false else some true
theorem ev32 : EV [q15, q24] lpN 32 Tryz.f32 sg32 qz28 [.bool] F_laws_eqStore := fun x => by kernel_rfl
def q32 : QF := ⟨32, F_laws_eqStore, okN (n := 0) Tryz.func32 trivial ev32⟩
abbrev T_laws_markIntS_2 : Type := Qz29
def S_laws_markIntS_2 (k0 : Qz30 → Option R) (again : T_laws_markIntS_2 → Option R) (t2 : T_laws_markIntS_2) : Option R :=
 bif (decide (t2.2.1 < ((List.length t2.2.2 : Nat) : Int))) then if (0 : Int) ≤ t2.2.1 then if t2.2.1 < ((List.length t2.2.2 : Nat) : Int) then again ((Go.IntKind.wrap .i64 (t2.1 + (1 : Int))), (Go.IntKind.wrap .i64 (t2.2.1 + (1 : Int))), (List.set t2.2.2 (Int.toNat t2.2.1) t2.1)) else none else none else k0 (t2.1, t2.2.2)
def L_laws_markIntS_2 k0 := iter (@S_laws_markIntS_2 R k0) FUEL
def F_laws_markIntS (x : Qz31) : Option Qz30 :=
 L_laws_markIntS_2 (fun x1 => some (x1.1, x1.2)) (x.2, (0 : Int), x.1)
def f144Q : List QF := []
def f144e2_0 (t : Qz29) : St := ⟨.own 10000000 :: vI t.1 :: dd 3 (vI t.2.1 :: dd 13 []), [(10000000, .deep true 1 3 ts_i64 t.2.2)]⟩
def f144g2 : Gk T_laws_markIntS_2 := fun κ => S_laws_markIntS_2 (fun t => κ (some 0) ⟨.own 10000000 :: vI t.1 :: dd 17 [], [(10000000, .deep true 1 3 ts_i64 t.2)]⟩)
def f144P : Lp := lpC 2 (unG qz29 f144e2_0) @f144g2 lpN
theorem f144C2 : LF f144Q f144P 144 2 Tryz.f144 0 f144e2_0 @f144g2 fun t => t := fun R κ again t => by kernel_rfl
theorem f144k2 : LK f144Q f144P 144 Tryz.f144 0 := lkN (u := (unG qz29 f144e2_0)) (unG_ok fun t => by kernel_rfl) f144C2
theorem ev144 : EV f144Q f144P 144 Tryz.f144 sg144 qz31 qz30 F_laws_markIntS := fun x => by kernel_rfl
def q144 : QF := ⟨144, F_laws_markIntS, okN (n := 1) Tryz.func144 ⟨f144k2, trivial⟩ ev144⟩
abbrev T_laws_markKeyS_2 : Type := Qz32
def S_laws_markKeyS_2 (k0 : Qz33 → Option R) (again : T_laws_markKeyS_2 → Option R) (t2 : T_laws_markKeyS_2) : Option R :=
 bif (decide (t2.2.1 < ((List.length t2.2.2 : Nat) : Int))) then if (0 : Int) ≤ t2.2.1 then if t2.2.1 < ((List.length t2.2.2 : Nat) : Int) then if (0 : Int) ≤ t2.2.1 then if t2.2.1 < ((List.length (List.set t2.2.2 (Int.toNat t2.2.1) (t2.1, (rd_Key t2.2.2 t2.2.1).2)) : Nat) : Int) then if (0 : Int) ≤ t2.2.1 then if t2.2.1 < ((List.length (List.set (List.set t2.2.2 (Int.toNat t2.2.1) (t2.1, (rd_Key t2.2.2 t2.2.1).2)) (Int.toNat t2.2.1) ((rd_Key (List.set t2.2.2 (Int.toNat t2.2.1) (t2.1, (rd_Key t2.2.2 t2.2.1).2)) t2.2.1).1, (Go.IntKind.wrap .i64 (t2.1 + (1 : Int))), (rd_Key (List.set t2.2.2 (Int.toNat t2.2.1) (t2.1, (rd_Key t2.2.2 t2.2.1).2)) t2.2.1).2.2)) : Nat) : Int) then let l1 : List E_Key := (List.set (List.set (List.set t2.2.2 (Int.toNat t2.2.1) (t2.1, (rd_Key t2.2.2 t2.2.1).2)) (Int.toNat t2.2.1) ((rd_Key (List.set t2.2.2 (Int.toNat t2.2.1) (t2.1, (rd_Key t2.2.2 t2.2.1).2)) t2.2.1).1, (Go.IntKind.wrap .i64 (t2.1 + (1 : Int))), (rd_Key (List.set t2.2.2 (Int.toNat t2.2.1) (t2.1, (rd_Key t2.2.2 t2.2.1).2)) t2.2.1).2.2)) (Int.toNat t2.2.1) ((rd_Key (List.set (List.set t2.2.2 (Int.toNat t2.2.1) (t2.1, (rd_Key t2.2.2 t2.2.1).2)) (Int.toNat t2.2.1) ((rd_Key (List.set t2.2.2 (Int.toNat t2.2.1) (t2.1, (rd_Key t2.2.2 t2.2.1).2)) t2.2.1).1, (Go.IntKind.wrap .i64 (t2.1 + (1 : Int))), (rd_Key (List.set t2.2.2 (Int.toNat t2.2.1) (t2.1, (rd_Key t2.2.2 t2.2.1).2)) t2.2.1).2.2)) t2.2.1).1, (rd_Key (List.set (List.set t2.2.2 (Int.toNat t2.2.1) (t2.1, (rd_Key t2.2.2 t2.2.1).2)) (Int.toNat t2.2.1) ((rd_Key (List.set t2.2.2 (Int.toNat t2.2.1) (t2.1, (rd_Key t2.2.2 t2.2.1).2)) t2.2.1).1, (Go.IntKind.wrap .i64 (t2.1 + (1 : Int))), (rd_Key (List.set t2.2.2 (Int.toNat t2.2.1) (t2.1, (rd_Key t2.2.2 t2.2.1).2)) t2.2.1).2.2)) t2.2.1).2.1, (Go.IntKind.wrap .i64 ((Go.IntKind.wrap .i64 (t2.1 + (1 : Int))) + (1 : Int))), (rd_Key (List.set (List.set t2.2.2 (Int.toNat t2.2.1) (t2.1, (rd_Key t2.2.2 t2.2.1).2)) (Int.toNat t2.2.1) ((rd_Key (List.set t2.2.2 (Int.toNat t2.2.1) (t2.1, (rd_Key t2.2.2 t2.2.1).2)) t2.2.1).1, (Go.IntKind.wrap .i64 (t2.1 + (1 : Int))), (rd_Key (List.set t2.2.2 (Int.toNat t2.2.1) (t2.1, (rd_Key t2.2.2 t2.2.1).2)) t2.2.1).2.2)) t2.2.1).2.2.2)); if (0 : Int) ≤ t2.2.1 then if t2.2.1 < ((List.length l1 : Nat) : Int) then if (0 : Int) ≤ t2.2.1 then if t2.2.1 < ((List.length (List.set l1 (Int.toNat t2.2.1) ((rd_Key l1 t2.2.1).1, (rd_Key l1 t2.2.1).2.1, (rd_Key l1 t2.2.1).2.2.1, (Go.IntKind.wrap .i64 ((Go.IntKind.wrap .i64 ((Go.IntKind.wrap .i64 (t2.1 + (1 : Int))) + (1 : Int))) + (1 : Int))), (rd_Key l1 t2.2.1).2.2.2.2)) : Nat) : Int) then let l2 : List E_Key := (List.set (List.set l1 (Int.toNat t2.2.1) ((rd_Key l1 t2.2.1).1, (rd_Key l1 t2.2.1).2.1, (rd_Key l1 t2.2.1).2.2.1, (Go.IntKind.wrap .i64 ((Go.IntKind.wrap .i64 ((Go.IntKind.wrap .i64 (t2.1 + (1 : Int))) + (1 : Int))) + (1 : Int))), (rd_Key l1 t2.2.1).2.2.2.2)) (Int.toNat t2.2.1) ((rd_Key (List.set l1 (Int.toNat t2.2.1) ((rd_Key l1 t2.2.1).1, (rd_Key l1 t2.2.1).2.1, (rd_Key l1 t2.2.1).2.2.1, (Go.IntKind.wrap .i64 ((Go.IntKind.wrap .i64 ((Go.IntKind.wrap .i64 (t2.1 + (1 : Int))) + (1 : Int))) + (1 : Int))), (rd_Key l1 t2.2.1).2.2.2.2)) t2.2.1).1, (rd_Key (List.set l1 (Int.toNat t2.2.1) ((rd_Key l1 t2.2.1).1, (rd_Key l1 t2.2.1).2.1, (rd_Key l1 t2.2.1).2.2.1, (Go.IntKind.wrap .i64 ((Go.IntKind.wrap .i64 ((Go.IntKind.wrap .i64 (t2.1 + (1 : Int))) + (1 : Int))) + (1 : Int))), (rd_Key l1 t2.2.1).2.2.2.2)) t2.2.1).2.1, (rd_Key (List.set l1 (Int.toNat t2.2.1) ((rd_Key l1 t2.2.1).1, (rd_Key l1 t2.2.1).2.1, (rd_Key l1 t2.2.1).2.2.1, (Go.IntKind.wrap .i64 ((Go.IntKind.wrap .i64 ((Go.IntKind.wrap .i64 (t2.1 + (1 : Int))) + (1 : Int))) + (1 : Int))), (rd_Key l1 t2.2.1).2.2.2.2)) t2.2.1).2.2.1, (rd_Key (List.set l1 (Int.toNat t2.2.1) ((rd_Key l1 t2.2.1).1, (rd_Key l1 t2.2.1).2.1, (rd_Key l1 t2.2.1).2.2.1, (Go.IntKind.wrap .i64 ((Go.IntKind.wrap .i64 ((Go.IntKind.wrap .i64 (t2.1 + (1 : Int))) + (1 : Int))) + (1 : Int))), (rd_Key l1 t2.2.1).2.2.2.2)) t2.2.1).2.2.2.1, (Go.IntKind.wrap .i64 ((Go.IntKind.wrap .i64 ((Go.IntKind.wrap .i64 ((Go.IntKind.wrap .i64 (t2.1 + (1 : Int))) + (1 : Int))) + (1 : Int))) + (1 : Int))))); again ((Go.IntKind.wrap .i64 ((Go.IntKind.wrap .i64 ((Go.IntKind.wrap .i64 ((Go.IntKind.wrap .i64 ((Go.IntKind.wrap .i64 (t2.1 + (1 : Int))) + (1 : Int))) + (1 : Int))) + (1 : Int))) + (1 : Int))), (Go.IntKind.wrap .i64 (t2.2.1 + (1 : Int))), l2) else none else none else none else none else none else none else none else none else none else none else k0 (t2.1, t2.2.2)
def L_laws_markKeyS_2 k0 := iter (@S_laws_markKeyS_2 R k0) FUEL
def F_laws_markKeyS (x : Qz34) : Option Qz33 :=
 L_laws_markKeyS_2 (fun x3 => some (x3.1, x3.2)) (x.2, (0 : Int), x.1)
def f254Q : List QF := []
def f254e2_0 (t : Qz32) : St := ⟨.own 10000000 :: vI t.1 :: dd 3 (vI t.2.1 :: dd 42 []), [(10000000, .deep true 1 106 ts_Key t.2.2)]⟩
def f254g2 : Gk T_laws_markKeyS_2 := fun κ => S_laws_markKeyS_2 (fun t => κ (some 0) ⟨.own 10000000 :: vI t.1 :: dd 46 [], [(10000000, .deep true 1 106 ts_Key t.2)]⟩)
def f254P : Lp := lpC 2 (unG qz32 f254e2_0) @f254g2 lpN
theorem f254C2 : LF f254Q f254P 254 2 Tryz.f254 0 f254e2_0 @f254g2 fun t => t := fun R κ again t => by kernel_rfl
theorem f254k2 : LK f254Q f254P 254 Tryz.f254 0 := lkN (u := (unG qz32 f254e2_0)) (unG_ok fun t => by kernel_rfl) f254C2
theorem ev254 : EV f254Q f254P 254 Tryz.f254 sg254 qz34 qz33 F_laws_markKeyS := fun x => by kernel_rfl
def q254 : QF := ⟨254, F_laws_markKeyS, okN (n := 1) Tryz.func254 ⟨f254k2, trivial⟩ ev254⟩
abbrev T_laws_markKeySS_2 : Type := Qz35
def S_laws_markKeySS_2 (k0 : Qz36 → Option R) (again : T_laws_markKeySS_2 → Option R) (t2 : T_laws_markKeySS_2) : Option R :=
 bif (decide (t2.2.1 < ((List.length t2.2.2 : Nat) : Int))) then if (0 : Int) ≤ t2.2.1 then if t2.2.1 < ((List.length t2.2.2 : Nat) : Int) then Option.bind (F_laws_markKeyS ((rd_s_Key t2.2.2 t2.2.1), t2.1)) fun r1 => again (r1.1, (Go.IntKind.wrap .i64 (t2.2.1 + (1 : Int))), (List.set t2.2.2 (Int.toNat t2.2.1) r1.2)) else none else none else k0 (t2.1, t2.2.2)
def L_laws_markKeySS_2 k0 := iter (@S_laws_markKeySS_2 R k0) FUEL
def F_laws_markKeySS (x : Qz37) : Option Qz36 :=
 L_laws_markKeySS_2 (fun x2 => some (x2.1, x2.2)) (x.2, (0 : Int), x.1)
def f217Q : List QF := [q254]
def f217e2_0 (t : Qz35) : St := ⟨.own 10000000 :: vI t.1 :: dd 3 (vI t.2.1 :: dd 13 []), [(10000000, .deep true 1 100 ts_s_Key t.2.2)]⟩
def f217g2 : Gk T_laws_markKeySS_2 := fun κ => S_laws_markKeySS_2 (fun t => κ (some 0) ⟨.own 10000000 :: vI t.1 :: dd 17 [], [(10000000, .deep true 1 100 ts_s_Key t.2)]⟩)
def f217P : Lp := lpC 2 (unG qz35 f217e2_0) @f217g2 lpN
theorem f217C2 : LF f217Q f217P 217 2 Tryz.f217 0 f217e2_0 @f217g2 fun t => t := fun R κ again t => by kernel_rfl
theorem f217k2 : LK f217Q f217P 217 Tryz.f217 0 := lkN (u := (unG qz35 f217e2_0)) (unG_ok fun t => by kernel_rfl) f217C2
theorem ev217 : EV f217Q f217P 217 Tryz.f217 sg217 qz37 qz36 F_laws_markKeySS := fun x => by kernel_rfl
def q217 : QF := ⟨217, F_laws_markKeySS, okN (n := 1) Tryz.func217 ⟨f217k2, trivial⟩ ev217⟩
abbrev T_laws_markNodeS_2 : Type := Qz38
def S_laws_markNodeS_2 (k0 : Qz39 → Option R) (again : T_laws_markNodeS_2 → Option R) (t2 : T_laws_markNodeS_2) : Option R :=
 bif (decide (t2.2.1 < ((List.length t2.2.2 : Nat) : Int))) then if (0 : Int) ≤ t2.2.1 then if t2.2.1 < ((List.length t2.2.2 : Nat) : Int) then Option.bind (F_laws_markKeySS ((rd_Node t2.2.2 t2.2.1), t2.1)) fun r1 => again (r1.1, (Go.IntKind.wrap .i64 (t2.2.1 + (1 : Int))), (List.set t2.2.2 (Int.toNat t2.2.1) r1.2)) else none else none else k0 (t2.1, t2.2.2)
def L_laws_markNodeS_2 k0 := iter (@S_laws_markNodeS_2 R k0) FUEL
def F_laws_markNodeS (x : Qz40) : Option Qz39 :=
 L_laws_markNodeS_2 (fun x2 => some (x2.1, x2.2)) (x.2, (0 : Int), x.1)
def f145Q : List QF := [q217]
def f145e2_0 (t : Qz38) : St := ⟨.own 10000000 :: vI t.1 :: dd 3 (vI t.2.1 :: dd 14 []), [(10000000, .deep true 1 98 ts_Node t.2.2)]⟩
def f145g2 : Gk T_laws_markNodeS_2 := fun κ => S_laws_markNodeS_2 (fun t => κ (some 0) ⟨.own 10000000 :: vI t.1 :: dd 18 [], [(10000000, .deep true 1 98 ts_Node t.2)]⟩)
def f145P : Lp := lpC 2 (unG qz38 f145e2_0) @f145g2 lpN
theorem f145C2 : LF f145Q f145P 145 2 Tryz.f145 0 f145e2_0 @f145g2 fun t => t := fun R κ again t => by kernel_rfl
theorem f145k2 : LK f145Q f145P 145 Tryz.f145 0 := lkN (u := (unG qz38 f145e2_0)) (unG_ok fun t => by kernel_rfl) f145C2
theorem ev145 : EV f145Q f145P 145 Tryz.f145 sg145 qz40 qz39 F_laws_markNodeS := fun x => by kernel_rfl
def q145 : QF := ⟨145, F_laws_markNodeS, okN (n := 1) Tryz.func145 ⟨f145k2, trivial⟩ ev145⟩
def F_laws_markTree (x : Qz41) : Option Qz42 :=
 Option.bind (F_laws_markIntS (x.1, x.2.2)) fun r1 => Option.bind (F_laws_markNodeS (x.2.1, r1.1)) fun r2 => some (r2.1, r1.2, r2.2)
theorem ev65 : EV [q144, q145] lpN 65 Tryz.f65 sg65 qz41 qz42 F_laws_markTree := fun x => by kernel_rfl
def q65 : QF := ⟨65, F_laws_markTree, okN (n := 0) Tryz.func65 trivial ev65⟩
abbrev T_laws_markAgeS_2 : Type := Qz43
def S_laws_markAgeS_2 (k0 : Qz44 → Option R) (again : T_laws_markAgeS_2 → Option R) (t2 : T_laws_markAgeS_2) : Option R :=
 bif (decide (t2.2.1 < ((List.length t2.2.2 : Nat) : Int))) then if (0 : Int) ≤ t2.2.1 then if t2.2.1 < ((List.length t2.2.2 : Nat) : Int) then if (0 : Int) ≤ t2.2.1 then if t2.2.1 < ((List.length (List.set t2.2.2 (Int.toNat t2.2.1) (t2.1, (rd_Age t2.2.2 t2.2.1).2)) : Nat) : Int) then again ((Go.IntKind.wrap .i64 ((Go.IntKind.wrap .i64 (t2.1 + (1 : Int))) + (1 : Int))), (Go.IntKind.wrap .i64 (t2.2.1 + (1 : Int))), (List.set (List.set t2.2.2 (Int.toNat t2.2.1) (t2.1, (rd_Age t2.2.2 t2.2.1).2)) (Int.toNat t2.2.1) ((rd_Age (List.set t2.2.2 (Int.toNat t2.2.1) (t2.1, (rd_Age t2.2.2 t2.2.1).2)) t2.2.1).1, (Go.IntKind.wrap .i64 (t2.1 + (1 : Int)))))) else none else none else none else none else k0 (t2.1, t2.2.2)
def L_laws_markAgeS_2 k0 := iter (@S_laws_markAgeS_2 R k0) FUEL
def F_laws_markAgeS (x : Qz45) : Option Qz44 :=
 L_laws_markAgeS_2 (fun x1 => some (x1.1, x1.2)) (x.2, (0 : Int), x.1)
def f66Q : List QF := []
def f66e2_0 (t : Qz43) : St := ⟨.own 10000000 :: vI t.1 :: dd 3 (vI t.2.1 :: dd 21 []), [(10000000, .deep true 1 89 ts_Age t.2.2)]⟩
def f66g2 : Gk T_laws_markAgeS_2 := fun κ => S_laws_markAgeS_2 (fun t => κ (some 0) ⟨.own 10000000 :: vI t.1 :: dd 25 [], [(10000000, .deep true 1 89 ts_Age t.2)]⟩)
def f66P : Lp := lpC 2 (unG qz43 f66e2_0) @f66g2 lpN
theorem f66C2 : LF f66Q f66P 66 2 Tryz.f66 0 f66e2_0 @f66g2 fun t => t := fun R κ again t => by kernel_rfl
theorem f66k2 : LK f66Q f66P 66 Tryz.f66 0 := lkN (u := (unG qz43 f66e2_0)) (unG_ok fun t => by kernel_rfl) f66C2
theorem ev66 : EV f66Q f66P 66 Tryz.f66 sg66 qz45 qz44 F_laws_markAgeS := fun x => by kernel_rfl
def q66 : QF := ⟨66, F_laws_markAgeS, okN (n := 1) Tryz.func66 ⟨f66k2, trivial⟩ ev66⟩
abbrev T_laws_markCellS_2 : Type := Qz46
def S_laws_markCellS_2 (k0 : Qz47 → Option R) (again : T_laws_markCellS_2 → Option R) (t2 : T_laws_markCellS_2) : Option R :=
 bif (decide (t2.2.1 < ((List.length t2.2.2 : Nat) : Int))) then if (0 : Int) ≤ t2.2.1 then if t2.2.1 < ((List.length t2.2.2 : Nat) : Int) then if (0 : Int) ≤ t2.2.1 then if t2.2.1 < ((List.length (List.set t2.2.2 (Int.toNat t2.2.1) (t2.1, (rd_Cell t2.2.2 t2.2.1).2)) : Nat) : Int) then if (0 : Int) ≤ t2.2.1 then if t2.2.1 < ((List.length (List.set (List.set t2.2.2 (Int.toNat t2.2.1) (t2.1, (rd_Cell t2.2.2 t2.2.1).2)) (Int.toNat t2.2.1) ((rd_Cell (List.set t2.2.2 (Int.toNat t2.2.1) (t2.1, (rd_Cell t2.2.2 t2.2.1).2)) t2.2.1).1, ((Int.tmod (Go.IntKind.wrap .i64 (t2.1 + (1 : Int))) (3 : Int)) == (0 : Int)), (rd_Cell (List.set t2.2.2 (Int.toNat t2.2.1) (t2.1, (rd_Cell t2.2.2 t2.2.1).2)) t2.2.1).2.2)) : Nat) : Int) then let l1 : List E_Cell := (List.set (List.set (List.set t2.2.2 (Int.toNat t2.2.1) (t2.1, (rd_Cell t2.2.2 t2.2.1).2)) (Int.toNat t2.2.1) ((rd_Cell (List.set t2.2.2 (Int.toNat t2.2.1) (t2.1, (rd_Cell t2.2.2 t2.2.1).2)) t2.2.1).1, ((Int.tmod (Go.IntKind.wrap .i64 (t2.1 + (1 : Int))) (3 : Int)) == (0 : Int)), (rd_Cell (List.set t2.2.2 (Int.toNat t2.2.1) (t2.1, (rd_Cell t2.2.2 t2.2.1).2)) t2.2.1).2.2)) (Int.toNat t2.2.1) ((rd_Cell (List.set (List.set t2.2.2 (Int.toNat t2.2.1) (t2.1, (rd_Cell t2.2.2 t2.2.1).2)) (Int.toNat t2.2.1) ((rd_Cell (List.set t2.2.2 (Int.toNat t2.2.1) (t2.1, (rd_Cell t2.2.2 t2.2.1).2)) t2.2.1).1, ((Int.tmod (Go.IntKind.wrap .i64 (t2.1 + (1 : Int))) (3 : Int)) == (0 : Int)), (rd_Cell (List.set t2.2.2 (Int.toNat t2.2.1) (t2.1, (rd_Cell t2.2.2 t2.2.1).2)) t2.2.1).2.2)) t2.2.1).1, (rd_Cell (List.set (List.set t2.2.2 (Int.toNat t2.2.1) (t2.1, (rd_Cell t2.2.2 t2.2.1).2)) (Int.toNat t2.2.1) ((rd_Cell (List.set t2.2.2 (Int.toNat t2.2.1) (t2.1, (rd_Cell t2.2.2 t2.2.1).2)) t2.2.1).1, ((Int.tmod (Go.IntKind.wrap .i64 (t2.1 + (1 : Int))) (3 : Int)) == (0 : Int)), (rd_Cell (List.set t2.2.2 (Int.toNat t2.2.1) (t2.1, (rd_Cell t2.2.2 t2.2.1).2)) t2.2.1).2.2)) t2.2.1).2.1, (Go.IntKind.wrap .i64 ((Go.IntKind.wrap .i64 (t2.1 + (1 : Int))) + (1 : Int))))); again ((Go.IntKind.wrap .i64 ((Go.IntKind.wrap .i64 ((Go.IntKind.wrap .i64 (t2.1 + (1 : Int))) + (1 : Int))) + (1 : Int))), (Go.IntKind.wrap .i64 (t2.2.1 + (1 : Int))), l1) else none else none else none else none else none else none else k0 (t2.1, t2.2.2)
def L_laws_markCellS_2 k0 := iter (@S_laws_markCellS_2 R k0) FUEL
def F_laws_markCellS (x : Qz48) : Option Qz47 :=
 L_laws_markCellS_2 (fun x2 => some (x2.1, x2.2)) (x.2, (0 : Int), x.1)
def f67Q : List QF := []
def f67e2_0 (t : Qz46) : St := ⟨.own 10000000 :: vI t.1 :: dd 3 (vI t.2.1 :: dd 30 []), [(10000000, .deep true 1 95 ts_Cell t.2.2)]⟩
def f67g2 : Gk T_laws_markCellS_2 := fun κ => S_laws_markCellS_2 (fun t => κ (some 0) ⟨.own 10000000 :: vI t.1 :: dd 34 [], [(10000000, .deep true 1 95 ts_Cell t.2)]⟩)
def f67P : Lp := lpC 2 (unG qz46 f67e2_0) @f67g2 lpN
theorem f67C2 : LF f67Q f67P 67 2 Tryz.f67 0 f67e2_0 @f67g2 fun t => t := fun R κ again t => by kernel_rfl
theorem f67k2 : LK f67Q f67P 67 Tryz.f67 0 := lkN (u := (unG qz46 f67e2_0)) (unG_ok fun t => by kernel_rfl) f67C2
theorem ev67 : EV f67Q f67P 67 Tryz.f67 sg67 qz48 qz47 F_laws_markCellS := fun x => by kernel_rfl
def q67 : QF := ⟨67, F_laws_markCellS, okN (n := 1) Tryz.func67 ⟨f67k2, trivial⟩ ev67⟩
abbrev T_laws_markText_4 : Type := Qz49
def S_laws_markText_4 (k0 : ByteArray → Option R) (again : T_laws_markText_4 → Option R) (t4 : T_laws_markText_4) : Option R :=
 bif (decide (t4.1 > (0 : Int))) then if ByteArray.size (textOf ([(Go.IntKind.wrap .u8 (Go.IntKind.wrap .i64 ((48 : Int) + (Int.tmod t4.1 (10 : Int)))))] : List E_u8)) + ByteArray.size t4.2 < 140737488355328 then again ((Go.IntKind.wrap .i64 (Int.tdiv t4.1 (10 : Int))), (show ByteArray from (show ByteArray from (textOf ([(Go.IntKind.wrap .u8 (Go.IntKind.wrap .i64 ((48 : Int) + (Int.tmod t4.1 (10 : Int)))))] : List E_u8))) ++ (show ByteArray from t4.2))) else none else k0 t4.2
def L_laws_markText_4 k0 := iter (@S_laws_markText_4 R k0) FUEL
def F_laws_markText (x : Int) : Option ByteArray :=
 bif (decide (x ≤ (0 : Int))) then some ({ data := #[109, 48] }) else L_laws_markText_4 (fun x1 => if ByteArray.size ({ data := #[109] }) + ByteArray.size x1 < 140737488355328 then some (show ByteArray from (show ByteArray from { data := #[109] }) ++ (show ByteArray from x1)) else none) (x, { data := #[] })
def f146Q : List QF := []
def f146e4_0 (t : Qz49) : St := ⟨vI t.1 :: dd 2 (vS t.2 :: dd 16 []), []⟩
def f146g4 : Gk T_laws_markText_4 := fun κ => S_laws_markText_4 (fun t => κ (some 0) ⟨dd 3 (vS t :: dd 16 []), []⟩)
def f146P : Lp := lpC 4 (unG qz49 f146e4_0) @f146g4 lpN
theorem f146C4 : LF f146Q f146P 146 4 Tryz.f146 0 f146e4_0 @f146g4 fun t => t := fun R κ again t => by kernel_rfl
theorem f146k4 : LK f146Q f146P 146 Tryz.f146 0 := lkN (u := (unG qz49 f146e4_0)) (unG_ok fun t => by kernel_rfl) f146C4
theorem ev146 : EV f146Q f146P 146 Tryz.f146 sg146 [(.int .i64)] [.str] F_laws_markText := fun x => by kernel_rfl
def q146 : QF := ⟨146, F_laws_markText, okN (n := 1) Tryz.func146 ⟨f146k4, trivial⟩ ev146⟩
abbrev T_laws_markVolS_2 : Type := Qz50
def S_laws_markVolS_2 (k0 : Qz51 → Option R) (again : T_laws_markVolS_2 → Option R) (t2 : T_laws_markVolS_2) : Option R :=
 bif (decide (t2.2.1 < ((List.length t2.2.2 : Nat) : Int))) then Option.bind (F_laws_markText t2.1) fun r1 => if (0 : Int) ≤ t2.2.1 then if t2.2.1 < ((List.length t2.2.2 : Nat) : Int) then if (0 : Int) ≤ t2.2.1 then if t2.2.1 < ((List.length (List.set t2.2.2 (Int.toNat t2.2.1) (r1, (rd_Vol t2.2.2 t2.2.1).2)) : Nat) : Int) then if (0 : Int) ≤ t2.2.1 then if t2.2.1 < ((List.length (List.set (List.set t2.2.2 (Int.toNat t2.2.1) (r1, (rd_Vol t2.2.2 t2.2.1).2)) (Int.toNat t2.2.1) ((rd_Vol (List.set t2.2.2 (Int.toNat t2.2.1) (r1, (rd_Vol t2.2.2 t2.2.1).2)) t2.2.1).1, (Go.IntKind.wrap .i64 (t2.1 + (1 : Int))), (rd_Vol (List.set t2.2.2 (Int.toNat t2.2.1) (r1, (rd_Vol t2.2.2 t2.2.1).2)) t2.2.1).2.2)) : Nat) : Int) then let l2 : List E_Vol := (List.set (List.set (List.set t2.2.2 (Int.toNat t2.2.1) (r1, (rd_Vol t2.2.2 t2.2.1).2)) (Int.toNat t2.2.1) ((rd_Vol (List.set t2.2.2 (Int.toNat t2.2.1) (r1, (rd_Vol t2.2.2 t2.2.1).2)) t2.2.1).1, (Go.IntKind.wrap .i64 (t2.1 + (1 : Int))), (rd_Vol (List.set t2.2.2 (Int.toNat t2.2.1) (r1, (rd_Vol t2.2.2 t2.2.1).2)) t2.2.1).2.2)) (Int.toNat t2.2.1) ((rd_Vol (List.set (List.set t2.2.2 (Int.toNat t2.2.1) (r1, (rd_Vol t2.2.2 t2.2.1).2)) (Int.toNat t2.2.1) ((rd_Vol (List.set t2.2.2 (Int.toNat t2.2.1) (r1, (rd_Vol t2.2.2 t2.2.1).2)) t2.2.1).1, (Go.IntKind.wrap .i64 (t2.1 + (1 : Int))), (rd_Vol (List.set t2.2.2 (Int.toNat t2.2.1) (r1, (rd_Vol t2.2.2 t2.2.1).2)) t2.2.1).2.2)) t2.2.1).1, (rd_Vol (List.set (List.set t2.2.2 (Int.toNat t2.2.1) (r1, (rd_Vol t2.2.2 t2.2.1).2)) (Int.toNat t2.2.1) ((rd_Vol (List.set t2.2.2 (Int.toNat t2.2.1) (r1, (rd_Vol t2.2.2 t2.2.1).2)) t2.2.1).1, (Go.IntKind.wrap .i64 (t2.1 + (1 : Int))), (rd_Vol (List.set t2.2.2 (Int.toNat t2.2.1) (r1, (rd_Vol t2.2.2 t2.2.1).2)) t2.2.1).2.2)) t2.2.1).2.1, (Go.IntKind.wrap .i64 ((Go.IntKind.wrap .i64 (t2.1 + (1 : Int))) + (1 : Int))), (rd_Vol (List.set (List.set t2.2.2 (Int.toNat t2.2.1) (r1, (rd_Vol t2.2.2 t2.2.1).2)) (Int.toNat t2.2.1) ((rd_Vol (List.set t2.2.2 (Int.toNat t2.2.1) (r1, (rd_Vol t2.2.2 t2.2.1).2)) t2.2.1).1, (Go.IntKind.wrap .i64 (t2.1 + (1 : Int))), (rd_Vol (List.set t2.2.2 (Int.toNat t2.2.1) (r1, (rd_Vol t2.2.2 t2.2.1).2)) t2.2.1).2.2)) t2.2.1).2.2.2)); if (0 : Int) ≤ t2.2.1 then if t2.2.1 < ((List.length l2 : Nat) : Int) then again ((Go.IntKind.wrap .i64 ((Go.IntKind.wrap .i64 ((Go.IntKind.wrap .i64 ((Go.IntKind.wrap .i64 (t2.1 + (1 : Int))) + (1 : Int))) + (1 : Int))) + (1 : Int))), (Go.IntKind.wrap .i64 (t2.2.1 + (1 : Int))), (List.set l2 (Int.toNat t2.2.1) ((rd_Vol l2 t2.2.1).1, (rd_Vol l2 t2.2.1).2.1, (rd_Vol l2 t2.2.1).2.2.1, ((Int.tmod (Go.IntKind.wrap .i64 ((Go.IntKind.wrap .i64 ((Go.IntKind.wrap .i64 (t2.1 + (1 : Int))) + (1 : Int))) + (1 : Int))) (3 : Int)) == (0 : Int))))) else none else none else none else none else none else none else none else none else k0 (t2.1, t2.2.2)
def L_laws_markVolS_2 k0 := iter (@S_laws_markVolS_2 R k0) FUEL
def F_laws_markVolS (x : Qz52) : Option Qz51 :=
 L_laws_markVolS_2 (fun x3 => some (x3.1, x3.2)) (x.2, (0 : Int), x.1)
def f68Q : List QF := [q146]
def f68e2_0 (t : Qz50) : St := ⟨.own 10000000 :: vI t.1 :: dd 3 (vI t.2.1 :: dd 38 []), [(10000000, .deep true 1 91 ts_Vol t.2.2)]⟩
def f68g2 : Gk T_laws_markVolS_2 := fun κ => S_laws_markVolS_2 (fun t => κ (some 0) ⟨.own 10000000 :: vI t.1 :: dd 42 [], [(10000000, .deep true 1 91 ts_Vol t.2)]⟩)
def f68P : Lp := lpC 2 (unG qz50 f68e2_0) @f68g2 lpN
theorem f68C2 : LF f68Q f68P 68 2 Tryz.f68 0 f68e2_0 @f68g2 fun t => t := fun R κ again t => by kernel_rfl
theorem f68k2 : LK f68Q f68P 68 Tryz.f68 0 := lkN (u := (unG qz50 f68e2_0)) (unG_ok fun t => by kernel_rfl) f68C2
theorem ev68 : EV f68Q f68P 68 Tryz.f68 sg68 qz52 qz51 F_laws_markVolS := fun x => by kernel_rfl
def q68 : QF := ⟨68, F_laws_markVolS, okN (n := 1) Tryz.func68 ⟨f68k2, trivial⟩ ev68⟩
def F_laws_markPool (x : Qz53) : Option Qz54 :=
 Option.bind (F_laws_markTree (x.1, x.2.1, x.2.2.2.2.2.2)) fun r1 => Option.bind (F_laws_markAgeS (x.2.2.1, r1.1)) fun r2 => Option.bind (F_laws_markCellS (x.2.2.2.1, r2.1)) fun r3 => Option.bind (F_laws_markVolS (x.2.2.2.2.1, r3.1)) fun r4 => some (r4.1, r1.2.1, r1.2.2, r2.2, r3.2, r4.2)
theorem ev16 : EV [q65, q66, q67, q68] lpN 16 Tryz.f16 sg16 qz53 qz54 F_laws_markPool := fun x => by kernel_rfl
def q16 : QF := ⟨16, F_laws_markPool, okN (n := 0) Tryz.func16 trivial ev16⟩
abbrev T_laws_markByteS_2 : Type := Qz55
def S_laws_markByteS_2 (k0 : Qz56 → Option R) (again : T_laws_markByteS_2 → Option R) (t2 : T_laws_markByteS_2) : Option R :=
 bif (decide (t2.2.1 < ((List.length t2.2.2 : Nat) : Int))) then if (0 : Int) ≤ t2.2.1 then if t2.2.1 < ((List.length t2.2.2 : Nat) : Int) then again ((Go.IntKind.wrap .i64 (t2.1 + (1 : Int))), (Go.IntKind.wrap .i64 (t2.2.1 + (1 : Int))), (List.set t2.2.2 (Int.toNat t2.2.1) (Go.IntKind.wrap .u8 t2.1))) else none else none else k0 (t2.1, t2.2.2)
def L_laws_markByteS_2 k0 := iter (@S_laws_markByteS_2 R k0) FUEL
def F_laws_markByteS (x : Qz57) : Option Qz56 :=
 L_laws_markByteS_2 (fun x1 => some (x1.1, x1.2)) (x.2, (0 : Int), x.1)
def f17Q : List QF := []
def f17e2_0 (t : Qz55) : St := ⟨.own 10000000 :: vI t.1 :: dd 3 (vI t.2.1 :: dd 14 []), [(10000000, .deep true 1 5 ts_u8 t.2.2)]⟩
def f17g2 : Gk T_laws_markByteS_2 := fun κ => S_laws_markByteS_2 (fun t => κ (some 0) ⟨.own 10000000 :: vI t.1 :: dd 18 [], [(10000000, .deep true 1 5 ts_u8 t.2)]⟩)
def f17P : Lp := lpC 2 (unG qz55 f17e2_0) @f17g2 lpN
theorem f17C2 : LF f17Q f17P 17 2 Tryz.f17 0 f17e2_0 @f17g2 fun t => t := fun R κ again t => by kernel_rfl
theorem f17k2 : LK f17Q f17P 17 Tryz.f17 0 := lkN (u := (unG qz55 f17e2_0)) (unG_ok fun t => by kernel_rfl) f17C2
theorem ev17 : EV f17Q f17P 17 Tryz.f17 sg17 qz57 qz56 F_laws_markByteS := fun x => by kernel_rfl
def q17 : QF := ⟨17, F_laws_markByteS, okN (n := 1) Tryz.func17 ⟨f17k2, trivial⟩ ev17⟩
abbrev T_laws_markByteSS_2 : Type := Qz58
def S_laws_markByteSS_2 (k0 : Qz59 → Option R) (again : T_laws_markByteSS_2 → Option R) (t2 : T_laws_markByteSS_2) : Option R :=
 bif (decide (t2.2.1 < ((List.length t2.2.2 : Nat) : Int))) then if (0 : Int) ≤ t2.2.1 then if t2.2.1 < ((List.length t2.2.2 : Nat) : Int) then Option.bind (F_laws_markByteS ((rd_s_u8 t2.2.2 t2.2.1), t2.1)) fun r1 => again (r1.1, (Go.IntKind.wrap .i64 (t2.2.1 + (1 : Int))), (List.set t2.2.2 (Int.toNat t2.2.1) r1.2)) else none else none else k0 (t2.1, t2.2.2)
def L_laws_markByteSS_2 k0 := iter (@S_laws_markByteSS_2 R k0) FUEL
def F_laws_markByteSS (x : Qz60) : Option Qz59 :=
 L_laws_markByteSS_2 (fun x2 => some (x2.1, x2.2)) (x.2, (0 : Int), x.1)
def f81Q : List QF := [q17]
def f81e2_0 (t : Qz58) : St := ⟨.own 10000000 :: vI t.1 :: dd 3 (vI t.2.1 :: dd 13 []), [(10000000, .deep true 1 32 ts_s_u8 t.2.2)]⟩
def f81g2 : Gk T_laws_markByteSS_2 := fun κ => S_laws_markByteSS_2 (fun t => κ (some 0) ⟨.own 10000000 :: vI t.1 :: dd 17 [], [(10000000, .deep true 1 32 ts_s_u8 t.2)]⟩)
def f81P : Lp := lpC 2 (unG qz58 f81e2_0) @f81g2 lpN
theorem f81C2 : LF f81Q f81P 81 2 Tryz.f81 0 f81e2_0 @f81g2 fun t => t := fun R κ again t => by kernel_rfl
theorem f81k2 : LK f81Q f81P 81 Tryz.f81 0 := lkN (u := (unG qz58 f81e2_0)) (unG_ok fun t => by kernel_rfl) f81C2
theorem ev81 : EV f81Q f81P 81 Tryz.f81 sg81 qz60 qz59 F_laws_markByteSS := fun x => by kernel_rfl
def q81 : QF := ⟨81, F_laws_markByteSS, okN (n := 1) Tryz.func81 ⟨f81k2, trivial⟩ ev81⟩
abbrev T_laws_markWrS_2 : Type := Qz61
def S_laws_markWrS_2 (k0 : Qz62 → Option R) (again : T_laws_markWrS_2 → Option R) (t2 : T_laws_markWrS_2) : Option R :=
 bif (decide (t2.2.1 < ((List.length t2.2.2 : Nat) : Int))) then if (0 : Int) ≤ t2.2.1 then if t2.2.1 < ((List.length t2.2.2 : Nat) : Int) then if (0 : Int) ≤ t2.2.1 then if t2.2.1 < ((List.length (List.set t2.2.2 (Int.toNat t2.2.1) (t2.1, (rd_Wr t2.2.2 t2.2.1).2)) : Nat) : Int) then Option.bind (F_laws_markByteS ((rd_Wr (List.set t2.2.2 (Int.toNat t2.2.1) (t2.1, (rd_Wr t2.2.2 t2.2.1).2)) t2.2.1).2, (Go.IntKind.wrap .i64 (t2.1 + (1 : Int))))) fun r1 => again (r1.1, (Go.IntKind.wrap .i64 (t2.2.1 + (1 : Int))), (List.set (List.set t2.2.2 (Int.toNat t2.2.1) (t2.1, (rd_Wr t2.2.2 t2.2.1).2)) (Int.toNat t2.2.1) ((rd_Wr (List.set t2.2.2 (Int.toNat t2.2.1) (t2.1, (rd_Wr t2.2.2 t2.2.1).2)) t2.2.1).1, r1.2))) else none else none else none else none else k0 (t2.1, t2.2.2)
def L_laws_markWrS_2 k0 := iter (@S_laws_markWrS_2 R k0) FUEL
def F_laws_markWrS (x : Qz63) : Option Qz62 :=
 L_laws_markWrS_2 (fun x2 => some (x2.1, x2.2)) (x.2, (0 : Int), x.1)
def f82Q : List QF := [q17]
def f82e2_0 (t : Qz61) : St := ⟨.own 10000000 :: vI t.1 :: dd 3 (vI t.2.1 :: dd 21 []), [(10000000, .deep true 1 186 ts_Wr t.2.2)]⟩
def f82g2 : Gk T_laws_markWrS_2 := fun κ => S_laws_markWrS_2 (fun t => κ (some 0) ⟨.own 10000000 :: vI t.1 :: dd 25 [], [(10000000, .deep true 1 186 ts_Wr t.2)]⟩)
def f82P : Lp := lpC 2 (unG qz61 f82e2_0) @f82g2 lpN
theorem f82C2 : LF f82Q f82P 82 2 Tryz.f82 0 f82e2_0 @f82g2 fun t => t := fun R κ again t => by kernel_rfl
theorem f82k2 : LK f82Q f82P 82 Tryz.f82 0 := lkN (u := (unG qz61 f82e2_0)) (unG_ok fun t => by kernel_rfl) f82C2
theorem ev82 : EV f82Q f82P 82 Tryz.f82 sg82 qz63 qz62 F_laws_markWrS := fun x => by kernel_rfl
def q82 : QF := ⟨82, F_laws_markWrS, okN (n := 1) Tryz.func82 ⟨f82k2, trivial⟩ ev82⟩
def F_laws_markDev (x : Qz64) : Option Qz65 :=
 Option.bind (F_laws_markByteSS (x.1, x.2.2.2.2)) fun r1 => Option.bind (F_laws_markWrS (x.2.1, r1.1)) fun r2 => some (r2.1, r1.2, r2.2)
theorem ev25 : EV [q81, q82] lpN 25 Tryz.f25 sg25 qz64 qz65 F_laws_markDev := fun x => by kernel_rfl
def q25 : QF := ⟨25, F_laws_markDev, okN (n := 0) Tryz.func25 trivial ev25⟩
def F_laws_markStore (x : Qz66) : Option Qz67 :=
 Option.bind (F_laws_markDev (x.1, x.2.1, x.2.2.1, x.2.2.2.1, x.2.2.2.2.2.2.2.2.2.2.2.2.2)) fun r1 => Option.bind (F_laws_markPool (x.2.2.2.2.1, x.2.2.2.2.2.1, x.2.2.2.2.2.2.1, x.2.2.2.2.2.2.2.1, x.2.2.2.2.2.2.2.2.1, x.2.2.2.2.2.2.2.2.2.1, r1.1)) fun r2 => some (r2.1, r1.2.1, r1.2.2, r2.2.1, r2.2.2.1, r2.2.2.2.1, r2.2.2.2.2.1, r2.2.2.2.2.2)
theorem ev33 : EV [q16, q25] lpN 33 Tryz.f33 sg33 qz66 qz67 F_laws_markStore := fun x => by kernel_rfl
def q33 : QF := ⟨33, F_laws_markStore, okN (n := 0) Tryz.func33 trivial ev33⟩
abbrev T_laws_heldIntS_2 : Type := Qz68
def S_laws_heldIntS_2 (k0 : Qz69 → Option R) (k1 : Int → Option R) (again : T_laws_heldIntS_2 → Option R) (t2 : T_laws_heldIntS_2) : Option R :=
 bif (decide (t2.2.2 < ((List.length t2.1 : Nat) : Int))) then if (0 : Int) ≤ t2.2.2 then if t2.2.2 < ((List.length t2.1 : Nat) : Int) then bif ((rd_i64 t2.1 t2.2.2) != t2.2.1) then k0 (t2.2.1, (-1 : Int)) else again (t2.1, (Go.IntKind.wrap .i64 (t2.2.1 + (1 : Int))), (Go.IntKind.wrap .i64 (t2.2.2 + (1 : Int)))) else none else none else k1 t2.2.1
def L_laws_heldIntS_2 k0 k1 := iter (@S_laws_heldIntS_2 R k0 k1) FUEL
def F_laws_heldIntS (x : Qz31) : Option Int :=
 L_laws_heldIntS_2 (fun x1 => some x1.2) (fun x2 => some x2) (x.1, x.2, (0 : Int))
def f168Q : List QF := []
def f168e2_0 (t : Qz68) : St := ⟨v_i64 t.1 :: vI t.2.1 :: dd 3 (vI t.2.2 :: dd 15 []), []⟩
def f168g2 : Gk T_laws_heldIntS_2 := fun κ => S_laws_heldIntS_2 (fun t => κ none ⟨.dead :: vI t.1 :: dd 2 (vI t.2 :: dd 16 []), []⟩) (fun t => κ (some 0) ⟨.dead :: vI t :: dd 19 [], []⟩)
def f168P : Lp := lpC 2 (unG qz68 f168e2_0) @f168g2 lpN
theorem f168C2 : LF f168Q f168P 168 2 Tryz.f168 0 f168e2_0 @f168g2 fun t => t := fun R κ again t => by kernel_rfl
theorem f168k2 : LK f168Q f168P 168 Tryz.f168 0 := lkN (u := (unG qz68 f168e2_0)) (unG_ok fun t => by kernel_rfl) f168C2
theorem ev168 : EV f168Q f168P 168 Tryz.f168 sg168 qz31 [(.int .i64)] F_laws_heldIntS := fun x => by kernel_rfl
def q168 : QF := ⟨168, F_laws_heldIntS, okN (n := 1) Tryz.func168 ⟨f168k2, trivial⟩ ev168⟩
abbrev T_laws_heldKeyS_2 : Type := Qz70
def S_laws_heldKeyS_2 (k0 : Qz69 → Option R) (k1 : Int → Option R) (again : T_laws_heldKeyS_2 → Option R) (t2 : T_laws_heldKeyS_2) : Option R :=
 bif (decide (t2.2.2 < ((List.length t2.1 : Nat) : Int))) then if (0 : Int) ≤ t2.2.2 then if t2.2.2 < ((List.length t2.1 : Nat) : Int) then bif ((rd_Key t2.1 t2.2.2).1 != t2.2.1) then k0 (t2.2.1, (-1 : Int)) else if (0 : Int) ≤ t2.2.2 then if t2.2.2 < ((List.length t2.1 : Nat) : Int) then bif ((rd_Key t2.1 t2.2.2).2.1 != (Go.IntKind.wrap .i64 (t2.2.1 + (1 : Int)))) then k0 ((Go.IntKind.wrap .i64 (t2.2.1 + (1 : Int))), (-1 : Int)) else if (0 : Int) ≤ t2.2.2 then if t2.2.2 < ((List.length t2.1 : Nat) : Int) then bif ((rd_Key t2.1 t2.2.2).2.2.1 != (Go.IntKind.wrap .i64 ((Go.IntKind.wrap .i64 (t2.2.1 + (1 : Int))) + (1 : Int)))) then k0 ((Go.IntKind.wrap .i64 ((Go.IntKind.wrap .i64 (t2.2.1 + (1 : Int))) + (1 : Int))), (-1 : Int)) else if (0 : Int) ≤ t2.2.2 then if t2.2.2 < ((List.length t2.1 : Nat) : Int) then bif ((rd_Key t2.1 t2.2.2).2.2.2.1 != (Go.IntKind.wrap .i64 ((Go.IntKind.wrap .i64 ((Go.IntKind.wrap .i64 (t2.2.1 + (1 : Int))) + (1 : Int))) + (1 : Int)))) then k0 ((Go.IntKind.wrap .i64 ((Go.IntKind.wrap .i64 ((Go.IntKind.wrap .i64 (t2.2.1 + (1 : Int))) + (1 : Int))) + (1 : Int))), (-1 : Int)) else if (0 : Int) ≤ t2.2.2 then if t2.2.2 < ((List.length t2.1 : Nat) : Int) then bif ((rd_Key t2.1 t2.2.2).2.2.2.2 != (Go.IntKind.wrap .i64 ((Go.IntKind.wrap .i64 ((Go.IntKind.wrap .i64 ((Go.IntKind.wrap .i64 (t2.2.1 + (1 : Int))) + (1 : Int))) + (1 : Int))) + (1 : Int)))) then k0 ((Go.IntKind.wrap .i64 ((Go.IntKind.wrap .i64 ((Go.IntKind.wrap .i64 ((Go.IntKind.wrap .i64 (t2.2.1 + (1 : Int))) + (1 : Int))) + (1 : Int))) + (1 : Int))), (-1 : Int)) else again (t2.1, (Go.IntKind.wrap .i64 ((Go.IntKind.wrap .i64 ((Go.IntKind.wrap .i64 ((Go.IntKind.wrap .i64 ((Go.IntKind.wrap .i64 (t2.2.1 + (1 : Int))) + (1 : Int))) + (1 : Int))) + (1 : Int))) + (1 : Int))), (Go.IntKind.wrap .i64 (t2.2.2 + (1 : Int)))) else none else none else none else none else none else none else none else none else none else none else k1 t2.2.1
def L_laws_heldKeyS_2 k0 k1 := iter (@S_laws_heldKeyS_2 R k0 k1) FUEL
def F_laws_heldKeyS (x : Qz34) : Option Int :=
 L_laws_heldKeyS_2 (fun x1 => some x1.2) (fun x2 => some x2) (x.1, x.2, (0 : Int))
def f255Q : List QF := []
def f255e2_0 (t : Qz70) : St := ⟨v_Key t.1 :: vI t.2.1 :: dd 3 (vI t.2.2 :: dd 52 []), []⟩
def f255g2 : Gk T_laws_heldKeyS_2 := fun κ => S_laws_heldKeyS_2 (fun t => κ none ⟨.dead :: vI t.1 :: dd 2 (vI t.2 :: dd 53 []), []⟩) (fun t => κ (some 0) ⟨.dead :: vI t :: dd 56 [], []⟩)
def f255P : Lp := lpC 2 (unG qz70 f255e2_0) @f255g2 lpN
theorem f255C2 : LF f255Q f255P 255 2 Tryz.f255 0 f255e2_0 @f255g2 fun t => t := fun R κ again t => by kernel_rfl
theorem f255k2 : LK f255Q f255P 255 Tryz.f255 0 := lkN (u := (unG qz70 f255e2_0)) (unG_ok fun t => by kernel_rfl) f255C2
theorem ev255 : EV f255Q f255P 255 Tryz.f255 sg255 qz34 [(.int .i64)] F_laws_heldKeyS := fun x => by kernel_rfl
def q255 : QF := ⟨255, F_laws_heldKeyS, okN (n := 1) Tryz.func255 ⟨f255k2, trivial⟩ ev255⟩
abbrev T_laws_heldKeySS_2 : Type := Qz71
def S_laws_heldKeySS_2 (k0 : Qz69 → Option R) (k1 : Int → Option R) (again : T_laws_heldKeySS_2 → Option R) (t2 : T_laws_heldKeySS_2) : Option R :=
 bif (decide (t2.2.2 < ((List.length t2.1 : Nat) : Int))) then if (0 : Int) ≤ t2.2.2 then if t2.2.2 < ((List.length t2.1 : Nat) : Int) then Option.bind (F_laws_heldKeyS ((rd_s_Key t2.1 t2.2.2), t2.2.1)) fun r1 => bif (decide (r1 < (0 : Int))) then k0 (r1, (-1 : Int)) else again (t2.1, r1, (Go.IntKind.wrap .i64 (t2.2.2 + (1 : Int)))) else none else none else k1 t2.2.1
def L_laws_heldKeySS_2 k0 k1 := iter (@S_laws_heldKeySS_2 R k0 k1) FUEL
def F_laws_heldKeySS (x : Qz37) : Option Int :=
 L_laws_heldKeySS_2 (fun x2 => some x2.2) (fun x3 => some x3) (x.1, x.2, (0 : Int))
def f222Q : List QF := [q255]
def f222e2_0 (t : Qz71) : St := ⟨v_s_Key t.1 :: vI t.2.1 :: dd 3 (vI t.2.2 :: dd 15 []), []⟩
def f222g2 : Gk T_laws_heldKeySS_2 := fun κ => S_laws_heldKeySS_2 (fun t => κ none ⟨.dead :: vI t.1 :: dd 2 (vI t.2 :: dd 16 []), []⟩) (fun t => κ (some 0) ⟨.dead :: vI t :: dd 19 [], []⟩)
def f222P : Lp := lpC 2 (unG qz71 f222e2_0) @f222g2 lpN
theorem f222C2 : LF f222Q f222P 222 2 Tryz.f222 0 f222e2_0 @f222g2 fun t => t := fun R κ again t => by kernel_rfl
theorem f222k2 : LK f222Q f222P 222 Tryz.f222 0 := lkN (u := (unG qz71 f222e2_0)) (unG_ok fun t => by kernel_rfl) f222C2
theorem ev222 : EV f222Q f222P 222 Tryz.f222 sg222 qz37 [(.int .i64)] F_laws_heldKeySS := fun x => by kernel_rfl
def q222 : QF := ⟨222, F_laws_heldKeySS, okN (n := 1) Tryz.func222 ⟨f222k2, trivial⟩ ev222⟩
abbrev T_laws_heldNodeS_2 : Type := Qz72
def S_laws_heldNodeS_2 (k0 : Qz69 → Option R) (k1 : Int → Option R) (again : T_laws_heldNodeS_2 → Option R) (t2 : T_laws_heldNodeS_2) : Option R :=
 bif (decide (t2.2.2 < ((List.length t2.1 : Nat) : Int))) then if (0 : Int) ≤ t2.2.2 then if t2.2.2 < ((List.length t2.1 : Nat) : Int) then Option.bind (F_laws_heldKeySS ((rd_Node t2.1 t2.2.2), t2.2.1)) fun r1 => bif (decide (r1 < (0 : Int))) then k0 (r1, (-1 : Int)) else again (t2.1, r1, (Go.IntKind.wrap .i64 (t2.2.2 + (1 : Int)))) else none else none else k1 t2.2.1
def L_laws_heldNodeS_2 k0 k1 := iter (@S_laws_heldNodeS_2 R k0 k1) FUEL
def F_laws_heldNodeS (x : Qz40) : Option Int :=
 L_laws_heldNodeS_2 (fun x2 => some x2.2) (fun x3 => some x3) (x.1, x.2, (0 : Int))
def f169Q : List QF := [q222]
def f169e2_0 (t : Qz72) : St := ⟨v_Node t.1 :: vI t.2.1 :: dd 3 (vI t.2.2 :: dd 16 []), []⟩
def f169g2 : Gk T_laws_heldNodeS_2 := fun κ => S_laws_heldNodeS_2 (fun t => κ none ⟨.dead :: vI t.1 :: dd 2 (vI t.2 :: dd 17 []), []⟩) (fun t => κ (some 0) ⟨.dead :: vI t :: dd 20 [], []⟩)
def f169P : Lp := lpC 2 (unG qz72 f169e2_0) @f169g2 lpN
theorem f169C2 : LF f169Q f169P 169 2 Tryz.f169 0 f169e2_0 @f169g2 fun t => t := fun R κ again t => by kernel_rfl
theorem f169k2 : LK f169Q f169P 169 Tryz.f169 0 := lkN (u := (unG qz72 f169e2_0)) (unG_ok fun t => by kernel_rfl) f169C2
theorem ev169 : EV f169Q f169P 169 Tryz.f169 sg169 qz40 [(.int .i64)] F_laws_heldNodeS := fun x => by kernel_rfl
def q169 : QF := ⟨169, F_laws_heldNodeS, okN (n := 1) Tryz.func169 ⟨f169k2, trivial⟩ ev169⟩
def F_laws_heldTree (x : Qz41) : Option Int :=
 Option.bind (F_laws_heldIntS (x.1, x.2.2)) fun r1 => bif (decide (r1 < (0 : Int))) then some (-1 : Int) else Option.bind (F_laws_heldNodeS (x.2.1, r1)) fun r2 => bif (decide (r2 < (0 : Int))) then some (-1 : Int) else some r2
theorem ev91 : EV [q168, q169] lpN 91 Tryz.f91 sg91 qz41 [(.int .i64)] F_laws_heldTree := fun x => by kernel_rfl
def q91 : QF := ⟨91, F_laws_heldTree, okN (n := 0) Tryz.func91 trivial ev91⟩
abbrev T_laws_heldAgeS_2 : Type := Qz73
def S_laws_heldAgeS_2 (k0 : Qz69 → Option R) (k1 : Int → Option R) (again : T_laws_heldAgeS_2 → Option R) (t2 : T_laws_heldAgeS_2) : Option R :=
 bif (decide (t2.2.2 < ((List.length t2.1 : Nat) : Int))) then if (0 : Int) ≤ t2.2.2 then if t2.2.2 < ((List.length t2.1 : Nat) : Int) then bif ((rd_Age t2.1 t2.2.2).1 != t2.2.1) then k0 (t2.2.1, (-1 : Int)) else if (0 : Int) ≤ t2.2.2 then if t2.2.2 < ((List.length t2.1 : Nat) : Int) then bif ((rd_Age t2.1 t2.2.2).2 != (Go.IntKind.wrap .i64 (t2.2.1 + (1 : Int)))) then k0 ((Go.IntKind.wrap .i64 (t2.2.1 + (1 : Int))), (-1 : Int)) else again (t2.1, (Go.IntKind.wrap .i64 ((Go.IntKind.wrap .i64 (t2.2.1 + (1 : Int))) + (1 : Int))), (Go.IntKind.wrap .i64 (t2.2.2 + (1 : Int)))) else none else none else none else none else k1 t2.2.1
def L_laws_heldAgeS_2 k0 k1 := iter (@S_laws_heldAgeS_2 R k0 k1) FUEL
def F_laws_heldAgeS (x : Qz45) : Option Int :=
 L_laws_heldAgeS_2 (fun x1 => some x1.2) (fun x2 => some x2) (x.1, x.2, (0 : Int))
def f92Q : List QF := []
def f92e2_0 (t : Qz73) : St := ⟨v_Age t.1 :: vI t.2.1 :: dd 3 (vI t.2.2 :: dd 25 []), []⟩
def f92g2 : Gk T_laws_heldAgeS_2 := fun κ => S_laws_heldAgeS_2 (fun t => κ none ⟨.dead :: vI t.1 :: dd 2 (vI t.2 :: dd 26 []), []⟩) (fun t => κ (some 0) ⟨.dead :: vI t :: dd 29 [], []⟩)
def f92P : Lp := lpC 2 (unG qz73 f92e2_0) @f92g2 lpN
theorem f92C2 : LF f92Q f92P 92 2 Tryz.f92 0 f92e2_0 @f92g2 fun t => t := fun R κ again t => by kernel_rfl
theorem f92k2 : LK f92Q f92P 92 Tryz.f92 0 := lkN (u := (unG qz73 f92e2_0)) (unG_ok fun t => by kernel_rfl) f92C2
theorem ev92 : EV f92Q f92P 92 Tryz.f92 sg92 qz45 [(.int .i64)] F_laws_heldAgeS := fun x => by kernel_rfl
def q92 : QF := ⟨92, F_laws_heldAgeS, okN (n := 1) Tryz.func92 ⟨f92k2, trivial⟩ ev92⟩
abbrev T_laws_heldCellS_2 : Type := Qz74
def S_laws_heldCellS_2 (k0 : Qz69 → Option R) (k1 : Int → Option R) (again : T_laws_heldCellS_2 → Option R) (t2 : T_laws_heldCellS_2) : Option R :=
 bif (decide (t2.2.2 < ((List.length t2.1 : Nat) : Int))) then if (0 : Int) ≤ t2.2.2 then if t2.2.2 < ((List.length t2.1 : Nat) : Int) then bif ((rd_Cell t2.1 t2.2.2).1 != t2.2.1) then k0 (t2.2.1, (-1 : Int)) else if (0 : Int) ≤ t2.2.2 then if t2.2.2 < ((List.length t2.1 : Nat) : Int) then bif (!((rd_Cell t2.1 t2.2.2).2.1 == ((Int.tmod (Go.IntKind.wrap .i64 (t2.2.1 + (1 : Int))) (3 : Int)) == (0 : Int)))) then k0 ((Go.IntKind.wrap .i64 (t2.2.1 + (1 : Int))), (-1 : Int)) else if (0 : Int) ≤ t2.2.2 then if t2.2.2 < ((List.length t2.1 : Nat) : Int) then bif ((rd_Cell t2.1 t2.2.2).2.2 != (Go.IntKind.wrap .i64 ((Go.IntKind.wrap .i64 (t2.2.1 + (1 : Int))) + (1 : Int)))) then k0 ((Go.IntKind.wrap .i64 ((Go.IntKind.wrap .i64 (t2.2.1 + (1 : Int))) + (1 : Int))), (-1 : Int)) else again (t2.1, (Go.IntKind.wrap .i64 ((Go.IntKind.wrap .i64 ((Go.IntKind.wrap .i64 (t2.2.1 + (1 : Int))) + (1 : Int))) + (1 : Int))), (Go.IntKind.wrap .i64 (t2.2.2 + (1 : Int)))) else none else none else none else none else none else none else k1 t2.2.1
def L_laws_heldCellS_2 k0 k1 := iter (@S_laws_heldCellS_2 R k0 k1) FUEL
def F_laws_heldCellS (x : Qz48) : Option Int :=
 L_laws_heldCellS_2 (fun x1 => some x1.2) (fun x2 => some x2) (x.1, x.2, (0 : Int))
def f93Q : List QF := []
def f93e2_0 (t : Qz74) : St := ⟨v_Cell t.1 :: vI t.2.1 :: dd 3 (vI t.2.2 :: dd 36 []), []⟩
def f93g2 : Gk T_laws_heldCellS_2 := fun κ => S_laws_heldCellS_2 (fun t => κ none ⟨.dead :: vI t.1 :: dd 2 (vI t.2 :: dd 37 []), []⟩) (fun t => κ (some 0) ⟨.dead :: vI t :: dd 40 [], []⟩)
def f93P : Lp := lpC 2 (unG qz74 f93e2_0) @f93g2 lpN
theorem f93C2 : LF f93Q f93P 93 2 Tryz.f93 0 f93e2_0 @f93g2 fun t => t := fun R κ again t => by kernel_rfl
theorem f93k2 : LK f93Q f93P 93 Tryz.f93 0 := lkN (u := (unG qz74 f93e2_0)) (unG_ok fun t => by kernel_rfl) f93C2
theorem ev93 : EV f93Q f93P 93 Tryz.f93 sg93 qz48 [(.int .i64)] F_laws_heldCellS := fun x => by kernel_rfl
def q93 : QF := ⟨93, F_laws_heldCellS, okN (n := 1) Tryz.func93 ⟨f93k2, trivial⟩ ev93⟩
abbrev T_laws_heldVolS_2 : Type := Qz75
def S_laws_heldVolS_2 (k0 : Qz69 → Option R) (k1 : Int → Option R) (again : T_laws_heldVolS_2 → Option R) (t2 : T_laws_heldVolS_2) : Option R :=
 bif (decide (t2.2.2 < ((List.length t2.1 : Nat) : Int))) then if (0 : Int) ≤ t2.2.2 then if t2.2.2 < ((List.length t2.1 : Nat) : Int) then Option.bind (F_laws_markText t2.2.1) fun r1 => bif (!((ByteArray.toList ((rd_Vol t2.1 t2.2.2).1)) == (ByteArray.toList r1))) then k0 (t2.2.1, (-1 : Int)) else if (0 : Int) ≤ t2.2.2 then if t2.2.2 < ((List.length t2.1 : Nat) : Int) then bif ((rd_Vol t2.1 t2.2.2).2.1 != (Go.IntKind.wrap .i64 (t2.2.1 + (1 : Int)))) then k0 ((Go.IntKind.wrap .i64 (t2.2.1 + (1 : Int))), (-1 : Int)) else if (0 : Int) ≤ t2.2.2 then if t2.2.2 < ((List.length t2.1 : Nat) : Int) then bif ((rd_Vol t2.1 t2.2.2).2.2.1 != (Go.IntKind.wrap .i64 ((Go.IntKind.wrap .i64 (t2.2.1 + (1 : Int))) + (1 : Int)))) then k0 ((Go.IntKind.wrap .i64 ((Go.IntKind.wrap .i64 (t2.2.1 + (1 : Int))) + (1 : Int))), (-1 : Int)) else if (0 : Int) ≤ t2.2.2 then if t2.2.2 < ((List.length t2.1 : Nat) : Int) then bif (!((rd_Vol t2.1 t2.2.2).2.2.2 == ((Int.tmod (Go.IntKind.wrap .i64 ((Go.IntKind.wrap .i64 ((Go.IntKind.wrap .i64 (t2.2.1 + (1 : Int))) + (1 : Int))) + (1 : Int))) (3 : Int)) == (0 : Int)))) then k0 ((Go.IntKind.wrap .i64 ((Go.IntKind.wrap .i64 ((Go.IntKind.wrap .i64 (t2.2.1 + (1 : Int))) + (1 : Int))) + (1 : Int))), (-1 : Int)) else again (t2.1, (Go.IntKind.wrap .i64 ((Go.IntKind.wrap .i64 ((Go.IntKind.wrap .i64 ((Go.IntKind.wrap .i64 (t2.2.1 + (1 : Int))) + (1 : Int))) + (1 : Int))) + (1 : Int))), (Go.IntKind.wrap .i64 (t2.2.2 + (1 : Int)))) else none else none else none else none else none else none else none else none else k1 t2.2.1
def L_laws_heldVolS_2 k0 k1 := iter (@S_laws_heldVolS_2 R k0 k1) FUEL
def F_laws_heldVolS (x : Qz52) : Option Int :=
 L_laws_heldVolS_2 (fun x2 => some x2.2) (fun x3 => some x3) (x.1, x.2, (0 : Int))
def f94Q : List QF := [q146]
def f94e2_0 (t : Qz75) : St := ⟨v_Vol t.1 :: vI t.2.1 :: dd 3 (vI t.2.2 :: dd 46 []), []⟩
def f94g2 : Gk T_laws_heldVolS_2 := fun κ => S_laws_heldVolS_2 (fun t => κ none ⟨.dead :: vI t.1 :: dd 2 (vI t.2 :: dd 47 []), []⟩) (fun t => κ (some 0) ⟨.dead :: vI t :: dd 50 [], []⟩)
def f94P : Lp := lpC 2 (unG qz75 f94e2_0) @f94g2 lpN
theorem f94C2 : LF f94Q f94P 94 2 Tryz.f94 0 f94e2_0 @f94g2 fun t => t := fun R κ again t => by kernel_rfl
theorem f94k2 : LK f94Q f94P 94 Tryz.f94 0 := lkN (u := (unG qz75 f94e2_0)) (unG_ok fun t => by kernel_rfl) f94C2
theorem ev94 : EV f94Q f94P 94 Tryz.f94 sg94 qz52 [(.int .i64)] F_laws_heldVolS := fun x => by kernel_rfl
def q94 : QF := ⟨94, F_laws_heldVolS, okN (n := 1) Tryz.func94 ⟨f94k2, trivial⟩ ev94⟩
def F_laws_heldPool (x : Qz53) : Option Int :=
 Option.bind (F_laws_heldTree (x.1, x.2.1, x.2.2.2.2.2.2)) fun r1 => bif (decide (r1 < (0 : Int))) then some (-1 : Int) else Option.bind (F_laws_heldAgeS (x.2.2.1, r1)) fun r2 => bif (decide (r2 < (0 : Int))) then some (-1 : Int) else Option.bind (F_laws_heldCellS (x.2.2.2.1, r2)) fun r3 => bif (decide (r3 < (0 : Int))) then some (-1 : Int) else Option.bind (F_laws_heldVolS (x.2.2.2.2.1, r3)) fun r4 => bif (decide (r4 < (0 : Int))) then some (-1 : Int) else some r4
theorem ev29 : EV [q91, q92, q93, q94] lpN 29 Tryz.f29 sg29 qz53 [(.int .i64)] F_laws_heldPool := fun x => by kernel_rfl
def q29 : QF := ⟨29, F_laws_heldPool, okN (n := 0) Tryz.func29 trivial ev29⟩
abbrev T_laws_heldByteS_2 : Type := Qz76
def S_laws_heldByteS_2 (k0 : Qz69 → Option R) (k1 : Int → Option R) (again : T_laws_heldByteS_2 → Option R) (t2 : T_laws_heldByteS_2) : Option R :=
 bif (decide (t2.2.2 < ((List.length t2.1 : Nat) : Int))) then if (0 : Int) ≤ t2.2.2 then if t2.2.2 < ((List.length t2.1 : Nat) : Int) then bif ((rd_u8 t2.1 t2.2.2) != (Go.IntKind.wrap .u8 t2.2.1)) then k0 (t2.2.1, (-1 : Int)) else again (t2.1, (Go.IntKind.wrap .i64 (t2.2.1 + (1 : Int))), (Go.IntKind.wrap .i64 (t2.2.2 + (1 : Int)))) else none else none else k1 t2.2.1
def L_laws_heldByteS_2 k0 k1 := iter (@S_laws_heldByteS_2 R k0 k1) FUEL
def F_laws_heldByteS (x : Qz57) : Option Int :=
 L_laws_heldByteS_2 (fun x1 => some x1.2) (fun x2 => some x2) (x.1, x.2, (0 : Int))
def f18Q : List QF := []
def f18e2_0 (t : Qz76) : St := ⟨v_u8 t.1 :: vI t.2.1 :: dd 3 (vI t.2.2 :: dd 16 []), []⟩
def f18g2 : Gk T_laws_heldByteS_2 := fun κ => S_laws_heldByteS_2 (fun t => κ none ⟨.dead :: vI t.1 :: dd 2 (vI t.2 :: dd 17 []), []⟩) (fun t => κ (some 0) ⟨.dead :: vI t :: dd 20 [], []⟩)
def f18P : Lp := lpC 2 (unG qz76 f18e2_0) @f18g2 lpN
theorem f18C2 : LF f18Q f18P 18 2 Tryz.f18 0 f18e2_0 @f18g2 fun t => t := fun R κ again t => by kernel_rfl
theorem f18k2 : LK f18Q f18P 18 Tryz.f18 0 := lkN (u := (unG qz76 f18e2_0)) (unG_ok fun t => by kernel_rfl) f18C2
theorem ev18 : EV f18Q f18P 18 Tryz.f18 sg18 qz57 [(.int .i64)] F_laws_heldByteS := fun x => by kernel_rfl
def q18 : QF := ⟨18, F_laws_heldByteS, okN (n := 1) Tryz.func18 ⟨f18k2, trivial⟩ ev18⟩
abbrev T_laws_heldByteSS_2 : Type := Qz77
def S_laws_heldByteSS_2 (k0 : Qz69 → Option R) (k1 : Int → Option R) (again : T_laws_heldByteSS_2 → Option R) (t2 : T_laws_heldByteSS_2) : Option R :=
 bif (decide (t2.2.2 < ((List.length t2.1 : Nat) : Int))) then if (0 : Int) ≤ t2.2.2 then if t2.2.2 < ((List.length t2.1 : Nat) : Int) then Option.bind (F_laws_heldByteS ((rd_s_u8 t2.1 t2.2.2), t2.2.1)) fun r1 => bif (decide (r1 < (0 : Int))) then k0 (r1, (-1 : Int)) else again (t2.1, r1, (Go.IntKind.wrap .i64 (t2.2.2 + (1 : Int)))) else none else none else k1 t2.2.1
def L_laws_heldByteSS_2 k0 k1 := iter (@S_laws_heldByteSS_2 R k0 k1) FUEL
def F_laws_heldByteSS (x : Qz60) : Option Int :=
 L_laws_heldByteSS_2 (fun x2 => some x2.2) (fun x3 => some x3) (x.1, x.2, (0 : Int))
def f174Q : List QF := [q18]
def f174e2_0 (t : Qz77) : St := ⟨v_s_u8 t.1 :: vI t.2.1 :: dd 3 (vI t.2.2 :: dd 15 []), []⟩
def f174g2 : Gk T_laws_heldByteSS_2 := fun κ => S_laws_heldByteSS_2 (fun t => κ none ⟨.dead :: vI t.1 :: dd 2 (vI t.2 :: dd 16 []), []⟩) (fun t => κ (some 0) ⟨.dead :: vI t :: dd 19 [], []⟩)
def f174P : Lp := lpC 2 (unG qz77 f174e2_0) @f174g2 lpN
theorem f174C2 : LF f174Q f174P 174 2 Tryz.f174 0 f174e2_0 @f174g2 fun t => t := fun R κ again t => by kernel_rfl
theorem f174k2 : LK f174Q f174P 174 Tryz.f174 0 := lkN (u := (unG qz77 f174e2_0)) (unG_ok fun t => by kernel_rfl) f174C2
theorem ev174 : EV f174Q f174P 174 Tryz.f174 sg174 qz60 [(.int .i64)] F_laws_heldByteSS := fun x => by kernel_rfl
def q174 : QF := ⟨174, F_laws_heldByteSS, okN (n := 1) Tryz.func174 ⟨f174k2, trivial⟩ ev174⟩
abbrev T_laws_heldWrS_2 : Type := Qz78
def S_laws_heldWrS_2 (k0 : Qz69 → Option R) (k1 : Int → Option R) (again : T_laws_heldWrS_2 → Option R) (t2 : T_laws_heldWrS_2) : Option R :=
 bif (decide (t2.2.2 < ((List.length t2.1 : Nat) : Int))) then if (0 : Int) ≤ t2.2.2 then if t2.2.2 < ((List.length t2.1 : Nat) : Int) then bif ((rd_Wr t2.1 t2.2.2).1 != t2.2.1) then k0 (t2.2.1, (-1 : Int)) else if (0 : Int) ≤ t2.2.2 then if t2.2.2 < ((List.length t2.1 : Nat) : Int) then Option.bind (F_laws_heldByteS ((rd_Wr t2.1 t2.2.2).2, (Go.IntKind.wrap .i64 (t2.2.1 + (1 : Int))))) fun r1 => bif (decide (r1 < (0 : Int))) then k0 (r1, (-1 : Int)) else again (t2.1, r1, (Go.IntKind.wrap .i64 (t2.2.2 + (1 : Int)))) else none else none else none else none else k1 t2.2.1
def L_laws_heldWrS_2 k0 k1 := iter (@S_laws_heldWrS_2 R k0 k1) FUEL
def F_laws_heldWrS (x : Qz63) : Option Int :=
 L_laws_heldWrS_2 (fun x2 => some x2.2) (fun x3 => some x3) (x.1, x.2, (0 : Int))
def f175Q : List QF := [q18]
def f175e2_0 (t : Qz78) : St := ⟨v_Wr t.1 :: vI t.2.1 :: dd 3 (vI t.2.2 :: dd 25 []), []⟩
def f175g2 : Gk T_laws_heldWrS_2 := fun κ => S_laws_heldWrS_2 (fun t => κ none ⟨.dead :: vI t.1 :: dd 2 (vI t.2 :: dd 26 []), []⟩) (fun t => κ (some 0) ⟨.dead :: vI t :: dd 29 [], []⟩)
def f175P : Lp := lpC 2 (unG qz78 f175e2_0) @f175g2 lpN
theorem f175C2 : LF f175Q f175P 175 2 Tryz.f175 0 f175e2_0 @f175g2 fun t => t := fun R κ again t => by kernel_rfl
theorem f175k2 : LK f175Q f175P 175 Tryz.f175 0 := lkN (u := (unG qz78 f175e2_0)) (unG_ok fun t => by kernel_rfl) f175C2
theorem ev175 : EV f175Q f175P 175 Tryz.f175 sg175 qz63 [(.int .i64)] F_laws_heldWrS := fun x => by kernel_rfl
def q175 : QF := ⟨175, F_laws_heldWrS, okN (n := 1) Tryz.func175 ⟨f175k2, trivial⟩ ev175⟩
def F_laws_heldDev (x : Qz64) : Option Int :=
 Option.bind (F_laws_heldByteSS (x.1, x.2.2.2.2)) fun r1 => bif (decide (r1 < (0 : Int))) then some (-1 : Int) else Option.bind (F_laws_heldWrS (x.2.1, r1)) fun r2 => bif (decide (r2 < (0 : Int))) then some (-1 : Int) else some r2
theorem ev99 : EV [q174, q175] lpN 99 Tryz.f99 sg99 qz64 [(.int .i64)] F_laws_heldDev := fun x => by kernel_rfl
def q99 : QF := ⟨99, F_laws_heldDev, okN (n := 0) Tryz.func99 trivial ev99⟩
def F_laws_heldStore (x : Qz66) : Option Int :=
 Option.bind (F_laws_heldDev (x.1, x.2.1, x.2.2.1, x.2.2.2.1, x.2.2.2.2.2.2.2.2.2.2.2.2.2)) fun r1 => bif (decide (r1 < (0 : Int))) then some (-1 : Int) else Option.bind (F_laws_heldPool (x.2.2.2.2.1, x.2.2.2.2.2.1, x.2.2.2.2.2.2.1, x.2.2.2.2.2.2.2.1, x.2.2.2.2.2.2.2.2.1, x.2.2.2.2.2.2.2.2.2.1, r1)) fun r2 => bif (decide (r2 < (0 : Int))) then some (-1 : Int) else some r2
theorem ev34 : EV [q29, q99] lpN 34 Tryz.f34 sg34 qz66 [(.int .i64)] F_laws_heldStore := fun x => by kernel_rfl
def q34 : QF := ⟨34, F_laws_heldStore, okN (n := 0) Tryz.func34 trivial ev34⟩
def F_laws_szIntS (x : Qz31) : Option Int :=
 bif (decide ((Go.IntKind.wrap .i64 (x.2 - ((List.length x.1 : Nat) : Int))) < (0 : Int))) then some (-1 : Int) else some (Go.IntKind.wrap .i64 (x.2 - ((List.length x.1 : Nat) : Int)))
theorem ev117 : EV [] lpN 117 Tryz.f117 sg117 qz31 [(.int .i64)] F_laws_szIntS := fun x => by kernel_rfl
def q117 : QF := ⟨117, F_laws_szIntS, okN (n := 0) Tryz.func117 trivial ev117⟩
def F_laws_szKeyS (x : Qz79) : Option Int :=
 bif (decide ((Go.IntKind.wrap .i64 (x.2 - ((List.length x.1 : Nat) : Int))) < (0 : Int))) then some (-1 : Int) else some (Go.IntKind.wrap .i64 (x.2 - ((List.length x.1 : Nat) : Int)))
theorem ev275 : EV [] lpN 275 Tryz.f275 sg275 qz79 [(.int .i64)] F_laws_szKeyS := fun x => by kernel_rfl
def q275 : QF := ⟨275, F_laws_szKeyS, okN (n := 0) Tryz.func275 trivial ev275⟩
abbrev T_laws_szKeySS_5 : Type := Qz80
def S_laws_szKeySS_5 (k0 : Qz69 → Option R) (k1 : Int → Option R) (again : T_laws_szKeySS_5 → Option R) (t5 : T_laws_szKeySS_5) : Option R :=
 bif (decide (t5.2.2 < ((List.length t5.1 : Nat) : Int))) then if (0 : Int) ≤ t5.2.2 then if t5.2.2 < ((List.length t5.1 : Nat) : Int) then Option.bind (F_laws_szKeyS ((rd_s_LKey t5.1 t5.2.2), t5.2.1)) fun r1 => bif (decide (r1 < (0 : Int))) then k0 (r1, (-1 : Int)) else again (t5.1, r1, (Go.IntKind.wrap .i64 (t5.2.2 + (1 : Int)))) else none else none else k1 t5.2.1
def L_laws_szKeySS_5 k0 k1 := iter (@S_laws_szKeySS_5 R k0 k1) FUEL
def F_laws_szKeySS (x : Qz81) : Option Int :=
 bif (decide ((Go.IntKind.wrap .i64 (x.2 - ((List.length x.1 : Nat) : Int))) < (0 : Int))) then some (-1 : Int) else L_laws_szKeySS_5 (fun x2 => some x2.2) (fun x3 => some x3) (x.1, (Go.IntKind.wrap .i64 (x.2 - ((List.length x.1 : Nat) : Int))), (0 : Int))
def f243Q : List QF := [q275]
def f243e5_0 (t : Qz80) : St := ⟨v_s_LKey t.1 :: vI t.2.1 :: dd 3 (vI t.2.2 :: dd 21 []), []⟩
def f243g5 : Gk T_laws_szKeySS_5 := fun κ => S_laws_szKeySS_5 (fun t => κ none ⟨.dead :: vI t.1 :: dd 2 (vI t.2 :: dd 22 []), []⟩) (fun t => κ (some 0) ⟨.dead :: vI t :: dd 25 [], []⟩)
def f243P : Lp := lpC 5 (unG qz80 f243e5_0) @f243g5 lpN
theorem f243C5 : LF f243Q f243P 243 5 Tryz.f243 0 f243e5_0 @f243g5 fun t => t := fun R κ again t => by kernel_rfl
theorem f243k5 : LK f243Q f243P 243 Tryz.f243 0 := lkN (u := (unG qz80 f243e5_0)) (unG_ok fun t => by kernel_rfl) f243C5
theorem ev243 : EV f243Q f243P 243 Tryz.f243 sg243 qz81 [(.int .i64)] F_laws_szKeySS := fun x => by kernel_rfl
def q243 : QF := ⟨243, F_laws_szKeySS, okN (n := 1) Tryz.func243 ⟨f243k5, trivial⟩ ev243⟩
def F_laws_szNode (x : Qz81) : Option Int :=
 Option.bind (F_laws_szKeySS (x.1, x.2)) fun r1 => bif (decide (r1 < (0 : Int))) then some (-1 : Int) else some r1
theorem ev194 : EV [q243] lpN 194 Tryz.f194 sg194 qz81 [(.int .i64)] F_laws_szNode := fun x => by kernel_rfl
def q194 : QF := ⟨194, F_laws_szNode, okN (n := 0) Tryz.func194 trivial ev194⟩
abbrev T_laws_szNodeS_5 : Type := Qz82
def S_laws_szNodeS_5 (k0 : Qz69 → Option R) (k1 : Int → Option R) (again : T_laws_szNodeS_5 → Option R) (t5 : T_laws_szNodeS_5) : Option R :=
 bif (decide (t5.2.2 < ((List.length t5.1 : Nat) : Int))) then if (0 : Int) ≤ t5.2.2 then if t5.2.2 < ((List.length t5.1 : Nat) : Int) then Option.bind (F_laws_szNode ((rd_LNode t5.1 t5.2.2), t5.2.1)) fun r1 => bif (decide (r1 < (0 : Int))) then k0 (r1, (-1 : Int)) else again (t5.1, r1, (Go.IntKind.wrap .i64 (t5.2.2 + (1 : Int)))) else none else none else k1 t5.2.1
def L_laws_szNodeS_5 k0 k1 := iter (@S_laws_szNodeS_5 R k0 k1) FUEL
def F_laws_szNodeS (x : Qz83) : Option Int :=
 bif (decide ((Go.IntKind.wrap .i64 (x.2 - ((List.length x.1 : Nat) : Int))) < (0 : Int))) then some (-1 : Int) else L_laws_szNodeS_5 (fun x2 => some x2.2) (fun x3 => some x3) (x.1, (Go.IntKind.wrap .i64 (x.2 - ((List.length x.1 : Nat) : Int))), (0 : Int))
def f118Q : List QF := [q194]
def f118e5_0 (t : Qz82) : St := ⟨v_LNode t.1 :: vI t.2.1 :: dd 3 (vI t.2.2 :: dd 21 []), []⟩
def f118g5 : Gk T_laws_szNodeS_5 := fun κ => S_laws_szNodeS_5 (fun t => κ none ⟨.dead :: vI t.1 :: dd 2 (vI t.2 :: dd 22 []), []⟩) (fun t => κ (some 0) ⟨.dead :: vI t :: dd 25 [], []⟩)
def f118P : Lp := lpC 5 (unG qz82 f118e5_0) @f118g5 lpN
theorem f118C5 : LF f118Q f118P 118 5 Tryz.f118 0 f118e5_0 @f118g5 fun t => t := fun R κ again t => by kernel_rfl
theorem f118k5 : LK f118Q f118P 118 Tryz.f118 0 := lkN (u := (unG qz82 f118e5_0)) (unG_ok fun t => by kernel_rfl) f118C5
theorem ev118 : EV f118Q f118P 118 Tryz.f118 sg118 qz83 [(.int .i64)] F_laws_szNodeS := fun x => by kernel_rfl
def q118 : QF := ⟨118, F_laws_szNodeS, okN (n := 1) Tryz.func118 ⟨f118k5, trivial⟩ ev118⟩
def F_laws_szTree (x : Qz84) : Option Int :=
 Option.bind (F_laws_szIntS (x.1, x.2.2)) fun r1 => bif (decide (r1 < (0 : Int))) then some (-1 : Int) else Option.bind (F_laws_szNodeS (x.2.1, r1)) fun r2 => bif (decide (r2 < (0 : Int))) then some (-1 : Int) else some r2
theorem ev43 : EV [q117, q118] lpN 43 Tryz.f43 sg43 qz84 [(.int .i64)] F_laws_szTree := fun x => by kernel_rfl
def q43 : QF := ⟨43, F_laws_szTree, okN (n := 0) Tryz.func43 trivial ev43⟩
def F_laws_szAgeS (x : Qz85) : Option Int :=
 bif (decide ((Go.IntKind.wrap .i64 (x.2 - ((List.length x.1 : Nat) : Int))) < (0 : Int))) then some (-1 : Int) else some (Go.IntKind.wrap .i64 (x.2 - ((List.length x.1 : Nat) : Int)))
theorem ev44 : EV [] lpN 44 Tryz.f44 sg44 qz85 [(.int .i64)] F_laws_szAgeS := fun x => by kernel_rfl
def q44 : QF := ⟨44, F_laws_szAgeS, okN (n := 0) Tryz.func44 trivial ev44⟩
def F_laws_szCellS (x : Qz86) : Option Int :=
 bif (decide ((Go.IntKind.wrap .i64 (x.2 - ((List.length x.1 : Nat) : Int))) < (0 : Int))) then some (-1 : Int) else some (Go.IntKind.wrap .i64 (x.2 - ((List.length x.1 : Nat) : Int)))
theorem ev45 : EV [] lpN 45 Tryz.f45 sg45 qz86 [(.int .i64)] F_laws_szCellS := fun x => by kernel_rfl
def q45 : QF := ⟨45, F_laws_szCellS, okN (n := 0) Tryz.func45 trivial ev45⟩
def F_laws_szVol (x : Qz87) : Option Int :=
 bif (decide ((Go.IntKind.wrap .i64 (x.2.2.2.2 - ((ByteArray.size x.1 : Nat) : Int))) < (0 : Int))) then some (-1 : Int) else some (Go.IntKind.wrap .i64 (x.2.2.2.2 - ((ByteArray.size x.1 : Nat) : Int)))
theorem ev119 : EV [] lpN 119 Tryz.f119 sg119 qz87 [(.int .i64)] F_laws_szVol := fun x => by kernel_rfl
def q119 : QF := ⟨119, F_laws_szVol, okN (n := 0) Tryz.func119 trivial ev119⟩
abbrev T_laws_szVolS_5 : Type := Qz88
def S_laws_szVolS_5 (k0 : Qz69 → Option R) (k1 : Int → Option R) (again : T_laws_szVolS_5 → Option R) (t5 : T_laws_szVolS_5) : Option R :=
 bif (decide (t5.2.2 < ((List.length t5.1 : Nat) : Int))) then if (0 : Int) ≤ t5.2.2 then if t5.2.2 < ((List.length t5.1 : Nat) : Int) then Option.bind (F_laws_szVol ((rd_LVol t5.1 t5.2.2).1, (rd_LVol t5.1 t5.2.2).2.1, (rd_LVol t5.1 t5.2.2).2.2.1, (rd_LVol t5.1 t5.2.2).2.2.2, t5.2.1)) fun r1 => bif (decide (r1 < (0 : Int))) then k0 (r1, (-1 : Int)) else again (t5.1, r1, (Go.IntKind.wrap .i64 (t5.2.2 + (1 : Int)))) else none else none else k1 t5.2.1
def L_laws_szVolS_5 k0 k1 := iter (@S_laws_szVolS_5 R k0 k1) FUEL
def F_laws_szVolS (x : Qz89) : Option Int :=
 bif (decide ((Go.IntKind.wrap .i64 (x.2 - ((List.length x.1 : Nat) : Int))) < (0 : Int))) then some (-1 : Int) else L_laws_szVolS_5 (fun x2 => some x2.2) (fun x3 => some x3) (x.1, (Go.IntKind.wrap .i64 (x.2 - ((List.length x.1 : Nat) : Int))), (0 : Int))
def f46Q : List QF := [q119]
def f46e5_0 (t : Qz88) : St := ⟨v_LVol t.1 :: vI t.2.1 :: dd 3 (vI t.2.2 :: dd 21 []), []⟩
def f46g5 : Gk T_laws_szVolS_5 := fun κ => S_laws_szVolS_5 (fun t => κ none ⟨.dead :: vI t.1 :: dd 2 (vI t.2 :: dd 22 []), []⟩) (fun t => κ (some 0) ⟨.dead :: vI t :: dd 25 [], []⟩)
def f46P : Lp := lpC 5 (unG qz88 f46e5_0) @f46g5 lpN
theorem f46C5 : LF f46Q f46P 46 5 Tryz.f46 0 f46e5_0 @f46g5 fun t => t := fun R κ again t => by kernel_rfl
theorem f46k5 : LK f46Q f46P 46 Tryz.f46 0 := lkN (u := (unG qz88 f46e5_0)) (unG_ok fun t => by kernel_rfl) f46C5
theorem ev46 : EV f46Q f46P 46 Tryz.f46 sg46 qz89 [(.int .i64)] F_laws_szVolS := fun x => by kernel_rfl
def q46 : QF := ⟨46, F_laws_szVolS, okN (n := 1) Tryz.func46 ⟨f46k5, trivial⟩ ev46⟩
def F_laws_szPool (x : Qz90) : Option Int :=
 Option.bind (F_laws_szTree (x.1, x.2.1, x.2.2.2.2.2.2)) fun r1 => bif (decide (r1 < (0 : Int))) then some (-1 : Int) else Option.bind (F_laws_szAgeS (x.2.2.1, r1)) fun r2 => bif (decide (r2 < (0 : Int))) then some (-1 : Int) else Option.bind (F_laws_szCellS (x.2.2.2.1, r2)) fun r3 => bif (decide (r3 < (0 : Int))) then some (-1 : Int) else Option.bind (F_laws_szVolS (x.2.2.2.2.1, r3)) fun r4 => bif (decide (r4 < (0 : Int))) then some (-1 : Int) else some r4
theorem ev10 : EV [q43, q44, q45, q46] lpN 10 Tryz.f10 sg10 qz90 [(.int .i64)] F_laws_szPool := fun x => by kernel_rfl
def q10 : QF := ⟨10, F_laws_szPool, okN (n := 0) Tryz.func10 trivial ev10⟩
def F_laws_szByteS (x : Qz57) : Option Int :=
 bif (decide ((Go.IntKind.wrap .i64 (x.2 - ((List.length x.1 : Nat) : Int))) < (0 : Int))) then some (-1 : Int) else some (Go.IntKind.wrap .i64 (x.2 - ((List.length x.1 : Nat) : Int)))
theorem ev147 : EV [] lpN 147 Tryz.f147 sg147 qz57 [(.int .i64)] F_laws_szByteS := fun x => by kernel_rfl
def q147 : QF := ⟨147, F_laws_szByteS, okN (n := 0) Tryz.func147 trivial ev147⟩
abbrev T_laws_szByteSS_5 : Type := Qz77
def S_laws_szByteSS_5 (k0 : Qz69 → Option R) (k1 : Int → Option R) (again : T_laws_szByteSS_5 → Option R) (t5 : T_laws_szByteSS_5) : Option R :=
 bif (decide (t5.2.2 < ((List.length t5.1 : Nat) : Int))) then if (0 : Int) ≤ t5.2.2 then if t5.2.2 < ((List.length t5.1 : Nat) : Int) then Option.bind (F_laws_szByteS ((rd_s_u8 t5.1 t5.2.2), t5.2.1)) fun r1 => bif (decide (r1 < (0 : Int))) then k0 (r1, (-1 : Int)) else again (t5.1, r1, (Go.IntKind.wrap .i64 (t5.2.2 + (1 : Int)))) else none else none else k1 t5.2.1
def L_laws_szByteSS_5 k0 k1 := iter (@S_laws_szByteSS_5 R k0 k1) FUEL
def F_laws_szByteSS (x : Qz60) : Option Int :=
 bif (decide ((Go.IntKind.wrap .i64 (x.2 - ((List.length x.1 : Nat) : Int))) < (0 : Int))) then some (-1 : Int) else L_laws_szByteSS_5 (fun x2 => some x2.2) (fun x3 => some x3) (x.1, (Go.IntKind.wrap .i64 (x.2 - ((List.length x.1 : Nat) : Int))), (0 : Int))
def f69Q : List QF := [q147]
def f69e5_0 (t : Qz77) : St := ⟨v_s_u8 t.1 :: vI t.2.1 :: dd 3 (vI t.2.2 :: dd 21 []), []⟩
def f69g5 : Gk T_laws_szByteSS_5 := fun κ => S_laws_szByteSS_5 (fun t => κ none ⟨.dead :: vI t.1 :: dd 2 (vI t.2 :: dd 22 []), []⟩) (fun t => κ (some 0) ⟨.dead :: vI t :: dd 25 [], []⟩)
def f69P : Lp := lpC 5 (unG qz77 f69e5_0) @f69g5 lpN
theorem f69C5 : LF f69Q f69P 69 5 Tryz.f69 0 f69e5_0 @f69g5 fun t => t := fun R κ again t => by kernel_rfl
theorem f69k5 : LK f69Q f69P 69 Tryz.f69 0 := lkN (u := (unG qz77 f69e5_0)) (unG_ok fun t => by kernel_rfl) f69C5
theorem ev69 : EV f69Q f69P 69 Tryz.f69 sg69 qz60 [(.int .i64)] F_laws_szByteSS := fun x => by kernel_rfl
def q69 : QF := ⟨69, F_laws_szByteSS, okN (n := 1) Tryz.func69 ⟨f69k5, trivial⟩ ev69⟩
def F_laws_szWr (x : Qz91) : Option Int :=
 Option.bind (F_laws_szByteS (x.2.1, x.2.2)) fun r1 => bif (decide (r1 < (0 : Int))) then some (-1 : Int) else some r1
theorem ev148 : EV [q147] lpN 148 Tryz.f148 sg148 qz91 [(.int .i64)] F_laws_szWr := fun x => by kernel_rfl
def q148 : QF := ⟨148, F_laws_szWr, okN (n := 0) Tryz.func148 trivial ev148⟩
abbrev T_laws_szWrS_5 : Type := Qz92
def S_laws_szWrS_5 (k0 : Qz69 → Option R) (k1 : Int → Option R) (again : T_laws_szWrS_5 → Option R) (t5 : T_laws_szWrS_5) : Option R :=
 bif (decide (t5.2.2 < ((List.length t5.1 : Nat) : Int))) then if (0 : Int) ≤ t5.2.2 then if t5.2.2 < ((List.length t5.1 : Nat) : Int) then Option.bind (F_laws_szWr ((rd_LWr t5.1 t5.2.2).1, (rd_LWr t5.1 t5.2.2).2, t5.2.1)) fun r1 => bif (decide (r1 < (0 : Int))) then k0 (r1, (-1 : Int)) else again (t5.1, r1, (Go.IntKind.wrap .i64 (t5.2.2 + (1 : Int)))) else none else none else k1 t5.2.1
def L_laws_szWrS_5 k0 k1 := iter (@S_laws_szWrS_5 R k0 k1) FUEL
def F_laws_szWrS (x : Qz93) : Option Int :=
 bif (decide ((Go.IntKind.wrap .i64 (x.2 - ((List.length x.1 : Nat) : Int))) < (0 : Int))) then some (-1 : Int) else L_laws_szWrS_5 (fun x2 => some x2.2) (fun x3 => some x3) (x.1, (Go.IntKind.wrap .i64 (x.2 - ((List.length x.1 : Nat) : Int))), (0 : Int))
def f70Q : List QF := [q148]
def f70e5_0 (t : Qz92) : St := ⟨v_LWr t.1 :: vI t.2.1 :: dd 3 (vI t.2.2 :: dd 21 []), []⟩
def f70g5 : Gk T_laws_szWrS_5 := fun κ => S_laws_szWrS_5 (fun t => κ none ⟨.dead :: vI t.1 :: dd 2 (vI t.2 :: dd 22 []), []⟩) (fun t => κ (some 0) ⟨.dead :: vI t :: dd 25 [], []⟩)
def f70P : Lp := lpC 5 (unG qz92 f70e5_0) @f70g5 lpN
theorem f70C5 : LF f70Q f70P 70 5 Tryz.f70 0 f70e5_0 @f70g5 fun t => t := fun R κ again t => by kernel_rfl
theorem f70k5 : LK f70Q f70P 70 Tryz.f70 0 := lkN (u := (unG qz92 f70e5_0)) (unG_ok fun t => by kernel_rfl) f70C5
theorem ev70 : EV f70Q f70P 70 Tryz.f70 sg70 qz93 [(.int .i64)] F_laws_szWrS := fun x => by kernel_rfl
def q70 : QF := ⟨70, F_laws_szWrS, okN (n := 1) Tryz.func70 ⟨f70k5, trivial⟩ ev70⟩
def F_laws_szDev (x : Qz94) : Option Int :=
 Option.bind (F_laws_szByteSS (x.1, x.2.2.2.2)) fun r1 => bif (decide (r1 < (0 : Int))) then some (-1 : Int) else Option.bind (F_laws_szWrS (x.2.1, r1)) fun r2 => bif (decide (r2 < (0 : Int))) then some (-1 : Int) else some r2
theorem ev19 : EV [q69, q70] lpN 19 Tryz.f19 sg19 qz94 [(.int .i64)] F_laws_szDev := fun x => by kernel_rfl
def q19 : QF := ⟨19, F_laws_szDev, okN (n := 0) Tryz.func19 trivial ev19⟩
def F_laws_szStore (x : Qz95) : Option Int :=
 Option.bind (F_laws_szDev (x.1, x.2.1, x.2.2.1, x.2.2.2.1, x.2.2.2.2.2.2.2.2.2.2.2.2.2)) fun r1 => bif (decide (r1 < (0 : Int))) then some (-1 : Int) else Option.bind (F_laws_szPool (x.2.2.2.2.1, x.2.2.2.2.2.1, x.2.2.2.2.2.2.1, x.2.2.2.2.2.2.2.1, x.2.2.2.2.2.2.2.2.1, x.2.2.2.2.2.2.2.2.2.1, r1)) fun r2 => bif (decide (r2 < (0 : Int))) then some (-1 : Int) else some r2
theorem ev35 : EV [q10, q19] lpN 35 Tryz.f35 sg35 qz95 [(.int .i64)] F_laws_szStore := fun x => by kernel_rfl
def q35 : QF := ⟨35, F_laws_szStore, okN (n := 0) Tryz.func35 trivial ev35⟩
abbrev T_spec_l5Copy_3 : Type := Qz36 ⊕ Qz96
def S_spec_l5Copy_3 (k0 : Unit → Option R) (k1 : List E_s_Key → Option R) (again : T_spec_l5Copy_3 → Option R) : T_spec_l5Copy_3 → Option R
 | .inl t3 => bif (decide (t3.1 < ((List.length t3.2 : Nat) : Int))) then if (0 : Int) ≤ t3.1 then if t3.1 < ((List.length t3.2 : Nat) : Int) then if (List.length ([] : List E_Key) + List.length (rd_s_Key t3.2 t3.1)) * 40 < 140737488355328 then if List.length ([(([] : List E_Key) ++ (rd_s_Key t3.2 t3.1))] : List E_s_Key) * 24 < 140737488355328 then again (Sum.inr ((Go.IntKind.wrap .i64 (t3.1 + (1 : Int))), t3.2, ([(([] : List E_Key) ++ (rd_s_Key t3.2 t3.1))] : List E_s_Key))) else none else none else none else none else k0 ()
 | .inr t3 => bif (decide (t3.1 < ((List.length t3.2.1 : Nat) : Int))) then if (0 : Int) ≤ t3.1 then if t3.1 < ((List.length t3.2.1 : Nat) : Int) then if (List.length ([] : List E_Key) + List.length (rd_s_Key t3.2.1 t3.1)) * 40 < 140737488355328 then if (List.length t3.2.2 + List.length ([(([] : List E_Key) ++ (rd_s_Key t3.2.1 t3.1))] : List E_s_Key)) * 24 < 140737488355328 then again (Sum.inr ((Go.IntKind.wrap .i64 (t3.1 + (1 : Int))), t3.2.1, (t3.2.2 ++ ([(([] : List E_Key) ++ (rd_s_Key t3.2.1 t3.1))] : List E_s_Key)))) else none else none else none else none else k1 t3.2.2
def L_spec_l5Copy_3 k0 k1 := iter (@S_spec_l5Copy_3 R k0 k1) FUEL
def F_spec_l5Copy (x : List E_s_Key) : Option (List E_s_Key) :=
 L_spec_l5Copy_3 (fun x1 => some ([] : List E_s_Key)) (fun x2 => some x2) (Sum.inl ((0 : Int), x))
def f227Q : List QF := []
def f227e3_0 (t : Qz36) : St := ⟨.dead :: .box 1 0 :: .box 2 0 :: .box 3 0 :: vI t.1 :: dd 21 [], [(1, .box [v_s_Key t.2]), (2, .box [.nils]), (3, .box [.nils])]⟩
theorem f227v3_0 : ∀ s t, unG qz36 f227e3_0 s = some t → f227e3_0 t = s := unG_ok fun t => by kernel_rfl
def f227e3_1 (t : Qz96) : St := ⟨.dead :: .box 1 0 :: .box 2 0 :: .box 3 0 :: vI t.1 :: dd 21 [], [(1, .box [v_s_Key t.2.1]), (2, .box [.nils]), (3, .box [.own 10000000]), (10000000, .root true 100 ts_s_Key t.2.2)]⟩
theorem f227v3_1 : ∀ s t, unG qz96 f227e3_1 s = some t → f227e3_1 t = s := unG_ok fun t => by kernel_rfl
def f227e3r0 : (Qz36 ⊕ Qz96) → St := Sum.elim f227e3_0 f227e3_1
def f227u3r0 (s : St) : Option (Qz36 ⊕ Qz96) := ((unG qz36 f227e3_0 s).map Sum.inl).or (((unG qz96 f227e3_1) s).map Sum.inr)
theorem f227v3r0 : ∀ s t, f227u3r0 s = some t → f227e3r0 t = s := or_un f227v3_0 f227v3_1
def f227g3 : Gk T_spec_l5Copy_3 := fun κ => S_spec_l5Copy_3 (fun t => κ (some 0) ⟨dd 2 (.box 2 0 :: .box 3 0 :: dd 22 []), [(2, .box [.nils]), (3, .box [.nils])]⟩) (fun t => κ (some 0) ⟨dd 2 (.box 2 0 :: .box 3 0 :: dd 22 []), [(2, .box [.nils]), (3, .box [.own 10000000]), (10000000, .root true 100 ts_s_Key t)]⟩)
def f227P : Lp := lpC 3 f227u3r0 @f227g3 lpN
theorem f227C3_0 : LF f227Q f227P 227 3 Tryz.f227 0 f227e3r0 @f227g3 fun v : Qz36 => .inl v := fun R κ again v => by kernel_rfl
theorem f227C3_1 : LF f227Q f227P 227 3 Tryz.f227 0 f227e3r0 @f227g3 fun v : Qz96 => .inr v := fun R κ again v => by kernel_rfl
theorem f227C3 : LF f227Q f227P 227 3 Tryz.f227 0 f227e3r0 @f227g3 fun t => t := (LC.sum f227C3_0 f227C3_1)
theorem f227k3 : LK f227Q f227P 227 Tryz.f227 0 := lkN (u := f227u3r0) f227v3r0 f227C3
theorem ev227 : EV f227Q f227P 227 Tryz.f227 sg227 [(.sl 100 ts_s_Key)] [(.sl 100 ts_s_Key)] F_spec_l5Copy := fun x => by kernel_rfl
def q227 : QF := ⟨227, F_spec_l5Copy, okN (n := 1) Tryz.func227 ⟨f227k3, trivial⟩ ev227⟩
abbrev T_spec_l6Copy_3 : Type := Qz97 ⊕ Qz98
def S_spec_l6Copy_3 (k0 : List E_i64 → Option R) (k1 : Qz99 → Option R) (again : T_spec_l6Copy_3 → Option R) : T_spec_l6Copy_3 → Option R
 | .inl t3 => bif (decide (t3.1 < ((List.length t3.2.2.1 : Nat) : Int))) then if (0 : Int) ≤ t3.1 then if t3.1 < ((List.length t3.2.2.1 : Nat) : Int) then Option.bind (F_spec_l5Copy (rd_Node t3.2.2.1 t3.1)) fun r1 => if List.length ([r1] : List E_Node) * 24 < 140737488355328 then again (Sum.inr ((Go.IntKind.wrap .i64 (t3.1 + (1 : Int))), t3.2.1, t3.2.2.1, t3.2.2.2, ([r1] : List E_Node))) else none else none else none else k0 t3.2.2.2
 | .inr t3 => bif (decide (t3.1 < ((List.length t3.2.2.1 : Nat) : Int))) then if (0 : Int) ≤ t3.1 then if t3.1 < ((List.length t3.2.2.1 : Nat) : Int) then Option.bind (F_spec_l5Copy (rd_Node t3.2.2.1 t3.1)) fun r2 => if (List.length t3.2.2.2.2 + List.length ([r2] : List E_Node)) * 24 < 140737488355328 then again (Sum.inr ((Go.IntKind.wrap .i64 (t3.1 + (1 : Int))), t3.2.1, t3.2.2.1, t3.2.2.2.1, (t3.2.2.2.2 ++ ([r2] : List E_Node)))) else none else none else none else k1 (t3.2.2.2.1, t3.2.2.2.2)
def L_spec_l6Copy_3 k0 k1 := iter (@S_spec_l6Copy_3 R k0 k1) FUEL
def F_spec_l6Copy (x : Qz99) : Option Qz99 :=
 if (List.length ([] : List E_i64) + List.length x.1) * 8 < 140737488355328 then L_spec_l6Copy_3 (fun x3 => some (x3, ([] : List E_Node))) (fun x4 => some (x4.1, x4.2)) (Sum.inl ((0 : Int), x.1, x.2, (([] : List E_i64) ++ x.1))) else none
def f185Q : List QF := [q227]
def f185e3_0 (t : Qz97) : St := ⟨.dead :: .box 1 0 :: .box 2 0 :: .box 3 0 :: vI t.1 :: dd 24 [], [(1, .box [v_i64 t.2.1, v_Node t.2.2.1]), (2, .box [.nils, .nils]), (3, .box [.own 10000000, .nils]), (10000000, .root true 3 ts_i64 t.2.2.2)]⟩
theorem f185v3_0 : ∀ s t, unG qz97 f185e3_0 s = some t → f185e3_0 t = s := unG_ok fun t => by kernel_rfl
def f185e3_1 (t : Qz98) : St := ⟨.dead :: .box 1 0 :: .box 2 0 :: .box 3 0 :: vI t.1 :: dd 24 [], [(1, .box [v_i64 t.2.1, v_Node t.2.2.1]), (2, .box [.nils, .nils]), (3, .box [.own 10000000, .own 10000001]), (10000000, .root true 3 ts_i64 t.2.2.2.1), (10000001, .root true 98 ts_Node t.2.2.2.2)]⟩
theorem f185v3_1 : ∀ s t, unG qz98 f185e3_1 s = some t → f185e3_1 t = s := unG_ok fun t => by kernel_rfl
def f185e3r0 : (Qz97 ⊕ Qz98) → St := Sum.elim f185e3_0 f185e3_1
def f185u3r0 (s : St) : Option (Qz97 ⊕ Qz98) := ((unG qz97 f185e3_0 s).map Sum.inl).or (((unG qz98 f185e3_1) s).map Sum.inr)
theorem f185v3r0 : ∀ s t, f185u3r0 s = some t → f185e3r0 t = s := or_un f185v3_0 f185v3_1
def f185g3 : Gk T_spec_l6Copy_3 := fun κ => S_spec_l6Copy_3 (fun t => κ (some 0) ⟨dd 2 (.box 2 0 :: .box 3 0 :: dd 25 []), [(2, .box [.nils, .nils]), (3, .box [.own 10000000, .nils]), (10000000, .root true 3 ts_i64 t)]⟩) (fun t => κ (some 0) ⟨dd 2 (.box 2 0 :: .box 3 0 :: dd 25 []), [(2, .box [.nils, .nils]), (3, .box [.own 10000000, .own 10000001]), (10000000, .root true 3 ts_i64 t.1), (10000001, .root true 98 ts_Node t.2)]⟩)
def f185P : Lp := lpC 3 f185u3r0 @f185g3 lpN
theorem f185C3_0 : LF f185Q f185P 185 3 Tryz.f185 0 f185e3r0 @f185g3 fun v : Qz97 => .inl v := fun R κ again v => by kernel_rfl
theorem f185C3_1 : LF f185Q f185P 185 3 Tryz.f185 0 f185e3r0 @f185g3 fun v : Qz98 => .inr v := fun R κ again v => by kernel_rfl
theorem f185C3 : LF f185Q f185P 185 3 Tryz.f185 0 f185e3r0 @f185g3 fun t => t := (LC.sum f185C3_0 f185C3_1)
theorem f185k3 : LK f185Q f185P 185 Tryz.f185 0 := lkN (u := f185u3r0) f185v3r0 f185C3
theorem ev185 : EV f185Q f185P 185 Tryz.f185 sg185 qz99 qz99 F_spec_l6Copy := fun x => by kernel_rfl
def q185 : QF := ⟨185, F_spec_l6Copy, okN (n := 1) Tryz.func185 ⟨f185k3, trivial⟩ ev185⟩
def F_spec_l9Copy (x : List E_Cell) : Option (List E_Cell) :=
 if (List.length ([] : List E_Cell) + List.length x) * 24 < 140737488355328 then some (([] : List E_Cell) ++ x) else none
theorem ev186 : EV [] lpN 186 Tryz.f186 sg186 [(.sl 95 ts_Cell)] [(.sl 95 ts_Cell)] F_spec_l9Copy := fun x => by kernel_rfl
def q186 : QF := ⟨186, F_spec_l9Copy, okN (n := 0) Tryz.func186 trivial ev186⟩
def F_spec_l10Copy (x : Qz100) : Option Qz100 :=
 Option.bind (F_spec_l6Copy (x.1, x.2.1)) fun r1 => if (List.length ([] : List E_Age) + List.length x.2.2.1) * 16 < 140737488355328 then Option.bind (F_spec_l9Copy x.2.2.2.1) fun r2 => if (List.length ([] : List E_Vol) + List.length x.2.2.2.2.1) * 40 < 140737488355328 then some (r1.1, r1.2, (([] : List E_Age) ++ x.2.2.1), r2, (([] : List E_Vol) ++ x.2.2.2.2.1), x.2.2.2.2.2) else none else none
theorem ev114 : EV [q185, q186] lpN 114 Tryz.f114 sg114 qz100 qz100 F_spec_l10Copy := fun x => by kernel_rfl
def q114 : QF := ⟨114, F_spec_l10Copy, okN (n := 0) Tryz.func114 trivial ev114⟩
abbrev T_spec_l2Copy_3 : Type := Qz101 ⊕ Qz102
def S_spec_l2Copy_3 (k0 : Qz103 → Option R) (k1 : Qz104 → Option R) (again : T_spec_l2Copy_3 → Option R) : T_spec_l2Copy_3 → Option R
 | .inl t3 => bif (decide (t3.1 < ((List.length t3.2.1 : Nat) : Int))) then if (0 : Int) ≤ t3.1 then if t3.1 < ((List.length t3.2.1 : Nat) : Int) then if (List.length ([] : List E_u8) + List.length (rd_s_u8 t3.2.1 t3.1)) * 1 < 140737488355328 then if List.length ([(([] : List E_u8) ++ (rd_s_u8 t3.2.1 t3.1))] : List E_s_u8) * 24 < 140737488355328 then again (Sum.inr ((Go.IntKind.wrap .i64 (t3.1 + (1 : Int))), t3.2.1, t3.2.2.1, t3.2.2.2.1, t3.2.2.2.2.1, t3.2.2.2.2.2.1, t3.2.2.2.2.2.2.1, t3.2.2.2.2.2.2.2.1, t3.2.2.2.2.2.2.2.2, ([(([] : List E_u8) ++ (rd_s_u8 t3.2.1 t3.1))] : List E_s_u8))) else none else none else none else none else k0 (t3.2.1, t3.2.2.1, t3.2.2.2.1, t3.2.2.2.2.1, t3.2.2.2.2.2.1, t3.2.2.2.2.2.2.1, t3.2.2.2.2.2.2.2.1, t3.2.2.2.2.2.2.2.2)
 | .inr t3 => bif (decide (t3.1 < ((List.length t3.2.1 : Nat) : Int))) then if (0 : Int) ≤ t3.1 then if t3.1 < ((List.length t3.2.1 : Nat) : Int) then if (List.length ([] : List E_u8) + List.length (rd_s_u8 t3.2.1 t3.1)) * 1 < 140737488355328 then if (List.length t3.2.2.2.2.2.2.2.2.2 + List.length ([(([] : List E_u8) ++ (rd_s_u8 t3.2.1 t3.1))] : List E_s_u8)) * 24 < 140737488355328 then again (Sum.inr ((Go.IntKind.wrap .i64 (t3.1 + (1 : Int))), t3.2.1, t3.2.2.1, t3.2.2.2.1, t3.2.2.2.2.1, t3.2.2.2.2.2.1, t3.2.2.2.2.2.2.1, t3.2.2.2.2.2.2.2.1, t3.2.2.2.2.2.2.2.2.1, (t3.2.2.2.2.2.2.2.2.2 ++ ([(([] : List E_u8) ++ (rd_s_u8 t3.2.1 t3.1))] : List E_s_u8)))) else none else none else none else none else k1 (t3.2.1, t3.2.2.1, t3.2.2.2.1, t3.2.2.2.2.1, t3.2.2.2.2.2.1, t3.2.2.2.2.2.2.1, t3.2.2.2.2.2.2.2.1, t3.2.2.2.2.2.2.2.2.1, t3.2.2.2.2.2.2.2.2.2)
def L_spec_l2Copy_3 k0 k1 := iter (@S_spec_l2Copy_3 R k0 k1) FUEL
abbrev T_spec_l2Copy_7 : Type := Qz101 ⊕ Qz105 ⊕ Qz102 ⊕ Qz106
def S_spec_l2Copy_7 (k0 : Qz107 → Option R) (k1 : Qz108 → Option R) (k2 : Qz109 → Option R) (k3 : Qz110 → Option R) (again : T_spec_l2Copy_7 → Option R) : T_spec_l2Copy_7 → Option R
 | .inl t7 => bif (decide (t7.1 < ((List.length t7.2.2.1 : Nat) : Int))) then if (0 : Int) ≤ t7.1 then if t7.1 < ((List.length t7.2.2.1 : Nat) : Int) then if (0 : Int) ≤ t7.1 then if t7.1 < ((List.length t7.2.2.1 : Nat) : Int) then if (List.length ([] : List E_u8) + List.length ((rd_Wr t7.2.2.1 t7.1).2)) * 1 < 140737488355328 then if List.length ([((rd_Wr t7.2.2.1 t7.1).1, (([] : List E_u8) ++ (rd_Wr t7.2.2.1 t7.1).2))] : List E_Wr) * 32 < 140737488355328 then again (Sum.inr (Sum.inl ((Go.IntKind.wrap .i64 (t7.1 + (1 : Int))), t7.2.1, t7.2.2.1, t7.2.2.2.1, t7.2.2.2.2.1, t7.2.2.2.2.2.1, t7.2.2.2.2.2.2.1, t7.2.2.2.2.2.2.2.1, t7.2.2.2.2.2.2.2.2, ([((rd_Wr t7.2.2.1 t7.1).1, (([] : List E_u8) ++ (rd_Wr t7.2.2.1 t7.1).2))] : List E_Wr)))) else none else none else none else none else none else none else k0 (t7.2.2.2.2.2.1, t7.2.2.2.2.2.2.1, t7.2.2.2.2.2.2.2.1, t7.2.2.2.2.2.2.2.2)
 | .inr (.inl t7) => bif (decide (t7.1 < ((List.length t7.2.2.1 : Nat) : Int))) then if (0 : Int) ≤ t7.1 then if t7.1 < ((List.length t7.2.2.1 : Nat) : Int) then if (0 : Int) ≤ t7.1 then if t7.1 < ((List.length t7.2.2.1 : Nat) : Int) then if (List.length ([] : List E_u8) + List.length ((rd_Wr t7.2.2.1 t7.1).2)) * 1 < 140737488355328 then if (List.length t7.2.2.2.2.2.2.2.2.2 + List.length ([((rd_Wr t7.2.2.1 t7.1).1, (([] : List E_u8) ++ (rd_Wr t7.2.2.1 t7.1).2))] : List E_Wr)) * 32 < 140737488355328 then again (Sum.inr (Sum.inl ((Go.IntKind.wrap .i64 (t7.1 + (1 : Int))), t7.2.1, t7.2.2.1, t7.2.2.2.1, t7.2.2.2.2.1, t7.2.2.2.2.2.1, t7.2.2.2.2.2.2.1, t7.2.2.2.2.2.2.2.1, t7.2.2.2.2.2.2.2.2.1, (t7.2.2.2.2.2.2.2.2.2 ++ ([((rd_Wr t7.2.2.1 t7.1).1, (([] : List E_u8) ++ (rd_Wr t7.2.2.1 t7.1).2))] : List E_Wr))))) else none else none else none else none else none else none else k1 (t7.2.2.2.2.2.1, t7.2.2.2.2.2.2.1, t7.2.2.2.2.2.2.2.1, t7.2.2.2.2.2.2.2.2.1, t7.2.2.2.2.2.2.2.2.2)
 | .inr (.inr (.inl t7)) => bif (decide (t7.1 < ((List.length t7.2.2.1 : Nat) : Int))) then if (0 : Int) ≤ t7.1 then if t7.1 < ((List.length t7.2.2.1 : Nat) : Int) then if (0 : Int) ≤ t7.1 then if t7.1 < ((List.length t7.2.2.1 : Nat) : Int) then if (List.length ([] : List E_u8) + List.length ((rd_Wr t7.2.2.1 t7.1).2)) * 1 < 140737488355328 then if List.length ([((rd_Wr t7.2.2.1 t7.1).1, (([] : List E_u8) ++ (rd_Wr t7.2.2.1 t7.1).2))] : List E_Wr) * 32 < 140737488355328 then again (Sum.inr (Sum.inr (Sum.inr ((Go.IntKind.wrap .i64 (t7.1 + (1 : Int))), t7.2.1, t7.2.2.1, t7.2.2.2.1, t7.2.2.2.2.1, t7.2.2.2.2.2.1, t7.2.2.2.2.2.2.1, t7.2.2.2.2.2.2.2.1, t7.2.2.2.2.2.2.2.2.1, t7.2.2.2.2.2.2.2.2.2, ([((rd_Wr t7.2.2.1 t7.1).1, (([] : List E_u8) ++ (rd_Wr t7.2.2.1 t7.1).2))] : List E_Wr))))) else none else none else none else none else none else none else k2 (t7.2.2.2.2.2.1, t7.2.2.2.2.2.2.1, t7.2.2.2.2.2.2.2.1, t7.2.2.2.2.2.2.2.2.1, t7.2.2.2.2.2.2.2.2.2)
 | .inr (.inr (.inr t7)) => bif (decide (t7.1 < ((List.length t7.2.2.1 : Nat) : Int))) then if (0 : Int) ≤ t7.1 then if t7.1 < ((List.length t7.2.2.1 : Nat) : Int) then if (0 : Int) ≤ t7.1 then if t7.1 < ((List.length t7.2.2.1 : Nat) : Int) then if (List.length ([] : List E_u8) + List.length ((rd_Wr t7.2.2.1 t7.1).2)) * 1 < 140737488355328 then if (List.length t7.2.2.2.2.2.2.2.2.2.2 + List.length ([((rd_Wr t7.2.2.1 t7.1).1, (([] : List E_u8) ++ (rd_Wr t7.2.2.1 t7.1).2))] : List E_Wr)) * 32 < 140737488355328 then again (Sum.inr (Sum.inr (Sum.inr ((Go.IntKind.wrap .i64 (t7.1 + (1 : Int))), t7.2.1, t7.2.2.1, t7.2.2.2.1, t7.2.2.2.2.1, t7.2.2.2.2.2.1, t7.2.2.2.2.2.2.1, t7.2.2.2.2.2.2.2.1, t7.2.2.2.2.2.2.2.2.1, t7.2.2.2.2.2.2.2.2.2.1, (t7.2.2.2.2.2.2.2.2.2.2 ++ ([((rd_Wr t7.2.2.1 t7.1).1, (([] : List E_u8) ++ (rd_Wr t7.2.2.1 t7.1).2))] : List E_Wr)))))) else none else none else none else none else none else none else k3 (t7.2.2.2.2.2.1, t7.2.2.2.2.2.2.1, t7.2.2.2.2.2.2.2.1, t7.2.2.2.2.2.2.2.2.1, t7.2.2.2.2.2.2.2.2.2.1, t7.2.2.2.2.2.2.2.2.2.2)
def L_spec_l2Copy_7 k0 k1 k2 k3 := iter (@S_spec_l2Copy_7 R k0 k1 k2 k3) FUEL
def F_spec_l2Copy (x : Qz111) : Option Qz111 :=
 L_spec_l2Copy_3 (fun x1 => L_spec_l2Copy_7 (fun x2 => some (([] : List E_s_u8), ([] : List E_Wr), x2.2.2.1, x2.2.2.2)) (fun x3 => some (([] : List E_s_u8), x3.2.2.2.2, x3.2.2.1, x3.2.2.2.1)) (fun x4 => some (x4.2.2.2.2, ([] : List E_Wr), x4.2.2.1, x4.2.2.2.1)) (fun x5 => some (x5.2.2.2.2.1, x5.2.2.2.2.2, x5.2.2.1, x5.2.2.2.1)) (Sum.inl ((0 : Int), x1.1, x1.2.1, x1.2.2.1, x1.2.2.2.1, x1.2.2.2.2.1, x1.2.2.2.2.2.1, x1.2.2.2.2.2.2.1, x1.2.2.2.2.2.2.2))) (fun x6 => L_spec_l2Copy_7 (fun x7 => some (([] : List E_s_u8), ([] : List E_Wr), x7.2.2.1, x7.2.2.2)) (fun x8 => some (([] : List E_s_u8), x8.2.2.2.2, x8.2.2.1, x8.2.2.2.1)) (fun x9 => some (x9.2.2.2.2, ([] : List E_Wr), x9.2.2.1, x9.2.2.2.1)) (fun x10 => some (x10.2.2.2.2.1, x10.2.2.2.2.2, x10.2.2.1, x10.2.2.2.1)) (Sum.inr (Sum.inr (Sum.inl ((0 : Int), x6.1, x6.2.1, x6.2.2.1, x6.2.2.2.1, x6.2.2.2.2.1, x6.2.2.2.2.2.1, x6.2.2.2.2.2.2.1, x6.2.2.2.2.2.2.2.1, x6.2.2.2.2.2.2.2.2))))) (Sum.inl ((0 : Int), x.1, x.2.1, x.2.2.1, x.2.2.2, (0 : Int), false, x.2.2.1, x.2.2.2))
def f176Q : List QF := []
def f176e3_0 (t : Qz101) : St := ⟨.dead :: .box 1 0 :: .box 2 0 :: .box 3 0 :: vI t.1 :: dd 53 [], [(1, .box [v_s_u8 t.2.1, v_Wr t.2.2.1, vI t.2.2.2.1, vB t.2.2.2.2.1]), (2, .box [.nils, .nils, vI t.2.2.2.2.2.1, vB t.2.2.2.2.2.2.1]), (3, .box [.nils, .nils, vI t.2.2.2.2.2.2.2.1, vB t.2.2.2.2.2.2.2.2])]⟩
theorem f176v3_0 : ∀ s t, unG qz101 f176e3_0 s = some t → f176e3_0 t = s := unG_ok fun t => by kernel_rfl
def f176e3_1 (t : Qz102) : St := ⟨.dead :: .box 1 0 :: .box 2 0 :: .box 3 0 :: vI t.1 :: dd 53 [], [(1, .box [v_s_u8 t.2.1, v_Wr t.2.2.1, vI t.2.2.2.1, vB t.2.2.2.2.1]), (2, .box [.nils, .nils, vI t.2.2.2.2.2.1, vB t.2.2.2.2.2.2.1]), (3, .box [.own 10000000, .nils, vI t.2.2.2.2.2.2.2.1, vB t.2.2.2.2.2.2.2.2.1]), (10000000, .root true 32 ts_s_u8 t.2.2.2.2.2.2.2.2.2)]⟩
theorem f176v3_1 : ∀ s t, unG qz102 f176e3_1 s = some t → f176e3_1 t = s := unG_ok fun t => by kernel_rfl
def f176e3r0 : (Qz101 ⊕ Qz102) → St := Sum.elim f176e3_0 f176e3_1
def f176u3r0 (s : St) : Option (Qz101 ⊕ Qz102) := ((unG qz101 f176e3_0 s).map Sum.inl).or (((unG qz102 f176e3_1) s).map Sum.inr)
theorem f176v3r0 : ∀ s t, f176u3r0 s = some t → f176e3r0 t = s := or_un f176v3_0 f176v3_1
def f176g3 : Gk T_spec_l2Copy_3 := fun κ => S_spec_l2Copy_3 (fun t => κ (some 0) ⟨.dead :: .box 1 0 :: .box 2 0 :: .box 3 0 :: dd 54 [], [(1, .box [v_s_u8 t.1, v_Wr t.2.1, vI t.2.2.1, vB t.2.2.2.1]), (2, .box [.nils, .nils, vI t.2.2.2.2.1, vB t.2.2.2.2.2.1]), (3, .box [.nils, .nils, vI t.2.2.2.2.2.2.1, vB t.2.2.2.2.2.2.2])]⟩) (fun t => κ (some 0) ⟨.dead :: .box 1 0 :: .box 2 0 :: .box 3 0 :: dd 54 [], [(1, .box [v_s_u8 t.1, v_Wr t.2.1, vI t.2.2.1, vB t.2.2.2.1]), (2, .box [.nils, .nils, vI t.2.2.2.2.1, vB t.2.2.2.2.2.1]), (3, .box [.own 10000000, .nils, vI t.2.2.2.2.2.2.1, vB t.2.2.2.2.2.2.2.1]), (10000000, .root true 32 ts_s_u8 t.2.2.2.2.2.2.2.2)]⟩)
def f176e7_0 (t : Qz101) : St := ⟨.dead :: .box 1 0 :: .box 2 0 :: .box 3 0 :: .dead :: vI t.1 :: dd 52 [], [(1, .box [v_s_u8 t.2.1, v_Wr t.2.2.1, vI t.2.2.2.1, vB t.2.2.2.2.1]), (2, .box [.nils, .nils, vI t.2.2.2.2.2.1, vB t.2.2.2.2.2.2.1]), (3, .box [.nils, .nils, vI t.2.2.2.2.2.2.2.1, vB t.2.2.2.2.2.2.2.2])]⟩
theorem f176v7_0 : ∀ s t, unG qz101 f176e7_0 s = some t → f176e7_0 t = s := unG_ok fun t => by kernel_rfl
def f176e7_1 (t : Qz105) : St := ⟨.dead :: .box 1 0 :: .box 2 0 :: .box 3 0 :: .dead :: vI t.1 :: dd 52 [], [(1, .box [v_s_u8 t.2.1, v_Wr t.2.2.1, vI t.2.2.2.1, vB t.2.2.2.2.1]), (2, .box [.nils, .nils, vI t.2.2.2.2.2.1, vB t.2.2.2.2.2.2.1]), (3, .box [.nils, .own 10000000, vI t.2.2.2.2.2.2.2.1, vB t.2.2.2.2.2.2.2.2.1]), (10000000, .root true 186 ts_Wr t.2.2.2.2.2.2.2.2.2)]⟩
theorem f176v7_1 : ∀ s t, unG qz105 f176e7_1 s = some t → f176e7_1 t = s := unG_ok fun t => by kernel_rfl
def f176e7_2 (t : Qz102) : St := ⟨.dead :: .box 1 0 :: .box 2 0 :: .box 3 0 :: .dead :: vI t.1 :: dd 52 [], [(1, .box [v_s_u8 t.2.1, v_Wr t.2.2.1, vI t.2.2.2.1, vB t.2.2.2.2.1]), (2, .box [.nils, .nils, vI t.2.2.2.2.2.1, vB t.2.2.2.2.2.2.1]), (3, .box [.own 10000000, .nils, vI t.2.2.2.2.2.2.2.1, vB t.2.2.2.2.2.2.2.2.1]), (10000000, .root true 32 ts_s_u8 t.2.2.2.2.2.2.2.2.2)]⟩
theorem f176v7_2 : ∀ s t, unG qz102 f176e7_2 s = some t → f176e7_2 t = s := unG_ok fun t => by kernel_rfl
def f176e7_3 (t : Qz106) : St := ⟨.dead :: .box 1 0 :: .box 2 0 :: .box 3 0 :: .dead :: vI t.1 :: dd 52 [], [(1, .box [v_s_u8 t.2.1, v_Wr t.2.2.1, vI t.2.2.2.1, vB t.2.2.2.2.1]), (2, .box [.nils, .nils, vI t.2.2.2.2.2.1, vB t.2.2.2.2.2.2.1]), (3, .box [.own 10000000, .own 10000001, vI t.2.2.2.2.2.2.2.1, vB t.2.2.2.2.2.2.2.2.1]), (10000000, .root true 32 ts_s_u8 t.2.2.2.2.2.2.2.2.2.1), (10000001, .root true 186 ts_Wr t.2.2.2.2.2.2.2.2.2.2)]⟩
theorem f176v7_3 : ∀ s t, unG qz106 f176e7_3 s = some t → f176e7_3 t = s := unG_ok fun t => by kernel_rfl
def f176e7r2 : (Qz102 ⊕ Qz106) → St := Sum.elim f176e7_2 f176e7_3
def f176u7r2 (s : St) : Option (Qz102 ⊕ Qz106) := ((unG qz102 f176e7_2 s).map Sum.inl).or (((unG qz106 f176e7_3) s).map Sum.inr)
theorem f176v7r2 : ∀ s t, f176u7r2 s = some t → f176e7r2 t = s := or_un f176v7_2 f176v7_3
def f176e7r1 : (Qz105 ⊕ Qz102 ⊕ Qz106) → St := Sum.elim f176e7_1 f176e7r2
def f176u7r1 (s : St) : Option (Qz105 ⊕ Qz102 ⊕ Qz106) := ((unG qz105 f176e7_1 s).map Sum.inl).or ((f176u7r2 s).map Sum.inr)
theorem f176v7r1 : ∀ s t, f176u7r1 s = some t → f176e7r1 t = s := or_un f176v7_1 f176v7r2
def f176e7r0 : (Qz101 ⊕ Qz105 ⊕ Qz102 ⊕ Qz106) → St := Sum.elim f176e7_0 f176e7r1
def f176u7r0 (s : St) : Option (Qz101 ⊕ Qz105 ⊕ Qz102 ⊕ Qz106) := ((unG qz101 f176e7_0 s).map Sum.inl).or ((f176u7r1 s).map Sum.inr)
theorem f176v7r0 : ∀ s t, f176u7r0 s = some t → f176e7r0 t = s := or_un f176v7_0 f176v7r1
def f176g7 : Gk T_spec_l2Copy_7 := fun κ => S_spec_l2Copy_7 (fun t => κ (some 2) ⟨dd 2 (.box 2 0 :: .box 3 0 :: dd 54 []), [(2, .box [.nils, .nils, vI t.1, vB t.2.1]), (3, .box [.nils, .nils, vI t.2.2.1, vB t.2.2.2])]⟩) (fun t => κ (some 2) ⟨dd 2 (.box 2 0 :: .box 3 0 :: dd 54 []), [(2, .box [.nils, .nils, vI t.1, vB t.2.1]), (3, .box [.nils, .own 10000000, vI t.2.2.1, vB t.2.2.2.1]), (10000000, .root true 186 ts_Wr t.2.2.2.2)]⟩) (fun t => κ (some 2) ⟨dd 2 (.box 2 0 :: .box 3 0 :: dd 54 []), [(2, .box [.nils, .nils, vI t.1, vB t.2.1]), (3, .box [.own 10000000, .nils, vI t.2.2.1, vB t.2.2.2.1]), (10000000, .root true 32 ts_s_u8 t.2.2.2.2)]⟩) (fun t => κ (some 2) ⟨dd 2 (.box 2 0 :: .box 3 0 :: dd 54 []), [(2, .box [.nils, .nils, vI t.1, vB t.2.1]), (3, .box [.own 10000000, .own 10000001, vI t.2.2.1, vB t.2.2.2.1]), (10000000, .root true 32 ts_s_u8 t.2.2.2.2.1), (10000001, .root true 186 ts_Wr t.2.2.2.2.2)]⟩)
def f176P : Lp := lpC 7 f176u7r0 @f176g7 (lpC 3 f176u3r0 @f176g3 lpN)
theorem f176C3_0 : LF f176Q f176P 176 3 Tryz.f176 0 f176e3r0 @f176g3 fun v : Qz101 => .inl v := fun R κ again v => by kernel_rfl
theorem f176C3_1 : LF f176Q f176P 176 3 Tryz.f176 0 f176e3r0 @f176g3 fun v : Qz102 => .inr v := fun R κ again v => by kernel_rfl
theorem f176C3 : LF f176Q f176P 176 3 Tryz.f176 0 f176e3r0 @f176g3 fun t => t := (LC.sum f176C3_0 f176C3_1)
theorem f176k3 : LK f176Q f176P 176 Tryz.f176 0 := lkN (u := f176u3r0) f176v3r0 f176C3
theorem f176C7_0 : LF f176Q f176P 176 7 Tryz.f176 1 f176e7r0 @f176g7 fun v : Qz101 => .inl v := fun R κ again v => by kernel_rfl
theorem f176C7_1 : LF f176Q f176P 176 7 Tryz.f176 1 f176e7r0 @f176g7 fun v : Qz105 => .inr (.inl v) := fun R κ again v => by kernel_rfl
theorem f176C7_2 : LF f176Q f176P 176 7 Tryz.f176 1 f176e7r0 @f176g7 fun v : Qz102 => .inr (.inr (.inl v)) := fun R κ again v => by kernel_rfl
theorem f176C7_3 : LF f176Q f176P 176 7 Tryz.f176 1 f176e7r0 @f176g7 fun v : Qz106 => .inr (.inr (.inr v)) := fun R κ again v => by kernel_rfl
theorem f176C7 : LF f176Q f176P 176 7 Tryz.f176 1 f176e7r0 @f176g7 fun t => t := (LC.sum f176C7_0 (LC.sum f176C7_1 (LC.sum f176C7_2 f176C7_3)))
theorem f176k7 : LK f176Q f176P 176 Tryz.f176 1 := lkN (u := f176u7r0) f176v7r0 f176C7
theorem ev176 : EV f176Q f176P 176 Tryz.f176 sg176 qz111 qz111 F_spec_l2Copy := fun x => by kernel_rfl
def q176 : QF := ⟨176, F_spec_l2Copy, okN (n := 2) Tryz.func176 ⟨f176k3, f176k7, trivial⟩ ev176⟩
def F_spec_l19Copy (x : Qz112) : Option Qz112 :=
 Option.bind (F_spec_l2Copy (x.1, x.2.1, x.2.2.1, x.2.2.2.1)) fun r1 => Option.bind (F_spec_l10Copy (x.2.2.2.2.1, x.2.2.2.2.2.1, x.2.2.2.2.2.2.1, x.2.2.2.2.2.2.2.1, x.2.2.2.2.2.2.2.2.1, x.2.2.2.2.2.2.2.2.2.1)) fun r2 => some (r1.1, r1.2.1, r1.2.2.1, r1.2.2.2, r2.1, r2.2.1, r2.2.2.1, r2.2.2.2.1, r2.2.2.2.2.1, r2.2.2.2.2.2, x.2.2.2.2.2.2.2.2.2.2.1, x.2.2.2.2.2.2.2.2.2.2.2.1, x.2.2.2.2.2.2.2.2.2.2.2.2)
theorem ev100 : EV [q114, q176] lpN 100 Tryz.f100 sg100 qz112 qz112 F_spec_l19Copy := fun x => by kernel_rfl
def q100 : QF := ⟨100, F_spec_l19Copy, okN (n := 0) Tryz.func100 trivial ev100⟩
def F_spec_l1In (x : Qz113) : Option Bool :=
 Option.bind (bif (decide (x.1 ≥ x.2.1)) then some (decide (x.1 ≤ x.2.2)) else some false) fun u1 => some u1
theorem ev107 : EV [] lpN 107 Tryz.f107 sg107 qz113 [.bool] F_spec_l1In := fun x => by kernel_rfl
def q107 : QF := ⟨107, F_spec_l1In, okN (n := 0) Tryz.func107 trivial ev107⟩
abbrev T_spec_Drop_3 : Type := Qz114
def S_spec_Drop_3 (k0 : List E_Key → Option R) (again : T_spec_Drop_3 → Option R) (t3 : T_spec_Drop_3) : Option R :=
 bif (decide (t3.2.1 < ((List.length t3.1 : Nat) : Int))) then if (0 : Int) ≤ t3.2.1 then if t3.2.1 < ((List.length t3.1 : Nat) : Int) then bif ((rd_Key t3.1 t3.2.1).2.2.1 != (0 : Int)) then if (0 : Int) ≤ t3.2.1 then if t3.2.1 < ((List.length t3.1 : Nat) : Int) then if (List.length t3.2.2 + List.length ([((rd_Key t3.1 t3.2.1).1, (rd_Key t3.1 t3.2.1).2.1, (rd_Key t3.1 t3.2.1).2.2.1, (rd_Key t3.1 t3.2.1).2.2.2.1, (rd_Key t3.1 t3.2.1).2.2.2.2)] : List E_Key)) * 40 < 140737488355328 then again (t3.1, (Go.IntKind.wrap .i64 (t3.2.1 + (1 : Int))), (t3.2.2 ++ ([((rd_Key t3.1 t3.2.1).1, (rd_Key t3.1 t3.2.1).2.1, (rd_Key t3.1 t3.2.1).2.2.1, (rd_Key t3.1 t3.2.1).2.2.2.1, (rd_Key t3.1 t3.2.1).2.2.2.2)] : List E_Key))) else none else none else none else again (t3.1, (Go.IntKind.wrap .i64 (t3.2.1 + (1 : Int))), t3.2.2) else none else none else k0 t3.2.2
def L_spec_Drop_3 k0 := iter (@S_spec_Drop_3 R k0) FUEL
def F_spec_Drop (x : List E_Key) : Option (List E_Key) :=
 L_spec_Drop_3 (fun x1 => some x1) (x, (0 : Int), ([] : List E_Key))
def f235Q : List QF := []
def f235e3_0 (t : Qz114) : St := ⟨v_Key t.1 :: dd 2 (.own 10000000 :: vI t.2.1 :: dd 21 []), [(10000000, .root true 106 ts_Key t.2.2)]⟩
def f235g3 : Gk T_spec_Drop_3 := fun κ => S_spec_Drop_3 (fun t => κ (some 0) ⟨dd 3 (.own 10000000 :: dd 22 []), [(10000000, .root true 106 ts_Key t)]⟩)
def f235P : Lp := lpC 3 (unG qz114 f235e3_0) @f235g3 lpN
theorem f235C3 : LF f235Q f235P 235 3 Tryz.f235 0 f235e3_0 @f235g3 fun t => t := fun R κ again t => by kernel_rfl
theorem f235k3 : LK f235Q f235P 235 Tryz.f235 0 := lkN (u := (unG qz114 f235e3_0)) (unG_ok fun t => by kernel_rfl) f235C3
theorem ev235 : EV f235Q f235P 235 Tryz.f235 sg235 [(.sl 106 ts_Key)] [(.sl 106 ts_Key)] F_spec_Drop := fun x => by kernel_rfl
def q235 : QF := ⟨235, F_spec_Drop, okN (n := 1) Tryz.func235 ⟨f235k3, trivial⟩ ev235⟩
def F_spec_LessKey (x : Qz2) : Option Bool :=
 bif (x.1 != x.2.2.2.2.2.1) then some (decide (x.1 < x.2.2.2.2.2.1)) else some (decide (x.2.1 < x.2.2.2.2.2.2.1))
theorem ev266 : EV [] lpN 266 Tryz.f266 sg266 qz2 [.bool] F_spec_LessKey := fun x => by kernel_rfl
def q266 : QF := ⟨266, F_spec_LessKey, okN (n := 0) Tryz.func266 trivial ev266⟩
def F_spec_SameSpot (x : Qz2) : Option Bool :=
 Option.bind (bif (x.1 == x.2.2.2.2.2.1) then some (x.2.1 == x.2.2.2.2.2.2.1) else some false) fun u1 => some u1
theorem ev267 : EV [] lpN 267 Tryz.f267 sg267 qz2 [.bool] F_spec_SameSpot := fun x => by kernel_rfl
def q267 : QF := ⟨267, F_spec_SameSpot, okN (n := 0) Tryz.func267 trivial ev267⟩
abbrev T_spec_SetPut_4 : Type := Qz115
def S_spec_SetPut_4 (k0 : Qz116 → Option R) (again : T_spec_SetPut_4 → Option R) (t4 : T_spec_SetPut_4) : Option R :=
 bif (decide (t4.2.2.1 < ((List.length t4.1 : Nat) : Int))) then Option.bind (bif (!t4.2.1) then if (0 : Int) ≤ t4.2.2.1 then if t4.2.2.1 < ((List.length t4.1 : Nat) : Int) then Option.bind (F_spec_LessKey ((rd_Key t4.1 t4.2.2.1).1, (rd_Key t4.1 t4.2.2.1).2.1, (rd_Key t4.1 t4.2.2.1).2.2.1, (rd_Key t4.1 t4.2.2.1).2.2.2.1, (rd_Key t4.1 t4.2.2.1).2.2.2.2, t4.2.2.2.1, t4.2.2.2.2.1, t4.2.2.2.2.2.1, t4.2.2.2.2.2.2.1, t4.2.2.2.2.2.2.2.1)) fun r2 => some (!r2) else none else none else some false) fun u1 => bif u1 then if (List.length t4.2.2.2.2.2.2.2.2 + List.length ([(t4.2.2.2.1, t4.2.2.2.2.1, t4.2.2.2.2.2.1, t4.2.2.2.2.2.2.1, t4.2.2.2.2.2.2.2.1)] : List E_Key)) * 40 < 140737488355328 then if (0 : Int) ≤ t4.2.2.1 then if t4.2.2.1 < ((List.length t4.1 : Nat) : Int) then Option.bind (F_spec_SameSpot ((rd_Key t4.1 t4.2.2.1).1, (rd_Key t4.1 t4.2.2.1).2.1, (rd_Key t4.1 t4.2.2.1).2.2.1, (rd_Key t4.1 t4.2.2.1).2.2.2.1, (rd_Key t4.1 t4.2.2.1).2.2.2.2, t4.2.2.2.1, t4.2.2.2.2.1, t4.2.2.2.2.2.1, t4.2.2.2.2.2.2.1, t4.2.2.2.2.2.2.2.1)) fun r3 => bif (!r3) then if (0 : Int) ≤ t4.2.2.1 then if t4.2.2.1 < ((List.length t4.1 : Nat) : Int) then if (List.length (t4.2.2.2.2.2.2.2.2 ++ ([(t4.2.2.2.1, t4.2.2.2.2.1, t4.2.2.2.2.2.1, t4.2.2.2.2.2.2.1, t4.2.2.2.2.2.2.2.1)] : List E_Key)) + List.length ([((rd_Key t4.1 t4.2.2.1).1, (rd_Key t4.1 t4.2.2.1).2.1, (rd_Key t4.1 t4.2.2.1).2.2.1, (rd_Key t4.1 t4.2.2.1).2.2.2.1, (rd_Key t4.1 t4.2.2.1).2.2.2.2)] : List E_Key)) * 40 < 140737488355328 then again (t4.1, true, (Go.IntKind.wrap .i64 (t4.2.2.1 + (1 : Int))), t4.2.2.2.1, t4.2.2.2.2.1, t4.2.2.2.2.2.1, t4.2.2.2.2.2.2.1, t4.2.2.2.2.2.2.2.1, ((t4.2.2.2.2.2.2.2.2 ++ ([(t4.2.2.2.1, t4.2.2.2.2.1, t4.2.2.2.2.2.1, t4.2.2.2.2.2.2.1, t4.2.2.2.2.2.2.2.1)] : List E_Key)) ++ ([((rd_Key t4.1 t4.2.2.1).1, (rd_Key t4.1 t4.2.2.1).2.1, (rd_Key t4.1 t4.2.2.1).2.2.1, (rd_Key t4.1 t4.2.2.1).2.2.2.1, (rd_Key t4.1 t4.2.2.1).2.2.2.2)] : List E_Key))) else none else none else none else again (t4.1, true, (Go.IntKind.wrap .i64 (t4.2.2.1 + (1 : Int))), t4.2.2.2.1, t4.2.2.2.2.1, t4.2.2.2.2.2.1, t4.2.2.2.2.2.2.1, t4.2.2.2.2.2.2.2.1, (t4.2.2.2.2.2.2.2.2 ++ ([(t4.2.2.2.1, t4.2.2.2.2.1, t4.2.2.2.2.2.1, t4.2.2.2.2.2.2.1, t4.2.2.2.2.2.2.2.1)] : List E_Key))) else none else none else none else if (0 : Int) ≤ t4.2.2.1 then if t4.2.2.1 < ((List.length t4.1 : Nat) : Int) then Option.bind (F_spec_SameSpot ((rd_Key t4.1 t4.2.2.1).1, (rd_Key t4.1 t4.2.2.1).2.1, (rd_Key t4.1 t4.2.2.1).2.2.1, (rd_Key t4.1 t4.2.2.1).2.2.2.1, (rd_Key t4.1 t4.2.2.1).2.2.2.2, t4.2.2.2.1, t4.2.2.2.2.1, t4.2.2.2.2.2.1, t4.2.2.2.2.2.2.1, t4.2.2.2.2.2.2.2.1)) fun r4 => bif (!r4) then if (0 : Int) ≤ t4.2.2.1 then if t4.2.2.1 < ((List.length t4.1 : Nat) : Int) then if (List.length t4.2.2.2.2.2.2.2.2 + List.length ([((rd_Key t4.1 t4.2.2.1).1, (rd_Key t4.1 t4.2.2.1).2.1, (rd_Key t4.1 t4.2.2.1).2.2.1, (rd_Key t4.1 t4.2.2.1).2.2.2.1, (rd_Key t4.1 t4.2.2.1).2.2.2.2)] : List E_Key)) * 40 < 140737488355328 then again (t4.1, t4.2.1, (Go.IntKind.wrap .i64 (t4.2.2.1 + (1 : Int))), t4.2.2.2.1, t4.2.2.2.2.1, t4.2.2.2.2.2.1, t4.2.2.2.2.2.2.1, t4.2.2.2.2.2.2.2.1, (t4.2.2.2.2.2.2.2.2 ++ ([((rd_Key t4.1 t4.2.2.1).1, (rd_Key t4.1 t4.2.2.1).2.1, (rd_Key t4.1 t4.2.2.1).2.2.1, (rd_Key t4.1 t4.2.2.1).2.2.2.1, (rd_Key t4.1 t4.2.2.1).2.2.2.2)] : List E_Key))) else none else none else none else again (t4.1, t4.2.1, (Go.IntKind.wrap .i64 (t4.2.2.1 + (1 : Int))), t4.2.2.2.1, t4.2.2.2.2.1, t4.2.2.2.2.2.1, t4.2.2.2.2.2.2.1, t4.2.2.2.2.2.2.2.1, t4.2.2.2.2.2.2.2.2) else none else none else k0 (t4.2.1, t4.2.2.2.1, t4.2.2.2.2.1, t4.2.2.2.2.2.1, t4.2.2.2.2.2.2.1, t4.2.2.2.2.2.2.2.1, t4.2.2.2.2.2.2.2.2)
def L_spec_SetPut_4 k0 := iter (@S_spec_SetPut_4 R k0) FUEL
def F_spec_SetPut (x : Qz117) : Option (List E_Key) :=
 L_spec_SetPut_4 (fun x5 => bif (!x5.1) then if (List.length x5.2.2.2.2.2.2 + List.length ([(x5.2.1, x5.2.2.1, x5.2.2.2.1, x5.2.2.2.2.1, x5.2.2.2.2.2.1)] : List E_Key)) * 40 < 140737488355328 then some (x5.2.2.2.2.2.2 ++ ([(x5.2.1, x5.2.2.1, x5.2.2.2.1, x5.2.2.2.2.1, x5.2.2.2.2.2.1)] : List E_Key)) else none else some x5.2.2.2.2.2.2) (x.1, false, (0 : Int), x.2.1, x.2.2.1, x.2.2.2.1, x.2.2.2.2.1, x.2.2.2.2.2, ([] : List E_Key))
def f236Q : List QF := [q266, q267]
def f236e4_0 (t : Qz115) : St := ⟨v_Key t.1 :: dd 2 (.box 3 0 :: .dead :: .own 10000000 :: vB t.2.1 :: vI t.2.2.1 :: dd 43 []), [(3, .box [vI t.2.2.2.1, vI t.2.2.2.2.1, vI t.2.2.2.2.2.1, vI t.2.2.2.2.2.2.1, vI t.2.2.2.2.2.2.2.1]), (10000000, .root true 106 ts_Key t.2.2.2.2.2.2.2.2)]⟩
def f236g4 : Gk T_spec_SetPut_4 := fun κ => S_spec_SetPut_4 (fun t => κ (some 0) ⟨dd 3 (.box 3 0 :: .dead :: .own 10000000 :: vB t.1 :: dd 44 []), [(3, .box [vI t.2.1, vI t.2.2.1, vI t.2.2.2.1, vI t.2.2.2.2.1, vI t.2.2.2.2.2.1]), (10000000, .root true 106 ts_Key t.2.2.2.2.2.2)]⟩)
def f236P : Lp := lpC 4 (unG qz115 f236e4_0) @f236g4 lpN
theorem f236C4 : LF f236Q f236P 236 4 Tryz.f236 0 f236e4_0 @f236g4 fun t => t := fun R κ again t => by kernel_rfl
theorem f236k4 : LK f236Q f236P 236 Tryz.f236 0 := lkN (u := (unG qz115 f236e4_0)) (unG_ok fun t => by kernel_rfl) f236C4
theorem ev236 : EV f236Q f236P 236 Tryz.f236 sg236 qz117 [(.sl 106 ts_Key)] F_spec_SetPut := fun x => by kernel_rfl
def q236 : QF := ⟨236, F_spec_SetPut, okN (n := 1) Tryz.func236 ⟨f236k4, trivial⟩ ev236⟩
abbrev T_spec_MergeSets_3 : Type := Qz114
def S_spec_MergeSets_3 (k0 : List E_Key → Option R) (again : T_spec_MergeSets_3 → Option R) (t3 : T_spec_MergeSets_3) : Option R :=
 bif (decide (t3.2.1 < ((List.length t3.1 : Nat) : Int))) then if (0 : Int) ≤ t3.2.1 then if t3.2.1 < ((List.length t3.1 : Nat) : Int) then Option.bind (F_spec_SetPut (t3.2.2, (rd_Key t3.1 t3.2.1).1, (rd_Key t3.1 t3.2.1).2.1, (rd_Key t3.1 t3.2.1).2.2.1, (rd_Key t3.1 t3.2.1).2.2.2.1, (rd_Key t3.1 t3.2.1).2.2.2.2)) fun r1 => again (t3.1, (Go.IntKind.wrap .i64 (t3.2.1 + (1 : Int))), r1) else none else none else k0 t3.2.2
def L_spec_MergeSets_3 k0 := iter (@S_spec_MergeSets_3 R k0) FUEL
def F_spec_MergeSets (x : Qz4) : Option (List E_Key) :=
 if (List.length ([] : List E_Key) + List.length x.1) * 40 < 140737488355328 then L_spec_MergeSets_3 (fun x2 => some x2) (x.2, (0 : Int), (([] : List E_Key) ++ x.1)) else none
def f261Q : List QF := [q236]
def f261e3_0 (t : Qz114) : St := ⟨.dead :: v_Key t.1 :: dd 3 (.own 10000000 :: vI t.2.1 :: dd 16 []), [(10000000, .root true 106 ts_Key t.2.2)]⟩
def f261g3 : Gk T_spec_MergeSets_3 := fun κ => S_spec_MergeSets_3 (fun t => κ (some 0) ⟨dd 5 (.own 10000000 :: dd 17 []), [(10000000, .root true 106 ts_Key t)]⟩)
def f261P : Lp := lpC 3 (unG qz114 f261e3_0) @f261g3 lpN
theorem f261C3 : LF f261Q f261P 261 3 Tryz.f261 0 f261e3_0 @f261g3 fun t => t := fun R κ again t => by kernel_rfl
theorem f261k3 : LK f261Q f261P 261 Tryz.f261 0 := lkN (u := (unG qz114 f261e3_0)) (unG_ok fun t => by kernel_rfl) f261C3
theorem ev261 : EV f261Q f261P 261 Tryz.f261 sg261 qz4 [(.sl 106 ts_Key)] F_spec_MergeSets := fun x => by kernel_rfl
def q261 : QF := ⟨261, F_spec_MergeSets, okN (n := 1) Tryz.func261 ⟨f261k3, trivial⟩ ev261⟩
abbrev T_spec_NodeKeys_3 : Type := Qz118
def S_spec_NodeKeys_3 (k0 : List E_Key → Option R) (again : T_spec_NodeKeys_3 → Option R) (t3 : T_spec_NodeKeys_3) : Option R :=
 bif (decide (t3.1 < ((List.length t3.2.1 : Nat) : Int))) then if (0 : Int) ≤ t3.1 then if t3.1 < ((List.length t3.2.1 : Nat) : Int) then Option.bind (F_spec_MergeSets (t3.2.2, (rd_s_Key t3.2.1 t3.1))) fun r1 => again ((Go.IntKind.wrap .i64 (t3.1 + (1 : Int))), t3.2.1, r1) else none else none else k0 t3.2.2
def L_spec_NodeKeys_3 k0 := iter (@S_spec_NodeKeys_3 R k0) FUEL
def F_spec_NodeKeys (x : List E_s_Key) : Option (List E_Key) :=
 L_spec_NodeKeys_3 (fun x2 => Option.bind (F_spec_Drop x2) fun r3 => some r3) ((0 : Int), x, ([] : List E_Key))
def f230Q : List QF := [q235, q261]
def f230e3_0 (t : Qz118) : St := ⟨.dead :: .box 1 0 :: .dead :: .own 10000000 :: vI t.1 :: dd 17 [], [(1, .box [v_s_Key t.2.1]), (10000000, .root true 106 ts_Key t.2.2)]⟩
def f230g3 : Gk T_spec_NodeKeys_3 := fun κ => S_spec_NodeKeys_3 (fun t => κ (some 0) ⟨dd 3 (.own 10000000 :: dd 18 []), [(10000000, .root true 106 ts_Key t)]⟩)
def f230P : Lp := lpC 3 (unG qz118 f230e3_0) @f230g3 lpN
theorem f230C3 : LF f230Q f230P 230 3 Tryz.f230 0 f230e3_0 @f230g3 fun t => t := fun R κ again t => by kernel_rfl
theorem f230k3 : LK f230Q f230P 230 Tryz.f230 0 := lkN (u := (unG qz118 f230e3_0)) (unG_ok fun t => by kernel_rfl) f230C3
theorem ev230 : EV f230Q f230P 230 Tryz.f230 sg230 [(.sl 100 ts_s_Key)] [(.sl 106 ts_Key)] F_spec_NodeKeys := fun x => by kernel_rfl
def q230 : QF := ⟨230, F_spec_NodeKeys, okN (n := 1) Tryz.func230 ⟨f230k3, trivial⟩ ev230⟩
abbrev T_spec_TreeKeys_3 : Type := Qz119
def S_spec_TreeKeys_3 (k0 : List E_Key → Option R) (again : T_spec_TreeKeys_3 → Option R) (t3 : T_spec_TreeKeys_3) : Option R :=
 bif (decide (t3.1 < ((List.length t3.2.2.1 : Nat) : Int))) then if (0 : Int) ≤ t3.1 then if t3.1 < ((List.length t3.2.2.1 : Nat) : Int) then Option.bind (F_spec_NodeKeys (rd_Node t3.2.2.1 t3.1)) fun r1 => if (List.length t3.2.2.2 + List.length r1) * 40 < 140737488355328 then again ((Go.IntKind.wrap .i64 (t3.1 + (1 : Int))), t3.2.1, t3.2.2.1, (t3.2.2.2 ++ r1)) else none else none else none else k0 t3.2.2.2
def L_spec_TreeKeys_3 k0 := iter (@S_spec_TreeKeys_3 R k0) FUEL
def F_spec_TreeKeys (x : Qz99) : Option (List E_Key) :=
 L_spec_TreeKeys_3 (fun x2 => some x2) ((0 : Int), x.1, x.2, ([] : List E_Key))
def f188Q : List QF := [q230]
def f188e3_0 (t : Qz119) : St := ⟨.dead :: .box 1 0 :: .dead :: .own 10000000 :: vI t.1 :: dd 17 [], [(1, .box [v_i64 t.2.1, v_Node t.2.2.1]), (10000000, .root true 106 ts_Key t.2.2.2)]⟩
def f188g3 : Gk T_spec_TreeKeys_3 := fun κ => S_spec_TreeKeys_3 (fun t => κ (some 0) ⟨dd 3 (.own 10000000 :: dd 18 []), [(10000000, .root true 106 ts_Key t)]⟩)
def f188P : Lp := lpC 3 (unG qz119 f188e3_0) @f188g3 lpN
theorem f188C3 : LF f188Q f188P 188 3 Tryz.f188 0 f188e3_0 @f188g3 fun t => t := fun R κ again t => by kernel_rfl
theorem f188k3 : LK f188Q f188P 188 Tryz.f188 0 := lkN (u := (unG qz119 f188e3_0)) (unG_ok fun t => by kernel_rfl) f188C3
theorem ev188 : EV f188Q f188P 188 Tryz.f188 sg188 qz99 [(.sl 106 ts_Key)] F_spec_TreeKeys := fun x => by kernel_rfl
def q188 : QF := ⟨188, F_spec_TreeKeys, okN (n := 1) Tryz.func188 ⟨f188k3, trivial⟩ ev188⟩
def F_spec_SpotOf (x : Qz69) : Option Int :=
 some (Go.IntKind.wrap .i64 ((Go.IntKind.wrap .i64 ((64 : Int) * x.1)) + x.2))
theorem ev264 : EV [] lpN 264 Tryz.f264 sg264 qz69 [(.int .i64)] F_spec_SpotOf := fun x => by kernel_rfl
def q264 : QF := ⟨264, F_spec_SpotOf, okN (n := 0) Tryz.func264 trivial ev264⟩
def F_spec_l6Spot (x : Qz120) : Option Int :=
 Option.bind (F_spec_SpotOf (x.1, x.2.1)) fun r1 => some r1
theorem ev237 : EV [q264] lpN 237 Tryz.f237 sg237 qz120 [(.int .i64)] F_spec_l6Spot := fun x => by kernel_rfl
def q237 : QF := ⟨237, F_spec_l6Spot, okN (n := 0) Tryz.func237 trivial ev237⟩
def F_spec_KeyOk (x : Qz120) : Option Bool :=
 Option.bind (F_spec_l1In (x.1, (0 : Int), (15 : Int))) fun r1 => Option.bind (bif (!r1) then some true else Option.bind (F_spec_l1In (x.2.1, (1 : Int), (60 : Int))) fun r3 => some (!r3)) fun u2 => Option.bind (bif u2 then some true else Option.bind (F_spec_l1In (x.2.2.1, (0 : Int), (2 : Int))) fun r5 => some (!r5)) fun u4 => bif u4 then some false else bif (x.2.2.1 == (1 : Int)) then Option.bind (F_spec_l1In (x.2.2.2.1, (0 : Int), (23 : Int))) fun r6 => Option.bind (bif r6 then Option.bind (F_spec_l1In (x.2.2.2.2, (0 : Int), (999 : Int))) fun r8 => some r8 else some false) fun u7 => some u7 else Option.bind (bif (x.2.2.2.1 == (0 : Int)) then some (x.2.2.2.2 == (0 : Int)) else some false) fun u9 => some u9
theorem ev202 : EV [q107] lpN 202 Tryz.f202 sg202 qz120 [.bool] F_spec_KeyOk := fun x => by kernel_rfl
def q202 : QF := ⟨202, F_spec_KeyOk, okN (n := 0) Tryz.func202 trivial ev202⟩
abbrev T_spec_l4Rises_2 : Type := Qz34
def S_spec_l4Rises_2 (k0 : Bool → Option R) (k1 : Unit → Option R) (again : T_spec_l4Rises_2 → Option R) (t2 : T_spec_l4Rises_2) : Option R :=
 bif (decide (t2.2 < ((List.length t2.1 : Nat) : Int))) then if (0 : Int) ≤ (Go.IntKind.wrap .i64 (t2.2 - (1 : Int))) then if (Go.IntKind.wrap .i64 (t2.2 - (1 : Int))) < ((List.length t2.1 : Nat) : Int) then if (0 : Int) ≤ t2.2 then if t2.2 < ((List.length t2.1 : Nat) : Int) then Option.bind (F_spec_LessKey ((rd_Key t2.1 (Go.IntKind.wrap .i64 (t2.2 - (1 : Int)))).1, (rd_Key t2.1 (Go.IntKind.wrap .i64 (t2.2 - (1 : Int)))).2.1, (rd_Key t2.1 (Go.IntKind.wrap .i64 (t2.2 - (1 : Int)))).2.2.1, (rd_Key t2.1 (Go.IntKind.wrap .i64 (t2.2 - (1 : Int)))).2.2.2.1, (rd_Key t2.1 (Go.IntKind.wrap .i64 (t2.2 - (1 : Int)))).2.2.2.2, (rd_Key t2.1 t2.2).1, (rd_Key t2.1 t2.2).2.1, (rd_Key t2.1 t2.2).2.2.1, (rd_Key t2.1 t2.2).2.2.2.1, (rd_Key t2.1 t2.2).2.2.2.2)) fun r1 => bif (!r1) then k0 false else again (t2.1, (Go.IntKind.wrap .i64 (t2.2 + (1 : Int)))) else none else none else none else none else k1 ()
def L_spec_l4Rises_2 k0 k1 := iter (@S_spec_l4Rises_2 R k0 k1) FUEL
def F_spec_l4Rises (x : List E_Key) : Option Bool :=
 L_spec_l4Rises_2 (fun x2 => some x2) (fun x3 => some true) (x, (1 : Int))
def f300Q : List QF := [q266]
def f300e2_0 (t : Qz34) : St := ⟨v_Key t.1 :: dd 2 (vI t.2 :: dd 17 []), []⟩
def f300g2 : Gk T_spec_l4Rises_2 := fun κ => S_spec_l4Rises_2 (fun t => κ none ⟨dd 2 (vB t :: dd 18 []), []⟩) (fun t => κ (some 0) ⟨dd 21 [], []⟩)
def f300P : Lp := lpC 2 (unG qz34 f300e2_0) @f300g2 lpN
theorem f300C2 : LF f300Q f300P 300 2 Tryz.f300 0 f300e2_0 @f300g2 fun t => t := fun R κ again t => by kernel_rfl
theorem f300k2 : LK f300Q f300P 300 Tryz.f300 0 := lkN (u := (unG qz34 f300e2_0)) (unG_ok fun t => by kernel_rfl) f300C2
theorem ev300 : EV f300Q f300P 300 Tryz.f300 sg300 [(.sl 106 ts_Key)] [.bool] F_spec_l4Rises := fun x => by kernel_rfl
def q300 : QF := ⟨300, F_spec_l4Rises, okN (n := 1) Tryz.func300 ⟨f300k2, trivial⟩ ev300⟩
abbrev T_spec_SetOk_2 : Type := Qz34
def S_spec_SetOk_2 (k0 : Qz121 → Option R) (k1 : List E_Key → Option R) (again : T_spec_SetOk_2 → Option R) (t2 : T_spec_SetOk_2) : Option R :=
 bif (decide (t2.2 < ((List.length t2.1 : Nat) : Int))) then if (0 : Int) ≤ t2.2 then if t2.2 < ((List.length t2.1 : Nat) : Int) then Option.bind (F_spec_KeyOk ((rd_Key t2.1 t2.2).1, (rd_Key t2.1 t2.2).2.1, (rd_Key t2.1 t2.2).2.2.1, (rd_Key t2.1 t2.2).2.2.2.1, (rd_Key t2.1 t2.2).2.2.2.2)) fun r1 => bif (!r1) then k0 (t2.1, false) else again (t2.1, (Go.IntKind.wrap .i64 (t2.2 + (1 : Int)))) else none else none else k1 t2.1
def L_spec_SetOk_2 k0 k1 := iter (@S_spec_SetOk_2 R k0 k1) FUEL
def F_spec_SetOk (x : List E_Key) : Option Bool :=
 L_spec_SetOk_2 (fun x2 => some x2.2) (fun x3 => Option.bind (F_spec_l4Rises x3) fun r4 => Option.bind (bif r4 then some (decide (((List.length x3 : Nat) : Int) ≤ (60 : Int))) else some false) fun u5 => some u5) (x, (0 : Int))
def f276Q : List QF := [q202, q300]
def f276e2_0 (t : Qz34) : St := ⟨v_Key t.1 :: dd 2 (vI t.2 :: dd 19 []), []⟩
def f276g2 : Gk T_spec_SetOk_2 := fun κ => S_spec_SetOk_2 (fun t => κ none ⟨v_Key t.1 :: .dead :: vB t.2 :: dd 20 [], []⟩) (fun t => κ (some 0) ⟨v_Key t :: dd 22 [], []⟩)
def f276P : Lp := lpC 2 (unG qz34 f276e2_0) @f276g2 lpN
theorem f276C2 : LF f276Q f276P 276 2 Tryz.f276 0 f276e2_0 @f276g2 fun t => t := fun R κ again t => by kernel_rfl
theorem f276k2 : LK f276Q f276P 276 Tryz.f276 0 := lkN (u := (unG qz34 f276e2_0)) (unG_ok fun t => by kernel_rfl) f276C2
theorem ev276 : EV f276Q f276P 276 Tryz.f276 sg276 [(.sl 106 ts_Key)] [.bool] F_spec_SetOk := fun x => by kernel_rfl
def q276 : QF := ⟨276, F_spec_SetOk, okN (n := 1) Tryz.func276 ⟨f276k2, trivial⟩ ev276⟩
abbrev T_spec_l5Count_3 : Type := Qz35
def S_spec_l5Count_3 (k0 : Int → Option R) (again : T_spec_l5Count_3 → Option R) (t3 : T_spec_l5Count_3) : Option R :=
 bif (decide (t3.2.1 < ((List.length t3.2.2 : Nat) : Int))) then if (0 : Int) ≤ t3.2.1 then if t3.2.1 < ((List.length t3.2.2 : Nat) : Int) then again ((Go.IntKind.wrap .i64 (t3.1 + ((List.length (rd_s_Key t3.2.2 t3.2.1) : Nat) : Int))), (Go.IntKind.wrap .i64 (t3.2.1 + (1 : Int))), t3.2.2) else none else none else k0 t3.1
def L_spec_l5Count_3 k0 := iter (@S_spec_l5Count_3 R k0) FUEL
def F_spec_l5Count (x : List E_s_Key) : Option Int :=
 L_spec_l5Count_3 (fun x1 => some x1) ((0 : Int), (0 : Int), x)
def f277Q : List QF := []
def f277e3_0 (t : Qz35) : St := ⟨.dead :: .box 1 0 :: .dead :: vI t.1 :: vI t.2.1 :: dd 16 [], [(1, .box [v_s_Key t.2.2])]⟩
def f277g3 : Gk T_spec_l5Count_3 := fun κ => S_spec_l5Count_3 (fun t => κ (some 0) ⟨dd 3 (vI t :: dd 17 []), []⟩)
def f277P : Lp := lpC 3 (unG qz35 f277e3_0) @f277g3 lpN
theorem f277C3 : LF f277Q f277P 277 3 Tryz.f277 0 f277e3_0 @f277g3 fun t => t := fun R κ again t => by kernel_rfl
theorem f277k3 : LK f277Q f277P 277 Tryz.f277 0 := lkN (u := (unG qz35 f277e3_0)) (unG_ok fun t => by kernel_rfl) f277C3
theorem ev277 : EV f277Q f277P 277 Tryz.f277 sg277 [(.sl 100 ts_s_Key)] [(.int .i64)] F_spec_l5Count := fun x => by kernel_rfl
def q277 : QF := ⟨277, F_spec_l5Count, okN (n := 1) Tryz.func277 ⟨f277k3, trivial⟩ ev277⟩
abbrev T_spec_NodeOk_2 : Type := Qz36
def S_spec_NodeOk_2 (k0 : Qz122 → Option R) (k1 : List E_s_Key → Option R) (again : T_spec_NodeOk_2 → Option R) (t2 : T_spec_NodeOk_2) : Option R :=
 bif (decide (t2.1 < ((List.length t2.2 : Nat) : Int))) then if (0 : Int) ≤ t2.1 then if t2.1 < ((List.length t2.2 : Nat) : Int) then Option.bind (F_spec_SetOk (rd_s_Key t2.2 t2.1)) fun r1 => Option.bind (bif (!r1) then some true else if (0 : Int) ≤ t2.1 then if t2.1 < ((List.length t2.2 : Nat) : Int) then some (((List.length (rd_s_Key t2.2 t2.1) : Nat) : Int) == (0 : Int)) else none else none) fun u2 => bif u2 then k0 (false, t2.2) else again ((Go.IntKind.wrap .i64 (t2.1 + (1 : Int))), t2.2) else none else none else k1 t2.2
def L_spec_NodeOk_2 k0 k1 := iter (@S_spec_NodeOk_2 R k0 k1) FUEL
def F_spec_NodeOk (x : List E_s_Key) : Option Bool :=
 L_spec_NodeOk_2 (fun x3 => some x3.1) (fun x4 => Option.bind (bif (decide (((List.length x4 : Nat) : Int) ≤ (3 : Int))) then Option.bind (F_spec_l5Count x4) fun r6 => some (decide (r6 ≤ (8 : Int))) else some false) fun u5 => some u5) ((0 : Int), x)
def f244Q : List QF := [q276, q277]
def f244e2_0 (t : Qz36) : St := ⟨.dead :: .box 1 0 :: .dead :: vI t.1 :: dd 32 [], [(1, .box [v_s_Key t.2])]⟩
def f244g2 : Gk T_spec_NodeOk_2 := fun κ => S_spec_NodeOk_2 (fun t => κ none ⟨.dead :: .box 1 0 :: vB t.1 :: dd 33 [], [(1, .box [v_s_Key t.2])]⟩) (fun t => κ (some 0) ⟨.dead :: .box 1 0 :: dd 34 [], [(1, .box [v_s_Key t])]⟩)
def f244P : Lp := lpC 2 (unG qz36 f244e2_0) @f244g2 lpN
theorem f244C2 : LF f244Q f244P 244 2 Tryz.f244 0 f244e2_0 @f244g2 fun t => t := fun R κ again t => by kernel_rfl
theorem f244k2 : LK f244Q f244P 244 Tryz.f244 0 := lkN (u := (unG qz36 f244e2_0)) (unG_ok fun t => by kernel_rfl) f244C2
theorem ev244 : EV f244Q f244P 244 Tryz.f244 sg244 [(.sl 100 ts_s_Key)] [.bool] F_spec_NodeOk := fun x => by kernel_rfl
def q244 : QF := ⟨244, F_spec_NodeOk, okN (n := 1) Tryz.func244 ⟨f244k2, trivial⟩ ev244⟩
abbrev T_spec_l6Node_8 : Type := Qz123
def S_spec_l6Node_8 (k0 : Qz124 → Option R) (k1 : Qz125 → Option R) (again : T_spec_l6Node_8 → Option R) (t8 : T_spec_l6Node_8) : Option R :=
 if (0 : Int) ≤ t8.2.1 then if t8.2.1 < ((List.length t8.2.2.2.2.2 : Nat) : Int) then bif (decide (t8.2.2.1 < ((List.length (rd_s_Key t8.2.2.2.2.2 t8.2.1) : Nat) : Int))) then if (0 : Int) ≤ t8.2.1 then if t8.2.1 < ((List.length t8.2.2.2.2.2 : Nat) : Int) then if (0 : Int) ≤ t8.2.2.1 then if t8.2.2.1 < ((List.length (rd_s_Key t8.2.2.2.2.2 t8.2.1) : Nat) : Int) then Option.bind (F_spec_l6Spot ((rd_Key (rd_s_Key t8.2.2.2.2.2 t8.2.1) t8.2.2.1).1, (rd_Key (rd_s_Key t8.2.2.2.2.2 t8.2.1) t8.2.2.1).2.1, (rd_Key (rd_s_Key t8.2.2.2.2.2 t8.2.1) t8.2.2.1).2.2.1, (rd_Key (rd_s_Key t8.2.2.2.2.2 t8.2.1) t8.2.2.1).2.2.2.1, (rd_Key (rd_s_Key t8.2.2.2.2.2 t8.2.1) t8.2.2.1).2.2.2.2)) fun r5 => if (0 : Int) ≤ t8.1 then if t8.1 < ((List.length t8.2.2.2.1 : Nat) : Int) then Option.bind (bif (decide (r5 < (rd_i64 t8.2.2.2.1 t8.1))) then some true else Option.bind (bif (decide ((Go.IntKind.wrap .i64 (t8.1 + (1 : Int))) < ((List.length t8.2.2.2.1 : Nat) : Int))) then if (0 : Int) ≤ (Go.IntKind.wrap .i64 (t8.1 + (1 : Int))) then if (Go.IntKind.wrap .i64 (t8.1 + (1 : Int))) < ((List.length t8.2.2.2.1 : Nat) : Int) then some (decide (r5 ≥ (rd_i64 t8.2.2.2.1 (Go.IntKind.wrap .i64 (t8.1 + (1 : Int)))))) else none else none else some false) fun u7 => some u7) fun u6 => bif u6 then k0 (t8.1, false, t8.2.1, t8.2.2.2.1, t8.2.2.2.2.1, t8.2.2.2.2.2) else again (t8.1, t8.2.1, (Go.IntKind.wrap .i64 (t8.2.2.1 + (1 : Int))), t8.2.2.2.1, t8.2.2.2.2.1, t8.2.2.2.2.2) else none else none else none else none else none else none else k1 (t8.1, t8.2.1, t8.2.2.2.1, t8.2.2.2.2.1, t8.2.2.2.2.2) else none else none
def L_spec_l6Node_8 k0 k1 := iter (@S_spec_l6Node_8 R k0 k1) FUEL
abbrev T_spec_l6Node_5 : Type := Qz125
def S_spec_l6Node_5 (k0 : Bool → Option R) (k1 : Unit → Option R) (again : T_spec_l6Node_5 → Option R) (t5 : T_spec_l6Node_5) : Option R :=
 bif (decide (t5.2.1 < ((List.length t5.2.2.2.2 : Nat) : Int))) then L_spec_l6Node_8 (fun x8 => k0 x8.2.1) (fun x9 => again (x9.1, (Go.IntKind.wrap .i64 (x9.2.1 + (1 : Int))), x9.2.2.1, x9.2.2.2.1, x9.2.2.2.2)) (t5.1, t5.2.1, (0 : Int), t5.2.2.1, t5.2.2.2.1, t5.2.2.2.2) else k1 ()
def L_spec_l6Node_5 k0 k1 := iter (@S_spec_l6Node_5 R k0 k1) FUEL
def F_spec_l6Node (x : Qz41) : Option Bool :=
 if (0 : Int) ≤ x.2.2 then if x.2.2 < ((List.length x.2.1 : Nat) : Int) then Option.bind (F_spec_NodeOk (rd_Node x.2.1 x.2.2)) fun r1 => Option.bind (bif (!r1) then some true else Option.bind (bif (decide (x.2.2 > (0 : Int))) then Option.bind (F_spec_NodeKeys (rd_Node x.2.1 x.2.2)) fun r4 => some (((List.length r4 : Nat) : Int) == (0 : Int)) else some false) fun u3 => some u3) fun u2 => bif u2 then some false else L_spec_l6Node_5 (fun x10 => some x10) (fun x11 => some true) (x.2.2, (0 : Int), x.1, x.2.1, (rd_Node x.2.1 x.2.2)) else none else none
def f195Q : List QF := [q230, q237, q244]
def f195e8_0 (t : Qz123) : St := ⟨.dead :: vI t.1 :: .box 2 0 :: dd 2 (.box 5 0 :: vI t.2.1 :: vI t.2.2.1 :: dd 70 []), [(2, .box [v_i64 t.2.2.2.1, v_Node t.2.2.2.2.1]), (5, .box [v_s_Key t.2.2.2.2.2])]⟩
def f195g8 : Gk T_spec_l6Node_8 := fun κ => S_spec_l6Node_8 (fun t => κ none ⟨.dead :: vI t.1 :: .box 2 0 :: .dead :: vB t.2.1 :: .box 5 0 :: vI t.2.2.1 :: dd 71 [], [(2, .box [v_i64 t.2.2.2.1, v_Node t.2.2.2.2.1]), (5, .box [v_s_Key t.2.2.2.2.2])]⟩) (fun t => κ (some 2) ⟨.dead :: vI t.1 :: .box 2 0 :: dd 2 (.box 5 0 :: vI t.2.1 :: dd 71 []), [(2, .box [v_i64 t.2.2.1, v_Node t.2.2.2.1]), (5, .box [v_s_Key t.2.2.2.2])]⟩)
def f195e5_0 (t : Qz125) : St := ⟨.dead :: vI t.1 :: .box 2 0 :: dd 2 (.box 5 0 :: vI t.2.1 :: dd 71 []), [(2, .box [v_i64 t.2.2.1, v_Node t.2.2.2.1]), (5, .box [v_s_Key t.2.2.2.2])]⟩
def f195g5 : Gk T_spec_l6Node_5 := fun κ => S_spec_l6Node_5 (fun t => κ none ⟨dd 4 (vB t :: dd 73 []), []⟩) (fun t => κ (some 0) ⟨dd 78 [], []⟩)
def f195P : Lp := lpC 5 (unG qz125 f195e5_0) @f195g5 (lpC 8 (unG qz123 f195e8_0) @f195g8 lpN)
theorem f195C8 : LF f195Q f195P 195 8 Tryz.f195 1 f195e8_0 @f195g8 fun t => t := fun R κ again t => by kernel_rfl
theorem f195k8 : LK f195Q f195P 195 Tryz.f195 1 := lkN (u := (unG qz123 f195e8_0)) (unG_ok fun t => by kernel_rfl) f195C8
theorem f195C5 : LF f195Q f195P 195 5 Tryz.f195 0 f195e5_0 @f195g5 fun t => t := fun R κ again t => by kernel_rfl
theorem f195k5 : LK f195Q f195P 195 Tryz.f195 0 := lkN (u := (unG qz125 f195e5_0)) (unG_ok fun t => by kernel_rfl) f195C5
theorem ev195 : EV f195Q f195P 195 Tryz.f195 sg195 qz41 [.bool] F_spec_l6Node := fun x => by kernel_rfl
def q195 : QF := ⟨195, F_spec_l6Node, okN (n := 2) Tryz.func195 ⟨f195k5, f195k8, trivial⟩ ev195⟩
abbrev T_spec_TreeOk_4 : Type := Qz42
def S_spec_TreeOk_4 (k0 : Qz126 → Option R) (k1 : Qz99 → Option R) (again : T_spec_TreeOk_4 → Option R) (t4 : T_spec_TreeOk_4) : Option R :=
 bif (decide (t4.1 < ((List.length t4.2.2 : Nat) : Int))) then Option.bind (bif (decide (t4.1 > (0 : Int))) then if (0 : Int) ≤ (Go.IntKind.wrap .i64 (t4.1 - (1 : Int))) then if (Go.IntKind.wrap .i64 (t4.1 - (1 : Int))) < ((List.length t4.2.1 : Nat) : Int) then if (0 : Int) ≤ t4.1 then if t4.1 < ((List.length t4.2.1 : Nat) : Int) then some (decide ((rd_i64 t4.2.1 (Go.IntKind.wrap .i64 (t4.1 - (1 : Int)))) ≥ (rd_i64 t4.2.1 t4.1))) else none else none else none else none else some false) fun u4 => Option.bind (bif u4 then some true else Option.bind (F_spec_l6Node (t4.2.1, t4.2.2, t4.1)) fun r6 => some (!r6)) fun u5 => bif u5 then k0 (false, t4.2.1, t4.2.2) else again ((Go.IntKind.wrap .i64 (t4.1 + (1 : Int))), t4.2.1, t4.2.2) else k1 (t4.2.1, t4.2.2)
def L_spec_TreeOk_4 k0 k1 := iter (@S_spec_TreeOk_4 R k0 k1) FUEL
def F_spec_TreeOk (x : Qz99) : Option Bool :=
 Option.bind (F_spec_l1In (((List.length x.2 : Nat) : Int), (1 : Int), (20 : Int))) fun r1 => Option.bind (bif (!r1) then some true else some (((List.length x.1 : Nat) : Int) != ((List.length x.2 : Nat) : Int))) fun u2 => Option.bind (bif u2 then some true else if (0 : Int) ≤ (0 : Int) then if (0 : Int) < ((List.length x.1 : Nat) : Int) then some ((rd_i64 x.1 (0 : Int)) != (0 : Int)) else none else none) fun u3 => bif u3 then some false else L_spec_TreeOk_4 (fun x7 => some x7.1) (fun x8 => Option.bind (F_spec_TreeKeys (x8.1, x8.2)) fun r9 => some (decide (((List.length r9 : Nat) : Int) ≤ (60 : Int)))) ((0 : Int), x.1, x.2)
def f120Q : List QF := [q107, q188, q195]
def f120e4_0 (t : Qz42) : St := ⟨.dead :: .box 1 0 :: .dead :: vI t.1 :: dd 54 [], [(1, .box [v_i64 t.2.1, v_Node t.2.2])]⟩
def f120g4 : Gk T_spec_TreeOk_4 := fun κ => S_spec_TreeOk_4 (fun t => κ none ⟨.dead :: .box 1 0 :: vB t.1 :: dd 55 [], [(1, .box [v_i64 t.2.1, v_Node t.2.2])]⟩) (fun t => κ (some 0) ⟨.dead :: .box 1 0 :: dd 56 [], [(1, .box [v_i64 t.1, v_Node t.2])]⟩)
def f120P : Lp := lpC 4 (unG qz42 f120e4_0) @f120g4 lpN
theorem f120C4 : LF f120Q f120P 120 4 Tryz.f120 0 f120e4_0 @f120g4 fun t => t := fun R κ again t => by kernel_rfl
theorem f120k4 : LK f120Q f120P 120 Tryz.f120 0 := lkN (u := (unG qz42 f120e4_0)) (unG_ok fun t => by kernel_rfl) f120C4
theorem ev120 : EV f120Q f120P 120 Tryz.f120 sg120 qz99 [.bool] F_spec_TreeOk := fun x => by kernel_rfl
def q120 : QF := ⟨120, F_spec_TreeOk, okN (n := 1) Tryz.func120 ⟨f120k4, trivial⟩ ev120⟩
abbrev T_spec_AgeAt_2 : Type := Qz73
def S_spec_AgeAt_2 (k0 : Int → Option R) (k1 : Unit → Option R) (again : T_spec_AgeAt_2 → Option R) (t2 : T_spec_AgeAt_2) : Option R :=
 bif (decide (t2.2.2 < ((List.length t2.1 : Nat) : Int))) then if (0 : Int) ≤ t2.2.2 then if t2.2.2 < ((List.length t2.1 : Nat) : Int) then bif ((rd_Age t2.1 t2.2.2).1 == t2.2.1) then k0 t2.2.2 else again (t2.1, t2.2.1, (Go.IntKind.wrap .i64 (t2.2.2 + (1 : Int)))) else none else none else k1 ()
def L_spec_AgeAt_2 k0 k1 := iter (@S_spec_AgeAt_2 R k0 k1) FUEL
def F_spec_AgeAt (x : Qz45) : Option Int :=
 L_spec_AgeAt_2 (fun x1 => some x1) (fun x2 => some (-1 : Int)) (x.1, x.2, (0 : Int))
def f196Q : List QF := []
def f196e2_0 (t : Qz73) : St := ⟨v_Age t.1 :: vI t.2.1 :: dd 3 (vI t.2.2 :: dd 14 []), []⟩
def f196g2 : Gk T_spec_AgeAt_2 := fun κ => S_spec_AgeAt_2 (fun t => κ none ⟨dd 4 (vI t :: dd 15 []), []⟩) (fun t => κ (some 0) ⟨dd 20 [], []⟩)
def f196P : Lp := lpC 2 (unG qz73 f196e2_0) @f196g2 lpN
theorem f196C2 : LF f196Q f196P 196 2 Tryz.f196 0 f196e2_0 @f196g2 fun t => t := fun R κ again t => by kernel_rfl
theorem f196k2 : LK f196Q f196P 196 Tryz.f196 0 := lkN (u := (unG qz73 f196e2_0)) (unG_ok fun t => by kernel_rfl) f196C2
theorem ev196 : EV f196Q f196P 196 Tryz.f196 sg196 qz45 [(.int .i64)] F_spec_AgeAt := fun x => by kernel_rfl
def q196 : QF := ⟨196, F_spec_AgeAt, okN (n := 1) Tryz.func196 ⟨f196k2, trivial⟩ ev196⟩
abbrev T_spec_AgesOk_2 : Type := Qz45
def S_spec_AgesOk_2 (k0 : Qz127 → Option R) (k1 : List E_Age → Option R) (again : T_spec_AgesOk_2 → Option R) (t2 : T_spec_AgesOk_2) : Option R :=
 bif (decide (t2.2 < ((List.length t2.1 : Nat) : Int))) then if (0 : Int) ≤ t2.2 then if t2.2 < ((List.length t2.1 : Nat) : Int) then Option.bind (F_spec_l1In ((rd_Age t2.1 t2.2).1, (1 : Int), (60 : Int))) fun r1 => Option.bind (bif (!r1) then some true else Option.bind (bif (decide (t2.2 > (0 : Int))) then if (0 : Int) ≤ (Go.IntKind.wrap .i64 (t2.2 - (1 : Int))) then if (Go.IntKind.wrap .i64 (t2.2 - (1 : Int))) < ((List.length t2.1 : Nat) : Int) then if (0 : Int) ≤ t2.2 then if t2.2 < ((List.length t2.1 : Nat) : Int) then some (decide ((rd_Age t2.1 (Go.IntKind.wrap .i64 (t2.2 - (1 : Int)))).1 ≥ (rd_Age t2.1 t2.2).1)) else none else none else none else none else some false) fun u3 => some u3) fun u2 => bif u2 then k0 (t2.1, false) else if (0 : Int) ≤ t2.2 then if t2.2 < ((List.length t2.1 : Nat) : Int) then Option.bind (bif ((rd_Age t2.1 t2.2).2 != (0 : Int)) then if (0 : Int) ≤ (0 : Int) then if (0 : Int) ≤ t2.2 then if t2.2 ≤ ((List.length t2.1 : Nat) : Int) then if (0 : Int) ≤ t2.2 then if t2.2 < ((List.length t2.1 : Nat) : Int) then Option.bind (F_spec_AgeAt ((List.drop (Int.toNat (0 : Int)) (List.take (Int.toNat t2.2) t2.1)), (rd_Age t2.1 t2.2).2)) fun r5 => some (decide (r5 < (0 : Int))) else none else none else none else none else none else some false) fun u4 => bif u4 then k0 (t2.1, false) else again (t2.1, (Go.IntKind.wrap .i64 (t2.2 + (1 : Int)))) else none else none else none else none else k1 t2.1
def L_spec_AgesOk_2 k0 k1 := iter (@S_spec_AgesOk_2 R k0 k1) FUEL
def F_spec_AgesOk (x : List E_Age) : Option Bool :=
 L_spec_AgesOk_2 (fun x6 => some x6.2) (fun x7 => some (decide (((List.length x7 : Nat) : Int) ≤ (16 : Int)))) (x, (0 : Int))
def f121Q : List QF := [q107, q196]
def f121e2_0 (t : Qz45) : St := ⟨v_Age t.1 :: dd 2 (vI t.2 :: dd 52 []), []⟩
def f121g2 : Gk T_spec_AgesOk_2 := fun κ => S_spec_AgesOk_2 (fun t => κ none ⟨v_Age t.1 :: .dead :: vB t.2 :: dd 53 [], []⟩) (fun t => κ (some 0) ⟨v_Age t :: dd 55 [], []⟩)
def f121P : Lp := lpC 2 (unG qz45 f121e2_0) @f121g2 lpN
theorem f121C2 : LF f121Q f121P 121 2 Tryz.f121 0 f121e2_0 @f121g2 fun t => t := fun R κ again t => by kernel_rfl
theorem f121k2 : LK f121Q f121P 121 Tryz.f121 0 := lkN (u := (unG qz45 f121e2_0)) (unG_ok fun t => by kernel_rfl) f121C2
theorem ev121 : EV f121Q f121P 121 Tryz.f121 sg121 [(.sl 89 ts_Age)] [.bool] F_spec_AgesOk := fun x => by kernel_rfl
def q121 : QF := ⟨121, F_spec_AgesOk, okN (n := 1) Tryz.func121 ⟨f121k2, trivial⟩ ev121⟩
def F_spec_l1Word (x : Int) : Option Bool :=
 Option.bind (F_spec_l1In (x, (0 : Int), (65535 : Int))) fun r1 => some r1
theorem ev197 : EV [q107] lpN 197 Tryz.f197 sg197 [(.int .i64)] [.bool] F_spec_l1Word := fun x => by kernel_rfl
def q197 : QF := ⟨197, F_spec_l1Word, okN (n := 0) Tryz.func197 trivial ev197⟩
abbrev T_spec_CellsOk_2 : Type := Qz48
def S_spec_CellsOk_2 (k0 : Qz128 → Option R) (k1 : List E_Cell → Option R) (again : T_spec_CellsOk_2 → Option R) (t2 : T_spec_CellsOk_2) : Option R :=
 bif (decide (t2.2 < ((List.length t2.1 : Nat) : Int))) then if (0 : Int) ≤ t2.2 then if t2.2 < ((List.length t2.1 : Nat) : Int) then Option.bind (F_spec_l1In ((rd_Cell t2.1 t2.2).1, (0 : Int), (999 : Int))) fun r1 => Option.bind (bif (!r1) then some true else if (0 : Int) ≤ t2.2 then if t2.2 < ((List.length t2.1 : Nat) : Int) then Option.bind (F_spec_l1Word ((rd_Cell t2.1 t2.2).2.2)) fun r3 => some (!r3) else none else none) fun u2 => Option.bind (bif u2 then some true else if (0 : Int) ≤ t2.2 then if t2.2 < ((List.length t2.1 : Nat) : Int) then Option.bind (bif (!((rd_Cell t2.1 t2.2).2.1)) then if (0 : Int) ≤ t2.2 then if t2.2 < ((List.length t2.1 : Nat) : Int) then some ((rd_Cell t2.1 t2.2).2.2 != (0 : Int)) else none else none else some false) fun u5 => some u5 else none else none) fun u4 => bif u4 then k0 (t2.1, false) else again (t2.1, (Go.IntKind.wrap .i64 (t2.2 + (1 : Int)))) else none else none else k1 t2.1
def L_spec_CellsOk_2 k0 k1 := iter (@S_spec_CellsOk_2 R k0 k1) FUEL
def F_spec_CellsOk (x : List E_Cell) : Option Bool :=
 L_spec_CellsOk_2 (fun x6 => some x6.2) (fun x7 => some (((List.length x7 : Nat) : Int) == (24 : Int))) (x, (0 : Int))
def f122Q : List QF := [q107, q197]
def f122e2_0 (t : Qz48) : St := ⟨v_Cell t.1 :: dd 2 (vI t.2 :: dd 41 []), []⟩
def f122g2 : Gk T_spec_CellsOk_2 := fun κ => S_spec_CellsOk_2 (fun t => κ none ⟨v_Cell t.1 :: .dead :: vB t.2 :: dd 42 [], []⟩) (fun t => κ (some 0) ⟨v_Cell t :: dd 44 [], []⟩)
def f122P : Lp := lpC 2 (unG qz48 f122e2_0) @f122g2 lpN
theorem f122C2 : LF f122Q f122P 122 2 Tryz.f122 0 f122e2_0 @f122g2 fun t => t := fun R κ again t => by kernel_rfl
theorem f122k2 : LK f122Q f122P 122 Tryz.f122 0 := lkN (u := (unG qz48 f122e2_0)) (unG_ok fun t => by kernel_rfl) f122C2
theorem ev122 : EV f122Q f122P 122 Tryz.f122 sg122 [(.sl 95 ts_Cell)] [.bool] F_spec_CellsOk := fun x => by kernel_rfl
def q122 : QF := ⟨122, F_spec_CellsOk, okN (n := 1) Tryz.func122 ⟨f122k2, trivial⟩ ev122⟩
abbrev T_spec_NameOk_2 : Type := Qz129
def S_spec_NameOk_2 (k0 : Qz130 → Option R) (k1 : ByteArray → Option R) (again : T_spec_NameOk_2 → Option R) (t2 : T_spec_NameOk_2) : Option R :=
 bif (decide (t2.2 < ((ByteArray.size t2.1 : Nat) : Int))) then if (0 : Int) ≤ t2.2 then if h1 : Int.toNat t2.2 < ByteArray.size t2.1 then Option.bind (F_spec_l1In ((Go.IntKind.wrap .i64 ((UInt8.toNat (ByteArray.get t2.1 (Int.toNat t2.2) h1) : Nat) : Int)), (97 : Int), (122 : Int))) fun r2 => Option.bind (bif (!r2) then if (0 : Int) ≤ t2.2 then if h4 : Int.toNat t2.2 < ByteArray.size t2.1 then Option.bind (F_spec_l1In ((Go.IntKind.wrap .i64 ((UInt8.toNat (ByteArray.get t2.1 (Int.toNat t2.2) h4) : Nat) : Int)), (48 : Int), (57 : Int))) fun r5 => some (!r5) else none else none else some false) fun u3 => bif u3 then k0 (t2.1, false) else again (t2.1, (Go.IntKind.wrap .i64 (t2.2 + (1 : Int)))) else none else none else k1 t2.1
def L_spec_NameOk_2 k0 k1 := iter (@S_spec_NameOk_2 R k0 k1) FUEL
def F_spec_NameOk (x : ByteArray) : Option Bool :=
 L_spec_NameOk_2 (fun x6 => some x6.2) (fun x7 => Option.bind (F_spec_l1In (((ByteArray.size x7 : Nat) : Int), (1 : Int), (6 : Int))) fun r8 => some r8) (x, (0 : Int))
def f198Q : List QF := [q107]
def f198e2_0 (t : Qz129) : St := ⟨vS t.1 :: dd 2 (vI t.2 :: dd 23 []), []⟩
def f198g2 : Gk T_spec_NameOk_2 := fun κ => S_spec_NameOk_2 (fun t => κ none ⟨vS t.1 :: .dead :: vB t.2 :: dd 24 [], []⟩) (fun t => κ (some 0) ⟨vS t :: dd 26 [], []⟩)
def f198P : Lp := lpC 2 (unG qz129 f198e2_0) @f198g2 lpN
theorem f198C2 : LF f198Q f198P 198 2 Tryz.f198 0 f198e2_0 @f198g2 fun t => t := fun R κ again t => by kernel_rfl
theorem f198k2 : LK f198Q f198P 198 Tryz.f198 0 := lkN (u := (unG qz129 f198e2_0)) (unG_ok fun t => by kernel_rfl) f198C2
theorem ev198 : EV f198Q f198P 198 Tryz.f198 sg198 [.str] [.bool] F_spec_NameOk := fun x => by kernel_rfl
def q198 : QF := ⟨198, F_spec_NameOk, okN (n := 1) Tryz.func198 ⟨f198k2, trivial⟩ ev198⟩
abbrev T_spec_KidsOf_3 : Type := Qz131
def S_spec_KidsOf_3 (k0 : List E_i64 → Option R) (again : T_spec_KidsOf_3 → Option R) (t3 : T_spec_KidsOf_3) : Option R :=
 bif (decide (t3.2.2.1 < ((List.length t3.1 : Nat) : Int))) then if (0 : Int) ≤ t3.2.2.1 then if t3.2.2.1 < ((List.length t3.1 : Nat) : Int) then Option.bind (bif ((rd_Age t3.1 t3.2.2.1).2 == t3.2.1) then some (t3.2.1 != (0 : Int)) else some false) fun u1 => bif u1 then if (0 : Int) ≤ t3.2.2.1 then if t3.2.2.1 < ((List.length t3.1 : Nat) : Int) then if (List.length t3.2.2.2 + List.length ([(rd_Age t3.1 t3.2.2.1).1] : List E_i64)) * 8 < 140737488355328 then again (t3.1, t3.2.1, (Go.IntKind.wrap .i64 (t3.2.2.1 + (1 : Int))), (t3.2.2.2 ++ ([(rd_Age t3.1 t3.2.2.1).1] : List E_i64))) else none else none else none else again (t3.1, t3.2.1, (Go.IntKind.wrap .i64 (t3.2.2.1 + (1 : Int))), t3.2.2.2) else none else none else k0 t3.2.2.2
def L_spec_KidsOf_3 k0 := iter (@S_spec_KidsOf_3 R k0) FUEL
def F_spec_KidsOf (x : Qz45) : Option (List E_i64) :=
 L_spec_KidsOf_3 (fun x2 => some x2) (x.1, x.2, (0 : Int), ([] : List E_i64))
def f199Q : List QF := []
def f199e3_0 (t : Qz131) : St := ⟨v_Age t.1 :: vI t.2.1 :: dd 3 (.own 10000000 :: vI t.2.2.1 :: dd 27 []), [(10000000, .root true 3 ts_i64 t.2.2.2)]⟩
def f199g3 : Gk T_spec_KidsOf_3 := fun κ => S_spec_KidsOf_3 (fun t => κ (some 0) ⟨dd 5 (.own 10000000 :: dd 28 []), [(10000000, .root true 3 ts_i64 t)]⟩)
def f199P : Lp := lpC 3 (unG qz131 f199e3_0) @f199g3 lpN
theorem f199C3 : LF f199Q f199P 199 3 Tryz.f199 0 f199e3_0 @f199g3 fun t => t := fun R κ again t => by kernel_rfl
theorem f199k3 : LK f199Q f199P 199 Tryz.f199 0 := lkN (u := (unG qz131 f199e3_0)) (unG_ok fun t => by kernel_rfl) f199C3
theorem ev199 : EV f199Q f199P 199 Tryz.f199 sg199 qz45 [(.sl 3 ts_i64)] F_spec_KidsOf := fun x => by kernel_rfl
def q199 : QF := ⟨199, F_spec_KidsOf, okN (n := 1) Tryz.func199 ⟨f199k3, trivial⟩ ev199⟩
abbrev T_spec_l10Vols_8 : Type := Qz132
def S_spec_l10Vols_8 (k0 : Qz133 → Option R) (k1 : Qz134 → Option R) (again : T_spec_l10Vols_8 → Option R) (t8 : T_spec_l10Vols_8) : Option R :=
 bif (decide (t8.2.1 < t8.1)) then if (0 : Int) ≤ t8.2.1 then if t8.2.1 < ((List.length t8.2.2.2.2.2.2.1 : Nat) : Int) then bif ((rd_Vol t8.2.2.2.2.2.2.1 t8.2.1).2.1 == t8.2.2.2.2.2.2.2.2.2.1) then k0 (false, t8.1, t8.2.2.1, t8.2.2.2.1, t8.2.2.2.2.1, t8.2.2.2.2.2.1, t8.2.2.2.2.2.2.1, t8.2.2.2.2.2.2.2.1) else again (t8.1, (Go.IntKind.wrap .i64 (t8.2.1 + (1 : Int))), t8.2.2.1, t8.2.2.2.1, t8.2.2.2.2.1, t8.2.2.2.2.2.1, t8.2.2.2.2.2.2.1, t8.2.2.2.2.2.2.2.1, t8.2.2.2.2.2.2.2.2.1, t8.2.2.2.2.2.2.2.2.2.1, t8.2.2.2.2.2.2.2.2.2.2.1, t8.2.2.2.2.2.2.2.2.2.2.2) else none else none else k1 (t8.1, t8.2.2.1, t8.2.2.2.1, t8.2.2.2.2.1, t8.2.2.2.2.2.1, t8.2.2.2.2.2.2.1, t8.2.2.2.2.2.2.2.1)
def L_spec_l10Vols_8 k0 k1 := iter (@S_spec_l10Vols_8 R k0 k1) FUEL
abbrev T_spec_l10Vols_2 : Type := Qz134
def S_spec_l10Vols_2 (k0 : Qz135 → Option R) (k1 : Qz100 → Option R) (again : T_spec_l10Vols_2 → Option R) (t2 : T_spec_l10Vols_2) : Option R :=
 bif (decide (t2.1 < ((List.length t2.2.2.2.2.2.1 : Nat) : Int))) then if (0 : Int) ≤ t2.1 then if t2.1 < ((List.length t2.2.2.2.2.2.1 : Nat) : Int) then Option.bind (F_spec_NameOk ((rd_Vol t2.2.2.2.2.2.1 t2.1).1)) fun r1 => Option.bind (bif (!r1) then some true else Option.bind (F_spec_l1In ((rd_Vol t2.2.2.2.2.2.1 t2.1).2.2.1, (1 : Int), (12 : Int))) fun r3 => some (!r3)) fun u2 => Option.bind (bif u2 then some true else Option.bind (F_spec_AgeAt (t2.2.2.2.1, (rd_Vol t2.2.2.2.2.2.1 t2.1).2.1)) fun r5 => some (decide (r5 < (0 : Int)))) fun u4 => Option.bind (bif u4 then some true else Option.bind (F_spec_KidsOf (t2.2.2.2.1, (rd_Vol t2.2.2.2.2.2.1 t2.1).2.1)) fun r7 => some (decide (((List.length r7 : Nat) : Int) > (0 : Int)))) fun u6 => Option.bind (bif u6 then some true else Option.bind (bif (decide (t2.1 > (0 : Int))) then if (0 : Int) ≤ (Go.IntKind.wrap .i64 (t2.1 - (1 : Int))) then if (Go.IntKind.wrap .i64 (t2.1 - (1 : Int))) < ((List.length t2.2.2.2.2.2.1 : Nat) : Int) then some (!Go.Op.bytesLess (ByteArray.toList ((rd_Vol t2.2.2.2.2.2.1 (Go.IntKind.wrap .i64 (t2.1 - (1 : Int)))).1)) (ByteArray.toList ((rd_Vol t2.2.2.2.2.2.1 t2.1).1))) else none else none else some false) fun u9 => some u9) fun u8 => bif u8 then k0 (false, t2.2.1, t2.2.2.1, t2.2.2.2.1, t2.2.2.2.2.1, t2.2.2.2.2.2.1, t2.2.2.2.2.2.2) else L_spec_l10Vols_8 (fun x10 => k0 (x10.1, x10.2.2.1, x10.2.2.2.1, x10.2.2.2.2.1, x10.2.2.2.2.2.1, x10.2.2.2.2.2.2.1, x10.2.2.2.2.2.2.2)) (fun x11 => again ((Go.IntKind.wrap .i64 (x11.1 + (1 : Int))), x11.2.1, x11.2.2.1, x11.2.2.2.1, x11.2.2.2.2.1, x11.2.2.2.2.2.1, x11.2.2.2.2.2.2)) (t2.1, (0 : Int), t2.2.1, t2.2.2.1, t2.2.2.2.1, t2.2.2.2.2.1, t2.2.2.2.2.2.1, t2.2.2.2.2.2.2, (rd_Vol t2.2.2.2.2.2.1 t2.1).1, (rd_Vol t2.2.2.2.2.2.1 t2.1).2.1, (rd_Vol t2.2.2.2.2.2.1 t2.1).2.2.1, (rd_Vol t2.2.2.2.2.2.1 t2.1).2.2.2) else none else none else k1 (t2.2.1, t2.2.2.1, t2.2.2.2.1, t2.2.2.2.2.1, t2.2.2.2.2.2.1, t2.2.2.2.2.2.2)
def L_spec_l10Vols_2 k0 k1 := iter (@S_spec_l10Vols_2 R k0 k1) FUEL
def F_spec_l10Vols (x : Qz100) : Option Bool :=
 L_spec_l10Vols_2 (fun x12 => some x12.1) (fun x13 => some (decide (((List.length x13.2.2.2.2.1 : Nat) : Int) ≤ (6 : Int)))) ((0 : Int), x.1, x.2.1, x.2.2.1, x.2.2.2.1, x.2.2.2.2.1, x.2.2.2.2.2)
def f123Q : List QF := [q107, q196, q198, q199]
def f123e8_0 (t : Qz132) : St := ⟨.dead :: .box 1 0 :: .dead :: vI t.1 :: .box 4 0 :: vI t.2.1 :: dd 73 [], [(1, .box [v_i64 t.2.2.1, v_Node t.2.2.2.1, v_Age t.2.2.2.2.1, v_Cell t.2.2.2.2.2.1, v_Vol t.2.2.2.2.2.2.1, vI t.2.2.2.2.2.2.2.1]), (4, .box [vS t.2.2.2.2.2.2.2.2.1, vI t.2.2.2.2.2.2.2.2.2.1, vI t.2.2.2.2.2.2.2.2.2.2.1, vB t.2.2.2.2.2.2.2.2.2.2.2])]⟩
def f123g8 : Gk T_spec_l10Vols_8 := fun κ => S_spec_l10Vols_8 (fun t => κ none ⟨.dead :: .box 1 0 :: vB t.1 :: vI t.2.1 :: dd 75 [], [(1, .box [v_i64 t.2.2.1, v_Node t.2.2.2.1, v_Age t.2.2.2.2.1, v_Cell t.2.2.2.2.2.1, v_Vol t.2.2.2.2.2.2.1, vI t.2.2.2.2.2.2.2])]⟩) (fun t => κ (some 2) ⟨.dead :: .box 1 0 :: .dead :: vI t.1 :: dd 75 [], [(1, .box [v_i64 t.2.1, v_Node t.2.2.1, v_Age t.2.2.2.1, v_Cell t.2.2.2.2.1, v_Vol t.2.2.2.2.2.1, vI t.2.2.2.2.2.2])]⟩)
def f123e2_0 (t : Qz134) : St := ⟨.dead :: .box 1 0 :: .dead :: vI t.1 :: dd 75 [], [(1, .box [v_i64 t.2.1, v_Node t.2.2.1, v_Age t.2.2.2.1, v_Cell t.2.2.2.2.1, v_Vol t.2.2.2.2.2.1, vI t.2.2.2.2.2.2])]⟩
def f123g2 : Gk T_spec_l10Vols_2 := fun κ => S_spec_l10Vols_2 (fun t => κ none ⟨.dead :: .box 1 0 :: vB t.1 :: dd 76 [], [(1, .box [v_i64 t.2.1, v_Node t.2.2.1, v_Age t.2.2.2.1, v_Cell t.2.2.2.2.1, v_Vol t.2.2.2.2.2.1, vI t.2.2.2.2.2.2])]⟩) (fun t => κ (some 0) ⟨.dead :: .box 1 0 :: dd 77 [], [(1, .box [v_i64 t.1, v_Node t.2.1, v_Age t.2.2.1, v_Cell t.2.2.2.1, v_Vol t.2.2.2.2.1, vI t.2.2.2.2.2])]⟩)
def f123P : Lp := lpC 2 (unG qz134 f123e2_0) @f123g2 (lpC 8 (unG qz132 f123e8_0) @f123g8 lpN)
theorem f123C8 : LF f123Q f123P 123 8 Tryz.f123 1 f123e8_0 @f123g8 fun t => t := fun R κ again t => by kernel_rfl
theorem f123k8 : LK f123Q f123P 123 Tryz.f123 1 := lkN (u := (unG qz132 f123e8_0)) (unG_ok fun t => by kernel_rfl) f123C8
theorem f123C2 : LF f123Q f123P 123 2 Tryz.f123 0 f123e2_0 @f123g2 fun t => t := fun R κ again t => by kernel_rfl
theorem f123k2 : LK f123Q f123P 123 Tryz.f123 0 := lkN (u := (unG qz134 f123e2_0)) (unG_ok fun t => by kernel_rfl) f123C2
theorem ev123 : EV f123Q f123P 123 Tryz.f123 sg123 qz100 [.bool] F_spec_l10Vols := fun x => by kernel_rfl
def q123 : QF := ⟨123, F_spec_l10Vols, okN (n := 2) Tryz.func123 ⟨f123k2, f123k8, trivial⟩ ev123⟩
def F_spec_CellAt (x : Qz74) : Option Qz136 :=
 Option.bind (F_spec_l1In (x.2.1, (0 : Int), (Go.IntKind.wrap .i64 (((List.length x.1 : Nat) : Int) - (1 : Int))))) fun r1 => Option.bind (bif (!r1) then some true else if (0 : Int) ≤ x.2.1 then if x.2.1 < ((List.length x.1 : Nat) : Int) then some (!((rd_Cell x.1 x.2.1).2.1)) else none else none) fun u2 => Option.bind (bif u2 then some true else if (0 : Int) ≤ x.2.1 then if x.2.1 < ((List.length x.1 : Nat) : Int) then some ((rd_Cell x.1 x.2.1).1 != x.2.2) else none else none) fun u3 => bif u3 then some ((0 : Int), false) else if (0 : Int) ≤ x.2.1 then if x.2.1 < ((List.length x.1 : Nat) : Int) then some ((rd_Cell x.1 x.2.1).2.2, true) else none else none
theorem ev200 : EV [q107] lpN 200 Tryz.f200 sg200 qz74 qz136 F_spec_CellAt := fun x => by kernel_rfl
def q200 : QF := ⟨200, F_spec_CellAt, okN (n := 0) Tryz.func200 trivial ev200⟩
abbrev T_spec_UsedCells_3 : Type := Qz74
def S_spec_UsedCells_3 (k0 : Int → Option R) (again : T_spec_UsedCells_3 → Option R) (t3 : T_spec_UsedCells_3) : Option R :=
 bif (decide (t3.2.2 < ((List.length t3.1 : Nat) : Int))) then if (0 : Int) ≤ t3.2.2 then if t3.2.2 < ((List.length t3.1 : Nat) : Int) then bif (rd_Cell t3.1 t3.2.2).2.1 then again (t3.1, (Go.IntKind.wrap .i64 (t3.2.1 + (1 : Int))), (Go.IntKind.wrap .i64 (t3.2.2 + (1 : Int)))) else again (t3.1, t3.2.1, (Go.IntKind.wrap .i64 (t3.2.2 + (1 : Int)))) else none else none else k0 t3.2.1
def L_spec_UsedCells_3 k0 := iter (@S_spec_UsedCells_3 R k0) FUEL
def F_spec_UsedCells (x : List E_Cell) : Option Int :=
 L_spec_UsedCells_3 (fun x1 => some x1) (x, (0 : Int), (0 : Int))
def f201Q : List QF := []
def f201e3_0 (t : Qz74) : St := ⟨v_Cell t.1 :: dd 2 (vI t.2.1 :: vI t.2.2 :: dd 14 []), []⟩
def f201g3 : Gk T_spec_UsedCells_3 := fun κ => S_spec_UsedCells_3 (fun t => κ (some 0) ⟨dd 3 (vI t :: dd 15 []), []⟩)
def f201P : Lp := lpC 3 (unG qz74 f201e3_0) @f201g3 lpN
theorem f201C3 : LF f201Q f201P 201 3 Tryz.f201 0 f201e3_0 @f201g3 fun t => t := fun R κ again t => by kernel_rfl
theorem f201k3 : LK f201Q f201P 201 Tryz.f201 0 := lkN (u := (unG qz74 f201e3_0)) (unG_ok fun t => by kernel_rfl) f201C3
theorem ev201 : EV f201Q f201P 201 Tryz.f201 sg201 [(.sl 95 ts_Cell)] [(.int .i64)] F_spec_UsedCells := fun x => by kernel_rfl
def q201 : QF := ⟨201, F_spec_UsedCells, okN (n := 1) Tryz.func201 ⟨f201k3, trivial⟩ ev201⟩
abbrev T_spec_l10Keys_14 : Type := Qz137
def S_spec_l10Keys_14 (k0 : Qz138 → Option R) (k1 : Qz139 → Option R) (again : T_spec_l10Keys_14 → Option R) (t14 : T_spec_l10Keys_14) : Option R :=
 bif (decide (t14.2.2.1 < t14.2.1)) then if (0 : Int) ≤ t14.2.2.1 then if t14.2.2.1 < ((List.length t14.2.2.2.2.2.2.2.2.2 : Nat) : Int) then Option.bind (bif ((rd_Key t14.2.2.2.2.2.2.2.2.2 t14.2.2.1).2.2.1 == (1 : Int)) then if (0 : Int) ≤ t14.2.2.1 then if t14.2.2.1 < ((List.length t14.2.2.2.2.2.2.2.2.2 : Nat) : Int) then if (0 : Int) ≤ t14.2.1 then if t14.2.1 < ((List.length t14.2.2.2.2.2.2.2.2.2 : Nat) : Int) then some ((rd_Key t14.2.2.2.2.2.2.2.2.2 t14.2.2.1).2.2.2.1 == (rd_Key t14.2.2.2.2.2.2.2.2.2 t14.2.1).2.2.2.1) else none else none else none else none else some false) fun u4 => bif u4 then k0 (false, t14.1, t14.2.1, t14.2.2.2.1, t14.2.2.2.2.1, t14.2.2.2.2.2.1, t14.2.2.2.2.2.2.1, t14.2.2.2.2.2.2.2.1, t14.2.2.2.2.2.2.2.2.1, t14.2.2.2.2.2.2.2.2.2) else again (t14.1, t14.2.1, (Go.IntKind.wrap .i64 (t14.2.2.1 + (1 : Int))), t14.2.2.2.1, t14.2.2.2.2.1, t14.2.2.2.2.2.1, t14.2.2.2.2.2.2.1, t14.2.2.2.2.2.2.2.1, t14.2.2.2.2.2.2.2.2.1, t14.2.2.2.2.2.2.2.2.2) else none else none else k1 (t14.1, t14.2.1, t14.2.2.2.1, t14.2.2.2.2.1, t14.2.2.2.2.2.1, t14.2.2.2.2.2.2.1, t14.2.2.2.2.2.2.2.1, t14.2.2.2.2.2.2.2.2.1, t14.2.2.2.2.2.2.2.2.2)
def L_spec_l10Keys_14 k0 k1 := iter (@S_spec_l10Keys_14 R k0 k1) FUEL
abbrev T_spec_l10Keys_4 : Type := Qz139
def S_spec_l10Keys_4 (k0 : Qz133 → Option R) (k1 : Qz134 → Option R) (again : T_spec_l10Keys_4 → Option R) (t4 : T_spec_l10Keys_4) : Option R :=
 bif (decide (t4.2.1 < ((List.length t4.2.2.2.2.2.2.2.2 : Nat) : Int))) then if (0 : Int) ≤ t4.2.1 then if t4.2.1 < ((List.length t4.2.2.2.2.2.2.2.2 : Nat) : Int) then Option.bind (F_spec_AgeAt (t4.2.2.2.2.1, (rd_Key t4.2.2.2.2.2.2.2.2 t4.2.1).2.1)) fun r2 => bif (decide (r2 < (0 : Int))) then k0 (false, t4.1, t4.2.2.1, t4.2.2.2.1, t4.2.2.2.2.1, t4.2.2.2.2.2.1, t4.2.2.2.2.2.2.1, t4.2.2.2.2.2.2.2.1) else if (0 : Int) ≤ t4.2.1 then if t4.2.1 < ((List.length t4.2.2.2.2.2.2.2.2 : Nat) : Int) then bif ((rd_Key t4.2.2.2.2.2.2.2.2 t4.2.1).2.2.1 != (1 : Int)) then again (t4.1, (Go.IntKind.wrap .i64 (t4.2.1 + (1 : Int))), t4.2.2.1, t4.2.2.2.1, t4.2.2.2.2.1, t4.2.2.2.2.2.1, t4.2.2.2.2.2.2.1, t4.2.2.2.2.2.2.2.1, t4.2.2.2.2.2.2.2.2) else if (0 : Int) ≤ t4.2.1 then if t4.2.1 < ((List.length t4.2.2.2.2.2.2.2.2 : Nat) : Int) then if (0 : Int) ≤ t4.2.1 then if t4.2.1 < ((List.length t4.2.2.2.2.2.2.2.2 : Nat) : Int) then Option.bind (F_spec_CellAt (t4.2.2.2.2.2.1, (rd_Key t4.2.2.2.2.2.2.2.2 t4.2.1).2.2.2.1, (rd_Key t4.2.2.2.2.2.2.2.2 t4.2.1).2.2.2.2)) fun r3 => bif (!r3.2) then k0 (false, (Go.IntKind.wrap .i64 (t4.1 + (1 : Int))), t4.2.2.1, t4.2.2.2.1, t4.2.2.2.2.1, t4.2.2.2.2.2.1, t4.2.2.2.2.2.2.1, t4.2.2.2.2.2.2.2.1) else L_spec_l10Keys_14 (fun x5 => k0 (x5.1, x5.2.1, x5.2.2.2.1, x5.2.2.2.2.1, x5.2.2.2.2.2.1, x5.2.2.2.2.2.2.1, x5.2.2.2.2.2.2.2.1, x5.2.2.2.2.2.2.2.2.1)) (fun x6 => again (x6.1, (Go.IntKind.wrap .i64 (x6.2.1 + (1 : Int))), x6.2.2.1, x6.2.2.2.1, x6.2.2.2.2.1, x6.2.2.2.2.2.1, x6.2.2.2.2.2.2.1, x6.2.2.2.2.2.2.2.1, x6.2.2.2.2.2.2.2.2)) ((Go.IntKind.wrap .i64 (t4.1 + (1 : Int))), t4.2.1, (0 : Int), t4.2.2.1, t4.2.2.2.1, t4.2.2.2.2.1, t4.2.2.2.2.2.1, t4.2.2.2.2.2.2.1, t4.2.2.2.2.2.2.2.1, t4.2.2.2.2.2.2.2.2) else none else none else none else none else none else none else none else none else k1 (t4.1, t4.2.2.1, t4.2.2.2.1, t4.2.2.2.2.1, t4.2.2.2.2.2.1, t4.2.2.2.2.2.2.1, t4.2.2.2.2.2.2.2.1)
def L_spec_l10Keys_4 k0 k1 := iter (@S_spec_l10Keys_4 R k0 k1) FUEL
def F_spec_l10Keys (x : Qz100) : Option Bool :=
 Option.bind (F_spec_TreeKeys (x.1, x.2.1)) fun r1 => L_spec_l10Keys_4 (fun x7 => some x7.1) (fun x8 => Option.bind (F_spec_UsedCells x8.2.2.2.2.1) fun r9 => some (x8.1 == r9)) ((0 : Int), (0 : Int), x.1, x.2.1, x.2.2.1, x.2.2.2.1, x.2.2.2.2.1, x.2.2.2.2.2, r1)
def f124Q : List QF := [q188, q196, q200, q201]
def f124e14_0 (t : Qz137) : St := ⟨.dead :: .box 1 0 :: .dead :: .own 10000000 :: vI t.1 :: vI t.2.1 :: dd 2 (vI t.2.2.1 :: dd 73 []), [(1, .box [v_i64 t.2.2.2.1, v_Node t.2.2.2.2.1, v_Age t.2.2.2.2.2.1, v_Cell t.2.2.2.2.2.2.1, v_Vol t.2.2.2.2.2.2.2.1, vI t.2.2.2.2.2.2.2.2.1]), (10000000, .root true 106 ts_Key t.2.2.2.2.2.2.2.2.2)]⟩
def f124g14 : Gk T_spec_l10Keys_14 := fun κ => S_spec_l10Keys_14 (fun t => κ none ⟨.dead :: .box 1 0 :: vB t.1 :: .own 10000000 :: vI t.2.1 :: vI t.2.2.1 :: dd 76 [], [(1, .box [v_i64 t.2.2.2.1, v_Node t.2.2.2.2.1, v_Age t.2.2.2.2.2.1, v_Cell t.2.2.2.2.2.2.1, v_Vol t.2.2.2.2.2.2.2.1, vI t.2.2.2.2.2.2.2.2.1]), (10000000, .root true 106 ts_Key t.2.2.2.2.2.2.2.2.2)]⟩) (fun t => κ (some 2) ⟨.dead :: .box 1 0 :: .dead :: .own 10000000 :: vI t.1 :: vI t.2.1 :: dd 76 [], [(1, .box [v_i64 t.2.2.1, v_Node t.2.2.2.1, v_Age t.2.2.2.2.1, v_Cell t.2.2.2.2.2.1, v_Vol t.2.2.2.2.2.2.1, vI t.2.2.2.2.2.2.2.1]), (10000000, .root true 106 ts_Key t.2.2.2.2.2.2.2.2)]⟩)
def f124e4_0 (t : Qz139) : St := ⟨.dead :: .box 1 0 :: .dead :: .own 10000000 :: vI t.1 :: vI t.2.1 :: dd 76 [], [(1, .box [v_i64 t.2.2.1, v_Node t.2.2.2.1, v_Age t.2.2.2.2.1, v_Cell t.2.2.2.2.2.1, v_Vol t.2.2.2.2.2.2.1, vI t.2.2.2.2.2.2.2.1]), (10000000, .root true 106 ts_Key t.2.2.2.2.2.2.2.2)]⟩
def f124g4 : Gk T_spec_l10Keys_4 := fun κ => S_spec_l10Keys_4 (fun t => κ none ⟨.dead :: .box 1 0 :: vB t.1 :: .dead :: vI t.2.1 :: dd 77 [], [(1, .box [v_i64 t.2.2.1, v_Node t.2.2.2.1, v_Age t.2.2.2.2.1, v_Cell t.2.2.2.2.2.1, v_Vol t.2.2.2.2.2.2.1, vI t.2.2.2.2.2.2.2])]⟩) (fun t => κ (some 0) ⟨.dead :: .box 1 0 :: dd 2 (vI t.1 :: dd 77 []), [(1, .box [v_i64 t.2.1, v_Node t.2.2.1, v_Age t.2.2.2.1, v_Cell t.2.2.2.2.1, v_Vol t.2.2.2.2.2.1, vI t.2.2.2.2.2.2])]⟩)
def f124P : Lp := lpC 4 (unG qz139 f124e4_0) @f124g4 (lpC 14 (unG qz137 f124e14_0) @f124g14 lpN)
theorem f124C14 : LF f124Q f124P 124 14 Tryz.f124 1 f124e14_0 @f124g14 fun t => t := fun R κ again t => by kernel_rfl
theorem f124k14 : LK f124Q f124P 124 Tryz.f124 1 := lkN (u := (unG qz137 f124e14_0)) (unG_ok fun t => by kernel_rfl) f124C14
theorem f124C4 : LF f124Q f124P 124 4 Tryz.f124 0 f124e4_0 @f124g4 fun t => t := fun R κ again t => by kernel_rfl
theorem f124k4 : LK f124Q f124P 124 Tryz.f124 0 := lkN (u := (unG qz139 f124e4_0)) (unG_ok fun t => by kernel_rfl) f124C4
theorem ev124 : EV f124Q f124P 124 Tryz.f124 sg124 qz100 [.bool] F_spec_l10Keys := fun x => by kernel_rfl
def q124 : QF := ⟨124, F_spec_l10Keys, okN (n := 2) Tryz.func124 ⟨f124k4, f124k14, trivial⟩ ev124⟩
abbrev T_spec_PoolOk_2 : Type := Qz134
def S_spec_PoolOk_2 (k0 : Qz135 → Option R) (k1 : Qz100 → Option R) (again : T_spec_PoolOk_2 → Option R) (t2 : T_spec_PoolOk_2) : Option R :=
 bif (decide (t2.1 < ((List.length t2.2.2.2.1 : Nat) : Int))) then if (0 : Int) ≤ t2.1 then if t2.1 < ((List.length t2.2.2.2.1 : Nat) : Int) then bif (decide ((rd_Age t2.2.2.2.1 t2.1).1 ≥ t2.2.2.2.2.2.2)) then k0 (false, t2.2.1, t2.2.2.1, t2.2.2.2.1, t2.2.2.2.2.1, t2.2.2.2.2.2.1, t2.2.2.2.2.2.2) else again ((Go.IntKind.wrap .i64 (t2.1 + (1 : Int))), t2.2.1, t2.2.2.1, t2.2.2.2.1, t2.2.2.2.2.1, t2.2.2.2.2.2.1, t2.2.2.2.2.2.2) else none else none else k1 (t2.2.1, t2.2.2.1, t2.2.2.2.1, t2.2.2.2.2.1, t2.2.2.2.2.2.1, t2.2.2.2.2.2.2)
def L_spec_PoolOk_2 k0 k1 := iter (@S_spec_PoolOk_2 R k0 k1) FUEL
def F_spec_PoolOk (x : Qz100) : Option Bool :=
 L_spec_PoolOk_2 (fun x1 => some x1.1) (fun x2 => Option.bind (F_spec_TreeOk (x2.1, x2.2.1)) fun r3 => Option.bind (bif r3 then Option.bind (F_spec_AgesOk x2.2.2.1) fun r5 => some r5 else some false) fun u4 => Option.bind (bif u4 then Option.bind (F_spec_CellsOk x2.2.2.2.1) fun r7 => some r7 else some false) fun u6 => Option.bind (bif u6 then Option.bind (F_spec_l1In (x2.2.2.2.2.2, (1 : Int), (61 : Int))) fun r9 => some r9 else some false) fun u8 => Option.bind (bif u8 then Option.bind (F_spec_l10Vols (x2.1, x2.2.1, x2.2.2.1, x2.2.2.2.1, x2.2.2.2.2.1, x2.2.2.2.2.2)) fun r11 => some r11 else some false) fun u10 => Option.bind (bif u10 then Option.bind (F_spec_l10Keys (x2.1, x2.2.1, x2.2.2.1, x2.2.2.2.1, x2.2.2.2.2.1, x2.2.2.2.2.2)) fun r13 => some r13 else some false) fun u12 => some u12) ((0 : Int), x.1, x.2.1, x.2.2.1, x.2.2.2.1, x.2.2.2.2.1, x.2.2.2.2.2)
def f47Q : List QF := [q107, q120, q121, q122, q123, q124]
def f47e2_0 (t : Qz134) : St := ⟨.dead :: .box 1 0 :: .dead :: vI t.1 :: dd 42 [], [(1, .box [v_i64 t.2.1, v_Node t.2.2.1, v_Age t.2.2.2.1, v_Cell t.2.2.2.2.1, v_Vol t.2.2.2.2.2.1, vI t.2.2.2.2.2.2])]⟩
def f47g2 : Gk T_spec_PoolOk_2 := fun κ => S_spec_PoolOk_2 (fun t => κ none ⟨.dead :: .box 1 0 :: vB t.1 :: dd 43 [], [(1, .box [v_i64 t.2.1, v_Node t.2.2.1, v_Age t.2.2.2.1, v_Cell t.2.2.2.2.1, v_Vol t.2.2.2.2.2.1, vI t.2.2.2.2.2.2])]⟩) (fun t => κ (some 0) ⟨.dead :: .box 1 0 :: dd 44 [], [(1, .box [v_i64 t.1, v_Node t.2.1, v_Age t.2.2.1, v_Cell t.2.2.2.1, v_Vol t.2.2.2.2.1, vI t.2.2.2.2.2])]⟩)
def f47P : Lp := lpC 2 (unG qz134 f47e2_0) @f47g2 lpN
theorem f47C2 : LF f47Q f47P 47 2 Tryz.f47 0 f47e2_0 @f47g2 fun t => t := fun R κ again t => by kernel_rfl
theorem f47k2 : LK f47Q f47P 47 Tryz.f47 0 := lkN (u := (unG qz134 f47e2_0)) (unG_ok fun t => by kernel_rfl) f47C2
theorem ev47 : EV f47Q f47P 47 Tryz.f47 sg47 qz100 [.bool] F_spec_PoolOk := fun x => by kernel_rfl
def q47 : QF := ⟨47, F_spec_PoolOk, okN (n := 1) Tryz.func47 ⟨f47k2, trivial⟩ ev47⟩
abbrev T_spec_DevOk_2 : Type := Qz140
def S_spec_DevOk_2 (k0 : Qz141 → Option R) (k1 : Qz111 → Option R) (again : T_spec_DevOk_2 → Option R) (t2 : T_spec_DevOk_2) : Option R :=
 bif (decide (t2.1 < ((List.length t2.2.1 : Nat) : Int))) then if (0 : Int) ≤ t2.1 then if t2.1 < ((List.length t2.2.1 : Nat) : Int) then bif (decide (((List.length (rd_s_u8 t2.2.1 t2.1) : Nat) : Int) > (80 : Int))) then k0 (false, t2.2.1, t2.2.2.1, t2.2.2.2.1, t2.2.2.2.2) else again ((Go.IntKind.wrap .i64 (t2.1 + (1 : Int))), t2.2.1, t2.2.2.1, t2.2.2.2.1, t2.2.2.2.2) else none else none else k1 (t2.2.1, t2.2.2.1, t2.2.2.2.1, t2.2.2.2.2)
def L_spec_DevOk_2 k0 k1 := iter (@S_spec_DevOk_2 R k0 k1) FUEL
abbrev T_spec_DevOk_7 : Type := Qz140
def S_spec_DevOk_7 (k0 : Qz141 → Option R) (k1 : Qz111 → Option R) (again : T_spec_DevOk_7 → Option R) (t7 : T_spec_DevOk_7) : Option R :=
 bif (decide (t7.1 < ((List.length t7.2.2.1 : Nat) : Int))) then if (0 : Int) ≤ t7.1 then if t7.1 < ((List.length t7.2.2.1 : Nat) : Int) then Option.bind (F_spec_l1In ((rd_Wr t7.2.2.1 t7.1).1, (0 : Int), (Go.IntKind.wrap .i64 (((List.length t7.2.1 : Nat) : Int) - (1 : Int))))) fun r3 => Option.bind (bif (!r3) then some true else if (0 : Int) ≤ t7.1 then if t7.1 < ((List.length t7.2.2.1 : Nat) : Int) then some (decide (((List.length ((rd_Wr t7.2.2.1 t7.1).2) : Nat) : Int) > (80 : Int))) else none else none) fun u4 => bif u4 then k0 (false, t7.2.1, t7.2.2.1, t7.2.2.2.1, t7.2.2.2.2) else again ((Go.IntKind.wrap .i64 (t7.1 + (1 : Int))), t7.2.1, t7.2.2.1, t7.2.2.2.1, t7.2.2.2.2) else none else none else k1 (t7.2.1, t7.2.2.1, t7.2.2.2.1, t7.2.2.2.2)
def L_spec_DevOk_7 k0 k1 := iter (@S_spec_DevOk_7 R k0 k1) FUEL
def F_spec_DevOk (x : Qz111) : Option Bool :=
 L_spec_DevOk_2 (fun x1 => some x1.1) (fun x2 => L_spec_DevOk_7 (fun x5 => some x5.1) (fun x6 => Option.bind (F_spec_l1In (((List.length x6.1 : Nat) : Int), (1 : Int), (60 : Int))) fun r7 => Option.bind (bif r7 then some (decide (((List.length x6.2.1 : Nat) : Int) ≤ (60 : Int))) else some false) fun u8 => Option.bind (bif u8 then Option.bind (F_spec_l1In (x6.2.2.1, (-1 : Int), (1000 : Int))) fun r10 => some r10 else some false) fun u9 => some u9) ((0 : Int), x2.1, x2.2.1, x2.2.2.1, x2.2.2.2)) ((0 : Int), x.1, x.2.1, x.2.2.1, x.2.2.2)
def f153Q : List QF := [q107]
def f153e2_0 (t : Qz140) : St := ⟨.dead :: .box 1 0 :: .dead :: vI t.1 :: dd 59 [], [(1, .box [v_s_u8 t.2.1, v_Wr t.2.2.1, vI t.2.2.2.1, vB t.2.2.2.2])]⟩
def f153g2 : Gk T_spec_DevOk_2 := fun κ => S_spec_DevOk_2 (fun t => κ none ⟨.dead :: .box 1 0 :: vB t.1 :: dd 60 [], [(1, .box [v_s_u8 t.2.1, v_Wr t.2.2.1, vI t.2.2.2.1, vB t.2.2.2.2])]⟩) (fun t => κ (some 0) ⟨.dead :: .box 1 0 :: dd 61 [], [(1, .box [v_s_u8 t.1, v_Wr t.2.1, vI t.2.2.1, vB t.2.2.2])]⟩)
def f153e7_0 (t : Qz140) : St := ⟨.dead :: .box 1 0 :: dd 2 (vI t.1 :: dd 58 []), [(1, .box [v_s_u8 t.2.1, v_Wr t.2.2.1, vI t.2.2.2.1, vB t.2.2.2.2])]⟩
def f153g7 : Gk T_spec_DevOk_7 := fun κ => S_spec_DevOk_7 (fun t => κ none ⟨.dead :: .box 1 0 :: vB t.1 :: dd 60 [], [(1, .box [v_s_u8 t.2.1, v_Wr t.2.2.1, vI t.2.2.2.1, vB t.2.2.2.2])]⟩) (fun t => κ (some 2) ⟨.dead :: .box 1 0 :: dd 61 [], [(1, .box [v_s_u8 t.1, v_Wr t.2.1, vI t.2.2.1, vB t.2.2.2])]⟩)
def f153P : Lp := lpC 7 (unG qz140 f153e7_0) @f153g7 (lpC 2 (unG qz140 f153e2_0) @f153g2 lpN)
theorem f153C2 : LF f153Q f153P 153 2 Tryz.f153 0 f153e2_0 @f153g2 fun t => t := fun R κ again t => by kernel_rfl
theorem f153k2 : LK f153Q f153P 153 Tryz.f153 0 := lkN (u := (unG qz140 f153e2_0)) (unG_ok fun t => by kernel_rfl) f153C2
theorem f153C7 : LF f153Q f153P 153 7 Tryz.f153 1 f153e7_0 @f153g7 fun t => t := fun R κ again t => by kernel_rfl
theorem f153k7 : LK f153Q f153P 153 Tryz.f153 1 := lkN (u := (unG qz140 f153e7_0)) (unG_ok fun t => by kernel_rfl) f153C7
theorem ev153 : EV f153Q f153P 153 Tryz.f153 sg153 qz111 [.bool] F_spec_DevOk := fun x => by kernel_rfl
def q153 : QF := ⟨153, F_spec_DevOk, okN (n := 2) Tryz.func153 ⟨f153k2, f153k7, trivial⟩ ev153⟩
def F_spec_l19Limits (x : Qz112) : Option Bool :=
 Option.bind (F_spec_DevOk (x.1, x.2.1, x.2.2.1, x.2.2.2.1)) fun r1 => Option.bind (bif r1 then some (((List.length x.1 : Nat) : Int) == (60 : Int)) else some false) fun u2 => Option.bind (bif u2 then Option.bind (F_spec_PoolOk (x.2.2.2.2.1, x.2.2.2.2.2.1, x.2.2.2.2.2.2.1, x.2.2.2.2.2.2.2.1, x.2.2.2.2.2.2.2.2.1, x.2.2.2.2.2.2.2.2.2.1)) fun r4 => some r4 else some false) fun u3 => Option.bind (bif u3 then Option.bind (F_spec_l1In (x.2.2.2.2.2.2.2.2.2.2.2.1, (1 : Int), (50000 : Int))) fun r6 => some r6 else some false) fun u5 => Option.bind (bif u5 then Option.bind (F_spec_l1In (x.2.2.2.2.2.2.2.2.2.2.2.2, x.2.2.2.2.2.2.2.2.2.2.2.1, (Go.IntKind.wrap .i64 (x.2.2.2.2.2.2.2.2.2.2.2.1 + (6 : Int))))) fun r8 => some r8 else some false) fun u7 => Option.bind (bif u7 then Option.bind (F_spec_l1In (x.2.2.2.2.2.2.2.2.2.2.2.2, (1 : Int), (50000 : Int))) fun r10 => some r10 else some false) fun u9 => some u9
theorem ev106 : EV [q47, q107, q153] lpN 106 Tryz.f106 sg106 qz112 [.bool] F_spec_l19Limits := fun x => by kernel_rfl
def q106 : QF := ⟨106, F_spec_l19Limits, okN (n := 0) Tryz.func106 trivial ev106⟩
def F_spec_StoreOk (x : Qz112) : Option Bool :=
 Option.bind (F_spec_l19Limits (x.1, x.2.1, x.2.2.1, x.2.2.2.1, x.2.2.2.2.1, x.2.2.2.2.2.1, x.2.2.2.2.2.2.1, x.2.2.2.2.2.2.2.1, x.2.2.2.2.2.2.2.2.1, x.2.2.2.2.2.2.2.2.2.1, x.2.2.2.2.2.2.2.2.2.2.1, x.2.2.2.2.2.2.2.2.2.2.2.1, x.2.2.2.2.2.2.2.2.2.2.2.2)) fun r1 => Option.bind (bif r1 then Option.bind (F_spec_l1In (x.2.2.2.2.2.2.2.2.2.2.1, (1 : Int), (50000 : Int))) fun r3 => some r3 else some false) fun u2 => some u2
theorem ev101 : EV [q106, q107] lpN 101 Tryz.f101 sg101 qz112 [.bool] F_spec_StoreOk := fun x => by kernel_rfl
def q101 : QF := ⟨101, F_spec_StoreOk, okN (n := 0) Tryz.func101 trivial ev101⟩
def F_spec_l2Op_b13_0 (x : Qz112) : Option Qz142 :=
 bif (x.2.2.1 == (0 : Int)) then some (false, x.1, x.2.1, (-1 : Int), true, x.2.2.2.2.1, x.2.2.2.2.2.1, x.2.2.2.2.2.2.1, x.2.2.2.2.2.2.2.1, x.2.2.2.2.2.2.2.2.1, x.2.2.2.2.2.2.2.2.2.1, x.2.2.2.2.2.2.2.2.2.2.1, x.2.2.2.2.2.2.2.2.2.2.2.1, x.2.2.2.2.2.2.2.2.2.2.2.2) else bif (decide (x.2.2.1 > (0 : Int))) then some (true, x.1, x.2.1, (Go.IntKind.wrap .i64 (x.2.2.1 - (1 : Int))), x.2.2.2.1, x.2.2.2.2.1, x.2.2.2.2.2.1, x.2.2.2.2.2.2.1, x.2.2.2.2.2.2.2.1, x.2.2.2.2.2.2.2.2.1, x.2.2.2.2.2.2.2.2.2.1, x.2.2.2.2.2.2.2.2.2.2.1, x.2.2.2.2.2.2.2.2.2.2.2.1, x.2.2.2.2.2.2.2.2.2.2.2.2) else some (true, x.1, x.2.1, x.2.2.1, x.2.2.2.1, x.2.2.2.2.1, x.2.2.2.2.2.1, x.2.2.2.2.2.2.1, x.2.2.2.2.2.2.2.1, x.2.2.2.2.2.2.2.2.1, x.2.2.2.2.2.2.2.2.2.1, x.2.2.2.2.2.2.2.2.2.2.1, x.2.2.2.2.2.2.2.2.2.2.2.1, x.2.2.2.2.2.2.2.2.2.2.2.2)
theorem ev100001 : EV [] lpN 100001 Tryz.f177 sg100001 qz112 qz142 F_spec_l2Op_b13_0 := fun x => by kernel_rfl
def q100001 : QF := ⟨100001, F_spec_l2Op_b13_0, okN (n := 0) Tryz.func177 trivial ev100001⟩
abbrev T_spec_l2Flush_b13_0_2 : Type := Qz143
def S_spec_l2Flush_b13_0_2 (k0 : Qz144 → Option R) (again : T_spec_l2Flush_b13_0_2 → Option R) (t2 : T_spec_l2Flush_b13_0_2) : Option R :=
 bif (decide (t2.1 < ((List.length t2.2.2.2.2.2.2.2.2.1 : Nat) : Int))) then if (0 : Int) ≤ t2.1 then if t2.1 < ((List.length t2.2.2.2.2.2.2.2.2.1 : Nat) : Int) then if (0 : Int) ≤ t2.1 then if t2.1 < ((List.length t2.2.2.2.2.2.2.2.2.1 : Nat) : Int) then if (0 : Int) ≤ (rd_Wr t2.2.2.2.2.2.2.2.2.1 t2.1).1 then if (rd_Wr t2.2.2.2.2.2.2.2.2.1 t2.1).1 < ((List.length t2.2.2.2.2.2.2.2.1 : Nat) : Int) then again ((Go.IntKind.wrap .i64 (t2.1 + (1 : Int))), t2.2.1, t2.2.2.1, t2.2.2.2.1, t2.2.2.2.2.1, t2.2.2.2.2.2.1, t2.2.2.2.2.2.2.1, (List.set t2.2.2.2.2.2.2.2.1 (Int.toNat ((rd_Wr t2.2.2.2.2.2.2.2.2.1 t2.1).1)) ((rd_Wr t2.2.2.2.2.2.2.2.2.1 t2.1).2)), t2.2.2.2.2.2.2.2.2.1, t2.2.2.2.2.2.2.2.2.2.1, t2.2.2.2.2.2.2.2.2.2.2.1, t2.2.2.2.2.2.2.2.2.2.2.2.1, t2.2.2.2.2.2.2.2.2.2.2.2.2.1, t2.2.2.2.2.2.2.2.2.2.2.2.2.2) else none else none else none else none else none else none else k0 (t2.2.1, t2.2.2.1, t2.2.2.2.1, t2.2.2.2.2.1, t2.2.2.2.2.2.1, t2.2.2.2.2.2.2.1, t2.2.2.2.2.2.2.2.1, t2.2.2.2.2.2.2.2.2.1, t2.2.2.2.2.2.2.2.2.2.1, t2.2.2.2.2.2.2.2.2.2.2.1, t2.2.2.2.2.2.2.2.2.2.2.2.1, t2.2.2.2.2.2.2.2.2.2.2.2.2.1, t2.2.2.2.2.2.2.2.2.2.2.2.2.2)
def L_spec_l2Flush_b13_0_2 k0 := iter (@S_spec_l2Flush_b13_0_2 R k0) FUEL
def F_spec_l2Flush_b13_0 (x : Qz112) : Option Qz112 :=
 bif x.2.2.2.1 then some (x.1, x.2.1, x.2.2.1, x.2.2.2.1, x.2.2.2.2.1, x.2.2.2.2.2.1, x.2.2.2.2.2.2.1, x.2.2.2.2.2.2.2.1, x.2.2.2.2.2.2.2.2.1, x.2.2.2.2.2.2.2.2.2.1, x.2.2.2.2.2.2.2.2.2.2.1, x.2.2.2.2.2.2.2.2.2.2.2.1, x.2.2.2.2.2.2.2.2.2.2.2.2) else Option.bind (F_spec_l2Op_b13_0 (x.1, x.2.1, x.2.2.1, x.2.2.2.1, x.2.2.2.2.1, x.2.2.2.2.2.1, x.2.2.2.2.2.2.1, x.2.2.2.2.2.2.2.1, x.2.2.2.2.2.2.2.2.1, x.2.2.2.2.2.2.2.2.2.1, x.2.2.2.2.2.2.2.2.2.2.1, x.2.2.2.2.2.2.2.2.2.2.2.1, x.2.2.2.2.2.2.2.2.2.2.2.2)) fun r1 => bif (!r1.1) then some (r1.2.1, r1.2.2.1, r1.2.2.2.1, r1.2.2.2.2.1, r1.2.2.2.2.2.1, r1.2.2.2.2.2.2.1, r1.2.2.2.2.2.2.2.1, r1.2.2.2.2.2.2.2.2.1, r1.2.2.2.2.2.2.2.2.2.1, r1.2.2.2.2.2.2.2.2.2.2.1, r1.2.2.2.2.2.2.2.2.2.2.2.1, r1.2.2.2.2.2.2.2.2.2.2.2.2.1, r1.2.2.2.2.2.2.2.2.2.2.2.2.2) else L_spec_l2Flush_b13_0_2 (fun x2 => some (x2.2.2.2.2.2.2.1, ([] : List E_Wr), x2.1, x2.2.1, x2.2.2.2.2.2.2.2.2.1, x2.2.2.2.2.2.2.2.2.2.1, x2.2.2.2.2.2.2.2.2.2.2.1, x2.2.2.2.2.2.2.2.2.2.2.2.1, x2.2.2.2.2.2.2.2.2.2.2.2.2, x2.2.2.1, x2.2.2.2.1, x2.2.2.2.2.1, x2.2.2.2.2.2.1)) ((0 : Int), r1.2.2.2.1, r1.2.2.2.2.1, r1.2.2.2.2.2.2.2.2.2.2.1, r1.2.2.2.2.2.2.2.2.2.2.2.1, r1.2.2.2.2.2.2.2.2.2.2.2.2.1, r1.2.2.2.2.2.2.2.2.2.2.2.2.2, r1.2.1, r1.2.2.1, r1.2.2.2.2.2.1, r1.2.2.2.2.2.2.1, r1.2.2.2.2.2.2.2.1, r1.2.2.2.2.2.2.2.2.1, r1.2.2.2.2.2.2.2.2.2.1)
def f100000Q : List QF := [q100001]
def f100000e2_0 (t : Qz143) : St := ⟨.box 900 0 :: .dead :: vI t.1 :: dd 43 [], [(900, .box [.own 10000000, .own 10000001, vI t.2.1, vB t.2.2.1, .own 10000002, .own 10000003, .own 10000004, .own 10000005, .own 10000006, vI t.2.2.2.1, vI t.2.2.2.2.1, vI t.2.2.2.2.2.1, vI t.2.2.2.2.2.2.1]), (10000000, .root true 32 ts_s_u8 t.2.2.2.2.2.2.2.1), (10000001, .root true 186 ts_Wr t.2.2.2.2.2.2.2.2.1), (10000002, .root true 3 ts_i64 t.2.2.2.2.2.2.2.2.2.1), (10000003, .root true 98 ts_Node t.2.2.2.2.2.2.2.2.2.2.1), (10000004, .root true 89 ts_Age t.2.2.2.2.2.2.2.2.2.2.2.1), (10000005, .root true 95 ts_Cell t.2.2.2.2.2.2.2.2.2.2.2.2.1), (10000006, .root true 91 ts_Vol t.2.2.2.2.2.2.2.2.2.2.2.2.2)]⟩
def f100000g2 : Gk T_spec_l2Flush_b13_0_2 := fun κ => S_spec_l2Flush_b13_0_2 (fun t => κ (some 0) ⟨.box 900 0 :: dd 45 [], [(900, .box [.own 10000000, .own 10000001, vI t.1, vB t.2.1, .own 10000002, .own 10000003, .own 10000004, .own 10000005, .own 10000006, vI t.2.2.1, vI t.2.2.2.1, vI t.2.2.2.2.1, vI t.2.2.2.2.2.1]), (10000000, .root true 32 ts_s_u8 t.2.2.2.2.2.2.1), (10000001, .root true 186 ts_Wr t.2.2.2.2.2.2.2.1), (10000002, .root true 3 ts_i64 t.2.2.2.2.2.2.2.2.1), (10000003, .root true 98 ts_Node t.2.2.2.2.2.2.2.2.2.1), (10000004, .root true 89 ts_Age t.2.2.2.2.2.2.2.2.2.2.1), (10000005, .root true 95 ts_Cell t.2.2.2.2.2.2.2.2.2.2.2.1), (10000006, .root true 91 ts_Vol t.2.2.2.2.2.2.2.2.2.2.2.2)]⟩)
def f100000P : Lp := lpC 2 (unG qz143 f100000e2_0) @f100000g2 lpN
theorem f100000C2 : LF f100000Q f100000P 100000 2 Tryz.f102 0 f100000e2_0 @f100000g2 fun t => t := fun R κ again t => by kernel_rfl
theorem f100000k2 : LK f100000Q f100000P 100000 Tryz.f102 0 := lkN (u := (unG qz143 f100000e2_0)) (unG_ok fun t => by kernel_rfl) f100000C2
theorem ev100000 : EV f100000Q f100000P 100000 Tryz.f102 sg100000 qz112 qz112 F_spec_l2Flush_b13_0 := fun x => by kernel_rfl
def q100000 : QF := ⟨100000, F_spec_l2Flush_b13_0, okN (n := 1) Tryz.func102 ⟨f100000k2, trivial⟩ ev100000⟩
def F_spec_Sync (x : Qz112) : Option Qz112 :=
 Option.bind (F_spec_l19Copy (x.1, x.2.1, x.2.2.1, x.2.2.2.1, x.2.2.2.2.1, x.2.2.2.2.2.1, x.2.2.2.2.2.2.1, x.2.2.2.2.2.2.2.1, x.2.2.2.2.2.2.2.2.1, x.2.2.2.2.2.2.2.2.2.1, x.2.2.2.2.2.2.2.2.2.2.1, x.2.2.2.2.2.2.2.2.2.2.2.1, x.2.2.2.2.2.2.2.2.2.2.2.2)) fun r1 => Option.bind (F_spec_StoreOk (x.1, x.2.1, x.2.2.1, x.2.2.2.1, x.2.2.2.2.1, x.2.2.2.2.2.1, x.2.2.2.2.2.2.1, x.2.2.2.2.2.2.2.1, x.2.2.2.2.2.2.2.2.1, x.2.2.2.2.2.2.2.2.2.1, x.2.2.2.2.2.2.2.2.2.2.1, x.2.2.2.2.2.2.2.2.2.2.2.1, x.2.2.2.2.2.2.2.2.2.2.2.2)) fun r2 => bif r2 then Option.bind (F_spec_l2Flush_b13_0 (r1.1, r1.2.1, r1.2.2.1, r1.2.2.2.1, r1.2.2.2.2.1, r1.2.2.2.2.2.1, r1.2.2.2.2.2.2.1, r1.2.2.2.2.2.2.2.1, r1.2.2.2.2.2.2.2.2.1, r1.2.2.2.2.2.2.2.2.2.1, r1.2.2.2.2.2.2.2.2.2.2.1, r1.2.2.2.2.2.2.2.2.2.2.2.1, r1.2.2.2.2.2.2.2.2.2.2.2.2)) fun r3 => some (r3.1, r3.2.1, r3.2.2.1, r3.2.2.2.1, r3.2.2.2.2.1, r3.2.2.2.2.2.1, r3.2.2.2.2.2.2.1, r3.2.2.2.2.2.2.2.1, r3.2.2.2.2.2.2.2.2.1, r3.2.2.2.2.2.2.2.2.2.1, r3.2.2.2.2.2.2.2.2.2.2.1, r3.2.2.2.2.2.2.2.2.2.2.2.1, r3.2.2.2.2.2.2.2.2.2.2.2.2) else some (r1.1, r1.2.1, r1.2.2.1, r1.2.2.2.1, r1.2.2.2.2.1, r1.2.2.2.2.2.1, r1.2.2.2.2.2.2.1, r1.2.2.2.2.2.2.2.1, r1.2.2.2.2.2.2.2.2.1, r1.2.2.2.2.2.2.2.2.2.1, r1.2.2.2.2.2.2.2.2.2.2.1, r1.2.2.2.2.2.2.2.2.2.2.2.1, r1.2.2.2.2.2.2.2.2.2.2.2.2)
theorem ev36 : EV [q100, q101, q100000] lpN 36 Tryz.f36 sg36 qz112 qz112 F_spec_Sync := fun x => by kernel_rfl
def q36 : QF := ⟨36, F_spec_Sync, okN (n := 0) Tryz.func36 trivial ev36⟩
abbrev T_laws_toIntS_3 : Type := Qz145
def S_laws_toIntS_3 (k0 : List E_i64 → Option R) (again : T_laws_toIntS_3 → Option R) (t3 : T_laws_toIntS_3) : Option R :=
 bif (decide (t3.2.1 < ((List.length t3.1 : Nat) : Int))) then if (0 : Int) ≤ t3.2.1 then if t3.2.1 < ((List.length t3.1 : Nat) : Int) then if (0 : Int) ≤ t3.2.1 then if t3.2.1 < ((List.length t3.2.2 : Nat) : Int) then again (t3.1, (Go.IntKind.wrap .i64 (t3.2.1 + (1 : Int))), (List.set t3.2.2 (Int.toNat t3.2.1) (rd_i64 t3.1 t3.2.1))) else none else none else none else none else k0 t3.2.2
def L_laws_toIntS_3 k0 := iter (@S_laws_toIntS_3 R k0) FUEL
def F_laws_toIntS (x : List E_i64) : Option (List E_i64) :=
 if (0 : Int) ≤ ((List.length x : Nat) : Int) then if ((List.length x : Nat) : Int) ≤ ((List.length x : Nat) : Int) then if ((List.length x : Nat) : Int) * ((8 : Nat) : Int) ≤ 140737488351232 then L_laws_toIntS_3 (fun x1 => some x1) (x, (0 : Int), (List.replicate (Int.toNat ((List.length x : Nat) : Int)) z_i64)) else none else none else none
def f126Q : List QF := []
def f126e3_0 (t : Qz145) : St := ⟨v_i64 t.1 :: dd 2 (.own 10000000 :: vI t.2.1 :: dd 17 []), [(10000000, .root true 3 ts_i64 t.2.2)]⟩
def f126g3 : Gk T_laws_toIntS_3 := fun κ => S_laws_toIntS_3 (fun t => κ (some 0) ⟨dd 3 (.own 10000000 :: dd 18 []), [(10000000, .root true 3 ts_i64 t)]⟩)
def f126P : Lp := lpC 3 (unG qz145 f126e3_0) @f126g3 lpN
theorem f126C3 : LF f126Q f126P 126 3 Tryz.f126 0 f126e3_0 @f126g3 fun t => t := fun R κ again t => by kernel_rfl
theorem f126k3 : LK f126Q f126P 126 Tryz.f126 0 := lkN (u := (unG qz145 f126e3_0)) (unG_ok fun t => by kernel_rfl) f126C3
theorem ev126 : EV f126Q f126P 126 Tryz.f126 sg126 [(.sl 3 ts_i64)] [(.sl 3 ts_i64)] F_laws_toIntS := fun x => by kernel_rfl
def q126 : QF := ⟨126, F_laws_toIntS, okN (n := 1) Tryz.func126 ⟨f126k3, trivial⟩ ev126⟩
def F_laws_toKey (x : Qz120) : Option Qz120 :=
 some (x.1, x.2.1, x.2.2.1, x.2.2.2.1, x.2.2.2.2)
theorem ev301 : EV [] lpN 301 Tryz.f301 sg301 qz120 qz120 F_laws_toKey := fun x => by kernel_rfl
def q301 : QF := ⟨301, F_laws_toKey, okN (n := 0) Tryz.func301 trivial ev301⟩
abbrev T_laws_toKeyS_3 : Type := Qz146
def S_laws_toKeyS_3 (k0 : List E_Key → Option R) (again : T_laws_toKeyS_3 → Option R) (t3 : T_laws_toKeyS_3) : Option R :=
 bif (decide (t3.2.1 < ((List.length t3.1 : Nat) : Int))) then if (0 : Int) ≤ t3.2.1 then if t3.2.1 < ((List.length t3.1 : Nat) : Int) then Option.bind (F_laws_toKey ((rd_LKey t3.1 t3.2.1).1, (rd_LKey t3.1 t3.2.1).2.1, (rd_LKey t3.1 t3.2.1).2.2.1, (rd_LKey t3.1 t3.2.1).2.2.2.1, (rd_LKey t3.1 t3.2.1).2.2.2.2)) fun r1 => if (0 : Int) ≤ t3.2.1 then if t3.2.1 < ((List.length t3.2.2 : Nat) : Int) then again (t3.1, (Go.IntKind.wrap .i64 (t3.2.1 + (1 : Int))), (List.set t3.2.2 (Int.toNat t3.2.1) (r1.1, r1.2.1, r1.2.2.1, r1.2.2.2.1, r1.2.2.2.2))) else none else none else none else none else k0 t3.2.2
def L_laws_toKeyS_3 k0 := iter (@S_laws_toKeyS_3 R k0) FUEL
def F_laws_toKeyS (x : List E_LKey) : Option (List E_Key) :=
 if (0 : Int) ≤ ((List.length x : Nat) : Int) then if ((List.length x : Nat) : Int) ≤ ((List.length x : Nat) : Int) then if ((List.length x : Nat) : Int) * ((40 : Nat) : Int) ≤ 140737488351232 then L_laws_toKeyS_3 (fun x2 => some x2) (x, (0 : Int), (List.replicate (Int.toNat ((List.length x : Nat) : Int)) z_Key)) else none else none else none
def f278Q : List QF := [q301]
def f278e3_0 (t : Qz146) : St := ⟨v_LKey t.1 :: dd 2 (.own 10000000 :: vI t.2.1 :: dd 18 []), [(10000000, .root true 106 ts_Key t.2.2)]⟩
def f278g3 : Gk T_laws_toKeyS_3 := fun κ => S_laws_toKeyS_3 (fun t => κ (some 0) ⟨dd 3 (.own 10000000 :: dd 19 []), [(10000000, .root true 106 ts_Key t)]⟩)
def f278P : Lp := lpC 3 (unG qz146 f278e3_0) @f278g3 lpN
theorem f278C3 : LF f278Q f278P 278 3 Tryz.f278 0 f278e3_0 @f278g3 fun t => t := fun R κ again t => by kernel_rfl
theorem f278k3 : LK f278Q f278P 278 Tryz.f278 0 := lkN (u := (unG qz146 f278e3_0)) (unG_ok fun t => by kernel_rfl) f278C3
theorem ev278 : EV f278Q f278P 278 Tryz.f278 sg278 [(.sl 279 ts_LKey)] [(.sl 106 ts_Key)] F_laws_toKeyS := fun x => by kernel_rfl
def q278 : QF := ⟨278, F_laws_toKeyS, okN (n := 1) Tryz.func278 ⟨f278k3, trivial⟩ ev278⟩
abbrev T_laws_toKeySS_3 : Type := Qz147
def S_laws_toKeySS_3 (k0 : List E_s_Key → Option R) (again : T_laws_toKeySS_3 → Option R) (t3 : T_laws_toKeySS_3) : Option R :=
 bif (decide (t3.2.1 < ((List.length t3.1 : Nat) : Int))) then if (0 : Int) ≤ t3.2.1 then if t3.2.1 < ((List.length t3.1 : Nat) : Int) then Option.bind (F_laws_toKeyS (rd_s_LKey t3.1 t3.2.1)) fun r1 => if (0 : Int) ≤ t3.2.1 then if t3.2.1 < ((List.length t3.2.2 : Nat) : Int) then again (t3.1, (Go.IntKind.wrap .i64 (t3.2.1 + (1 : Int))), (List.set t3.2.2 (Int.toNat t3.2.1) r1)) else none else none else none else none else k0 t3.2.2
def L_laws_toKeySS_3 k0 := iter (@S_laws_toKeySS_3 R k0) FUEL
def F_laws_toKeySS (x : List E_s_LKey) : Option (List E_s_Key) :=
 if (0 : Int) ≤ ((List.length x : Nat) : Int) then if ((List.length x : Nat) : Int) ≤ ((List.length x : Nat) : Int) then if ((List.length x : Nat) : Int) * ((24 : Nat) : Int) ≤ 140737488351232 then L_laws_toKeySS_3 (fun x2 => some x2) (x, (0 : Int), (List.replicate (Int.toNat ((List.length x : Nat) : Int)) z_s_Key)) else none else none else none
def f245Q : List QF := [q278]
def f245e3_0 (t : Qz147) : St := ⟨v_s_LKey t.1 :: dd 2 (.own 10000000 :: vI t.2.1 :: dd 18 []), [(10000000, .deep false 0 100 ts_s_Key t.2.2)]⟩
def f245g3 : Gk T_laws_toKeySS_3 := fun κ => S_laws_toKeySS_3 (fun t => κ (some 0) ⟨dd 3 (.own 10000000 :: dd 19 []), [(10000000, .deep false 0 100 ts_s_Key t)]⟩)
def f245P : Lp := lpC 3 (unG qz147 f245e3_0) @f245g3 lpN
theorem f245C3 : LF f245Q f245P 245 3 Tryz.f245 0 f245e3_0 @f245g3 fun t => t := fun R κ again t => by kernel_rfl
theorem f245k3 : LK f245Q f245P 245 Tryz.f245 0 := lkN (u := (unG qz147 f245e3_0)) (unG_ok fun t => by kernel_rfl) f245C3
theorem ev245 : EV f245Q f245P 245 Tryz.f245 sg245 [(.sl 267 ts_s_LKey)] [(.sl 100 ts_s_Key)] F_laws_toKeySS := fun x => by kernel_rfl
def q245 : QF := ⟨245, F_laws_toKeySS, okN (n := 1) Tryz.func245 ⟨f245k3, trivial⟩ ev245⟩
def F_laws_toNode (x : List E_s_LKey) : Option (List E_s_Key) :=
 Option.bind (F_laws_toKeySS x) fun r1 => some r1
theorem ev203 : EV [q245] lpN 203 Tryz.f203 sg203 [(.sl 267 ts_s_LKey)] [(.sl 100 ts_s_Key)] F_laws_toNode := fun x => by kernel_rfl
def q203 : QF := ⟨203, F_laws_toNode, okN (n := 0) Tryz.func203 trivial ev203⟩
abbrev T_laws_toNodeS_3 : Type := Qz148
def S_laws_toNodeS_3 (k0 : List E_Node → Option R) (again : T_laws_toNodeS_3 → Option R) (t3 : T_laws_toNodeS_3) : Option R :=
 bif (decide (t3.2.1 < ((List.length t3.1 : Nat) : Int))) then if (0 : Int) ≤ t3.2.1 then if t3.2.1 < ((List.length t3.1 : Nat) : Int) then Option.bind (F_laws_toNode (rd_LNode t3.1 t3.2.1)) fun r1 => if (0 : Int) ≤ t3.2.1 then if t3.2.1 < ((List.length t3.2.2 : Nat) : Int) then again (t3.1, (Go.IntKind.wrap .i64 (t3.2.1 + (1 : Int))), (List.set t3.2.2 (Int.toNat t3.2.1) r1)) else none else none else none else none else k0 t3.2.2
def L_laws_toNodeS_3 k0 := iter (@S_laws_toNodeS_3 R k0) FUEL
def F_laws_toNodeS (x : List E_LNode) : Option (List E_Node) :=
 if (0 : Int) ≤ ((List.length x : Nat) : Int) then if ((List.length x : Nat) : Int) ≤ ((List.length x : Nat) : Int) then if ((List.length x : Nat) : Int) * ((24 : Nat) : Int) ≤ 140737488351232 then L_laws_toNodeS_3 (fun x2 => some x2) (x, (0 : Int), (List.replicate (Int.toNat ((List.length x : Nat) : Int)) z_Node)) else none else none else none
def f127Q : List QF := [q203]
def f127e3_0 (t : Qz148) : St := ⟨v_LNode t.1 :: dd 2 (.own 10000000 :: vI t.2.1 :: dd 18 []), [(10000000, .deep false 0 98 ts_Node t.2.2)]⟩
def f127g3 : Gk T_laws_toNodeS_3 := fun κ => S_laws_toNodeS_3 (fun t => κ (some 0) ⟨dd 3 (.own 10000000 :: dd 19 []), [(10000000, .deep false 0 98 ts_Node t)]⟩)
def f127P : Lp := lpC 3 (unG qz148 f127e3_0) @f127g3 lpN
theorem f127C3 : LF f127Q f127P 127 3 Tryz.f127 0 f127e3_0 @f127g3 fun t => t := fun R κ again t => by kernel_rfl
theorem f127k3 : LK f127Q f127P 127 Tryz.f127 0 := lkN (u := (unG qz148 f127e3_0)) (unG_ok fun t => by kernel_rfl) f127C3
theorem ev127 : EV f127Q f127P 127 Tryz.f127 sg127 [(.sl 216 ts_LNode)] [(.sl 98 ts_Node)] F_laws_toNodeS := fun x => by kernel_rfl
def q127 : QF := ⟨127, F_laws_toNodeS, okN (n := 1) Tryz.func127 ⟨f127k3, trivial⟩ ev127⟩
def F_laws_toTree (x : Qz149) : Option Qz99 :=
 Option.bind (F_laws_toIntS x.1) fun r1 => Option.bind (F_laws_toNodeS x.2) fun r2 => some (r1, r2)
theorem ev52 : EV [q126, q127] lpN 52 Tryz.f52 sg52 qz149 qz99 F_laws_toTree := fun x => by kernel_rfl
def q52 : QF := ⟨52, F_laws_toTree, okN (n := 0) Tryz.func52 trivial ev52⟩
def F_laws_toAge (x : Qz69) : Option Qz69 :=
 some (x.1, x.2)
theorem ev128 : EV [] lpN 128 Tryz.f128 sg128 qz69 qz69 F_laws_toAge := fun x => by kernel_rfl
def q128 : QF := ⟨128, F_laws_toAge, okN (n := 0) Tryz.func128 trivial ev128⟩
abbrev T_laws_toAgeS_3 : Type := Qz150
def S_laws_toAgeS_3 (k0 : List E_Age → Option R) (again : T_laws_toAgeS_3 → Option R) (t3 : T_laws_toAgeS_3) : Option R :=
 bif (decide (t3.2.1 < ((List.length t3.1 : Nat) : Int))) then if (0 : Int) ≤ t3.2.1 then if t3.2.1 < ((List.length t3.1 : Nat) : Int) then Option.bind (F_laws_toAge ((rd_LAge t3.1 t3.2.1).1, (rd_LAge t3.1 t3.2.1).2)) fun r1 => if (0 : Int) ≤ t3.2.1 then if t3.2.1 < ((List.length t3.2.2 : Nat) : Int) then again (t3.1, (Go.IntKind.wrap .i64 (t3.2.1 + (1 : Int))), (List.set t3.2.2 (Int.toNat t3.2.1) (r1.1, r1.2))) else none else none else none else none else k0 t3.2.2
def L_laws_toAgeS_3 k0 := iter (@S_laws_toAgeS_3 R k0) FUEL
def F_laws_toAgeS (x : List E_LAge) : Option (List E_Age) :=
 if (0 : Int) ≤ ((List.length x : Nat) : Int) then if ((List.length x : Nat) : Int) ≤ ((List.length x : Nat) : Int) then if ((List.length x : Nat) : Int) * ((16 : Nat) : Int) ≤ 140737488351232 then L_laws_toAgeS_3 (fun x2 => some x2) (x, (0 : Int), (List.replicate (Int.toNat ((List.length x : Nat) : Int)) z_Age)) else none else none else none
def f53Q : List QF := [q128]
def f53e3_0 (t : Qz150) : St := ⟨v_LAge t.1 :: dd 2 (.own 10000000 :: vI t.2.1 :: dd 18 []), [(10000000, .root true 89 ts_Age t.2.2)]⟩
def f53g3 : Gk T_laws_toAgeS_3 := fun κ => S_laws_toAgeS_3 (fun t => κ (some 0) ⟨dd 3 (.own 10000000 :: dd 19 []), [(10000000, .root true 89 ts_Age t)]⟩)
def f53P : Lp := lpC 3 (unG qz150 f53e3_0) @f53g3 lpN
theorem f53C3 : LF f53Q f53P 53 3 Tryz.f53 0 f53e3_0 @f53g3 fun t => t := fun R κ again t => by kernel_rfl
theorem f53k3 : LK f53Q f53P 53 Tryz.f53 0 := lkN (u := (unG qz150 f53e3_0)) (unG_ok fun t => by kernel_rfl) f53C3
theorem ev53 : EV f53Q f53P 53 Tryz.f53 sg53 [(.sl 166 ts_LAge)] [(.sl 89 ts_Age)] F_laws_toAgeS := fun x => by kernel_rfl
def q53 : QF := ⟨53, F_laws_toAgeS, okN (n := 1) Tryz.func53 ⟨f53k3, trivial⟩ ev53⟩
def F_laws_toCell (x : Qz151) : Option Qz151 :=
 some (x.1, x.2.1, x.2.2)
theorem ev129 : EV [] lpN 129 Tryz.f129 sg129 qz151 qz151 F_laws_toCell := fun x => by kernel_rfl
def q129 : QF := ⟨129, F_laws_toCell, okN (n := 0) Tryz.func129 trivial ev129⟩
abbrev T_laws_toCellS_3 : Type := Qz152
def S_laws_toCellS_3 (k0 : List E_Cell → Option R) (again : T_laws_toCellS_3 → Option R) (t3 : T_laws_toCellS_3) : Option R :=
 bif (decide (t3.2.1 < ((List.length t3.1 : Nat) : Int))) then if (0 : Int) ≤ t3.2.1 then if t3.2.1 < ((List.length t3.1 : Nat) : Int) then Option.bind (F_laws_toCell ((rd_LCell t3.1 t3.2.1).1, (rd_LCell t3.1 t3.2.1).2.1, (rd_LCell t3.1 t3.2.1).2.2)) fun r1 => if (0 : Int) ≤ t3.2.1 then if t3.2.1 < ((List.length t3.2.2 : Nat) : Int) then again (t3.1, (Go.IntKind.wrap .i64 (t3.2.1 + (1 : Int))), (List.set t3.2.2 (Int.toNat t3.2.1) (r1.1, r1.2.1, r1.2.2))) else none else none else none else none else k0 t3.2.2
def L_laws_toCellS_3 k0 := iter (@S_laws_toCellS_3 R k0) FUEL
def F_laws_toCellS (x : List E_LCell) : Option (List E_Cell) :=
 if (0 : Int) ≤ ((List.length x : Nat) : Int) then if ((List.length x : Nat) : Int) ≤ ((List.length x : Nat) : Int) then if ((List.length x : Nat) : Int) * ((24 : Nat) : Int) ≤ 140737488351232 then L_laws_toCellS_3 (fun x2 => some x2) (x, (0 : Int), (List.replicate (Int.toNat ((List.length x : Nat) : Int)) z_Cell)) else none else none else none
def f54Q : List QF := [q129]
def f54e3_0 (t : Qz152) : St := ⟨v_LCell t.1 :: dd 2 (.own 10000000 :: vI t.2.1 :: dd 18 []), [(10000000, .root true 95 ts_Cell t.2.2)]⟩
def f54g3 : Gk T_laws_toCellS_3 := fun κ => S_laws_toCellS_3 (fun t => κ (some 0) ⟨dd 3 (.own 10000000 :: dd 19 []), [(10000000, .root true 95 ts_Cell t)]⟩)
def f54P : Lp := lpC 3 (unG qz152 f54e3_0) @f54g3 lpN
theorem f54C3 : LF f54Q f54P 54 3 Tryz.f54 0 f54e3_0 @f54g3 fun t => t := fun R κ again t => by kernel_rfl
theorem f54k3 : LK f54Q f54P 54 Tryz.f54 0 := lkN (u := (unG qz152 f54e3_0)) (unG_ok fun t => by kernel_rfl) f54C3
theorem ev54 : EV f54Q f54P 54 Tryz.f54 sg54 [(.sl 168 ts_LCell)] [(.sl 95 ts_Cell)] F_laws_toCellS := fun x => by kernel_rfl
def q54 : QF := ⟨54, F_laws_toCellS, okN (n := 1) Tryz.func54 ⟨f54k3, trivial⟩ ev54⟩
def F_laws_toVol (x : Qz153) : Option Qz153 :=
 some (x.1, x.2.1, x.2.2.1, x.2.2.2)
theorem ev130 : EV [] lpN 130 Tryz.f130 sg130 qz153 qz153 F_laws_toVol := fun x => by kernel_rfl
def q130 : QF := ⟨130, F_laws_toVol, okN (n := 0) Tryz.func130 trivial ev130⟩
abbrev T_laws_toVolS_3 : Type := Qz154
def S_laws_toVolS_3 (k0 : List E_Vol → Option R) (again : T_laws_toVolS_3 → Option R) (t3 : T_laws_toVolS_3) : Option R :=
 bif (decide (t3.2.1 < ((List.length t3.1 : Nat) : Int))) then if (0 : Int) ≤ t3.2.1 then if t3.2.1 < ((List.length t3.1 : Nat) : Int) then Option.bind (F_laws_toVol ((rd_LVol t3.1 t3.2.1).1, (rd_LVol t3.1 t3.2.1).2.1, (rd_LVol t3.1 t3.2.1).2.2.1, (rd_LVol t3.1 t3.2.1).2.2.2)) fun r1 => if (0 : Int) ≤ t3.2.1 then if t3.2.1 < ((List.length t3.2.2 : Nat) : Int) then again (t3.1, (Go.IntKind.wrap .i64 (t3.2.1 + (1 : Int))), (List.set t3.2.2 (Int.toNat t3.2.1) (r1.1, r1.2.1, r1.2.2.1, r1.2.2.2))) else none else none else none else none else k0 t3.2.2
def L_laws_toVolS_3 k0 := iter (@S_laws_toVolS_3 R k0) FUEL
def F_laws_toVolS (x : List E_LVol) : Option (List E_Vol) :=
 if (0 : Int) ≤ ((List.length x : Nat) : Int) then if ((List.length x : Nat) : Int) ≤ ((List.length x : Nat) : Int) then if ((List.length x : Nat) : Int) * ((40 : Nat) : Int) ≤ 140737488351232 then L_laws_toVolS_3 (fun x2 => some x2) (x, (0 : Int), (List.replicate (Int.toNat ((List.length x : Nat) : Int)) z_Vol)) else none else none else none
def f55Q : List QF := [q130]
def f55e3_0 (t : Qz154) : St := ⟨v_LVol t.1 :: dd 2 (.own 10000000 :: vI t.2.1 :: dd 18 []), [(10000000, .root true 91 ts_Vol t.2.2)]⟩
def f55g3 : Gk T_laws_toVolS_3 := fun κ => S_laws_toVolS_3 (fun t => κ (some 0) ⟨dd 3 (.own 10000000 :: dd 19 []), [(10000000, .root true 91 ts_Vol t)]⟩)
def f55P : Lp := lpC 3 (unG qz154 f55e3_0) @f55g3 lpN
theorem f55C3 : LF f55Q f55P 55 3 Tryz.f55 0 f55e3_0 @f55g3 fun t => t := fun R κ again t => by kernel_rfl
theorem f55k3 : LK f55Q f55P 55 Tryz.f55 0 := lkN (u := (unG qz154 f55e3_0)) (unG_ok fun t => by kernel_rfl) f55C3
theorem ev55 : EV f55Q f55P 55 Tryz.f55 sg55 [(.sl 158 ts_LVol)] [(.sl 91 ts_Vol)] F_laws_toVolS := fun x => by kernel_rfl
def q55 : QF := ⟨55, F_laws_toVolS, okN (n := 1) Tryz.func55 ⟨f55k3, trivial⟩ ev55⟩
def F_laws_toPool (x : Qz155) : Option Qz100 :=
 Option.bind (F_laws_toTree (x.1, x.2.1)) fun r1 => Option.bind (F_laws_toAgeS x.2.2.1) fun r2 => Option.bind (F_laws_toCellS x.2.2.2.1) fun r3 => Option.bind (F_laws_toVolS x.2.2.2.2.1) fun r4 => some (r1.1, r1.2, r2, r3, r4, x.2.2.2.2.2)
theorem ev12 : EV [q52, q53, q54, q55] lpN 12 Tryz.f12 sg12 qz155 qz100 F_laws_toPool := fun x => by kernel_rfl
def q12 : QF := ⟨12, F_laws_toPool, okN (n := 0) Tryz.func12 trivial ev12⟩
abbrev T_laws_toByteS_3 : Type := Qz156
def S_laws_toByteS_3 (k0 : List E_u8 → Option R) (again : T_laws_toByteS_3 → Option R) (t3 : T_laws_toByteS_3) : Option R :=
 bif (decide (t3.2.1 < ((List.length t3.1 : Nat) : Int))) then if (0 : Int) ≤ t3.2.1 then if t3.2.1 < ((List.length t3.1 : Nat) : Int) then if (0 : Int) ≤ t3.2.1 then if t3.2.1 < ((List.length t3.2.2 : Nat) : Int) then again (t3.1, (Go.IntKind.wrap .i64 (t3.2.1 + (1 : Int))), (List.set t3.2.2 (Int.toNat t3.2.1) (rd_u8 t3.1 t3.2.1))) else none else none else none else none else k0 t3.2.2
def L_laws_toByteS_3 k0 := iter (@S_laws_toByteS_3 R k0) FUEL
def F_laws_toByteS (x : List E_u8) : Option (List E_u8) :=
 if (0 : Int) ≤ ((List.length x : Nat) : Int) then if ((List.length x : Nat) : Int) ≤ ((List.length x : Nat) : Int) then if ((List.length x : Nat) : Int) * ((1 : Nat) : Int) ≤ 140737488351232 then L_laws_toByteS_3 (fun x1 => some x1) (x, (0 : Int), (List.replicate (Int.toNat ((List.length x : Nat) : Int)) z_u8)) else none else none else none
def f27Q : List QF := []
def f27e3_0 (t : Qz156) : St := ⟨v_u8 t.1 :: dd 2 (.own 10000000 :: vI t.2.1 :: dd 17 []), [(10000000, .root true 5 ts_u8 t.2.2)]⟩
def f27g3 : Gk T_laws_toByteS_3 := fun κ => S_laws_toByteS_3 (fun t => κ (some 0) ⟨dd 3 (.own 10000000 :: dd 18 []), [(10000000, .root true 5 ts_u8 t)]⟩)
def f27P : Lp := lpC 3 (unG qz156 f27e3_0) @f27g3 lpN
theorem f27C3 : LF f27Q f27P 27 3 Tryz.f27 0 f27e3_0 @f27g3 fun t => t := fun R κ again t => by kernel_rfl
theorem f27k3 : LK f27Q f27P 27 Tryz.f27 0 := lkN (u := (unG qz156 f27e3_0)) (unG_ok fun t => by kernel_rfl) f27C3
theorem ev27 : EV f27Q f27P 27 Tryz.f27 sg27 [(.sl 5 ts_u8)] [(.sl 5 ts_u8)] F_laws_toByteS := fun x => by kernel_rfl
def q27 : QF := ⟨27, F_laws_toByteS, okN (n := 1) Tryz.func27 ⟨f27k3, trivial⟩ ev27⟩
abbrev T_laws_toByteSS_3 : Type := Qz157
def S_laws_toByteSS_3 (k0 : List E_s_u8 → Option R) (again : T_laws_toByteSS_3 → Option R) (t3 : T_laws_toByteSS_3) : Option R :=
 bif (decide (t3.2.1 < ((List.length t3.1 : Nat) : Int))) then if (0 : Int) ≤ t3.2.1 then if t3.2.1 < ((List.length t3.1 : Nat) : Int) then Option.bind (F_laws_toByteS (rd_s_u8 t3.1 t3.2.1)) fun r1 => if (0 : Int) ≤ t3.2.1 then if t3.2.1 < ((List.length t3.2.2 : Nat) : Int) then again (t3.1, (Go.IntKind.wrap .i64 (t3.2.1 + (1 : Int))), (List.set t3.2.2 (Int.toNat t3.2.1) r1)) else none else none else none else none else k0 t3.2.2
def L_laws_toByteSS_3 k0 := iter (@S_laws_toByteSS_3 R k0) FUEL
def F_laws_toByteSS (x : List E_s_u8) : Option (List E_s_u8) :=
 if (0 : Int) ≤ ((List.length x : Nat) : Int) then if ((List.length x : Nat) : Int) ≤ ((List.length x : Nat) : Int) then if ((List.length x : Nat) : Int) * ((24 : Nat) : Int) ≤ 140737488351232 then L_laws_toByteSS_3 (fun x2 => some x2) (x, (0 : Int), (List.replicate (Int.toNat ((List.length x : Nat) : Int)) z_s_u8)) else none else none else none
def f74Q : List QF := [q27]
def f74e3_0 (t : Qz157) : St := ⟨v_s_u8 t.1 :: dd 2 (.own 10000000 :: vI t.2.1 :: dd 18 []), [(10000000, .deep false 0 32 ts_s_u8 t.2.2)]⟩
def f74g3 : Gk T_laws_toByteSS_3 := fun κ => S_laws_toByteSS_3 (fun t => κ (some 0) ⟨dd 3 (.own 10000000 :: dd 19 []), [(10000000, .deep false 0 32 ts_s_u8 t)]⟩)
def f74P : Lp := lpC 3 (unG qz157 f74e3_0) @f74g3 lpN
theorem f74C3 : LF f74Q f74P 74 3 Tryz.f74 0 f74e3_0 @f74g3 fun t => t := fun R κ again t => by kernel_rfl
theorem f74k3 : LK f74Q f74P 74 Tryz.f74 0 := lkN (u := (unG qz157 f74e3_0)) (unG_ok fun t => by kernel_rfl) f74C3
theorem ev74 : EV f74Q f74P 74 Tryz.f74 sg74 [(.sl 32 ts_s_u8)] [(.sl 32 ts_s_u8)] F_laws_toByteSS := fun x => by kernel_rfl
def q74 : QF := ⟨74, F_laws_toByteSS, okN (n := 1) Tryz.func74 ⟨f74k3, trivial⟩ ev74⟩
def F_laws_toWr (x : Qz56) : Option Qz56 :=
 Option.bind (F_laws_toByteS x.2) fun r1 => some (x.1, r1)
theorem ev155 : EV [q27] lpN 155 Tryz.f155 sg155 qz56 qz56 F_laws_toWr := fun x => by kernel_rfl
def q155 : QF := ⟨155, F_laws_toWr, okN (n := 0) Tryz.func155 trivial ev155⟩
abbrev T_laws_toWrS_3 : Type := Qz158
def S_laws_toWrS_3 (k0 : List E_Wr → Option R) (again : T_laws_toWrS_3 → Option R) (t3 : T_laws_toWrS_3) : Option R :=
 bif (decide (t3.2.1 < ((List.length t3.1 : Nat) : Int))) then if (0 : Int) ≤ t3.2.1 then if t3.2.1 < ((List.length t3.1 : Nat) : Int) then Option.bind (F_laws_toWr ((rd_LWr t3.1 t3.2.1).1, (rd_LWr t3.1 t3.2.1).2)) fun r1 => if (0 : Int) ≤ t3.2.1 then if t3.2.1 < ((List.length t3.2.2 : Nat) : Int) then again (t3.1, (Go.IntKind.wrap .i64 (t3.2.1 + (1 : Int))), (List.set t3.2.2 (Int.toNat t3.2.1) (r1.1, r1.2))) else none else none else none else none else k0 t3.2.2
def L_laws_toWrS_3 k0 := iter (@S_laws_toWrS_3 R k0) FUEL
def F_laws_toWrS (x : List E_LWr) : Option (List E_Wr) :=
 if (0 : Int) ≤ ((List.length x : Nat) : Int) then if ((List.length x : Nat) : Int) ≤ ((List.length x : Nat) : Int) then if ((List.length x : Nat) : Int) * ((32 : Nat) : Int) ≤ 140737488351232 then L_laws_toWrS_3 (fun x2 => some x2) (x, (0 : Int), (List.replicate (Int.toNat ((List.length x : Nat) : Int)) z_Wr)) else none else none else none
def f75Q : List QF := [q155]
def f75e3_0 (t : Qz158) : St := ⟨v_LWr t.1 :: dd 2 (.own 10000000 :: vI t.2.1 :: dd 18 []), [(10000000, .deep false 0 186 ts_Wr t.2.2)]⟩
def f75g3 : Gk T_laws_toWrS_3 := fun κ => S_laws_toWrS_3 (fun t => κ (some 0) ⟨dd 3 (.own 10000000 :: dd 19 []), [(10000000, .deep false 0 186 ts_Wr t)]⟩)
def f75P : Lp := lpC 3 (unG qz158 f75e3_0) @f75g3 lpN
theorem f75C3 : LF f75Q f75P 75 3 Tryz.f75 0 f75e3_0 @f75g3 fun t => t := fun R κ again t => by kernel_rfl
theorem f75k3 : LK f75Q f75P 75 Tryz.f75 0 := lkN (u := (unG qz158 f75e3_0)) (unG_ok fun t => by kernel_rfl) f75C3
theorem ev75 : EV f75Q f75P 75 Tryz.f75 sg75 [(.sl 181 ts_LWr)] [(.sl 186 ts_Wr)] F_laws_toWrS := fun x => by kernel_rfl
def q75 : QF := ⟨75, F_laws_toWrS, okN (n := 1) Tryz.func75 ⟨f75k3, trivial⟩ ev75⟩
def F_laws_toDev (x : Qz159) : Option Qz111 :=
 Option.bind (F_laws_toByteSS x.1) fun r1 => Option.bind (F_laws_toWrS x.2.1) fun r2 => some (r1, r2, x.2.2.1, x.2.2.2)
theorem ev21 : EV [q74, q75] lpN 21 Tryz.f21 sg21 qz159 qz111 F_laws_toDev := fun x => by kernel_rfl
def q21 : QF := ⟨21, F_laws_toDev, okN (n := 0) Tryz.func21 trivial ev21⟩
def F_laws_toStore (x : Qz160) : Option Qz112 :=
 Option.bind (F_laws_toDev (x.1, x.2.1, x.2.2.1, x.2.2.2.1)) fun r1 => Option.bind (F_laws_toPool (x.2.2.2.2.1, x.2.2.2.2.2.1, x.2.2.2.2.2.2.1, x.2.2.2.2.2.2.2.1, x.2.2.2.2.2.2.2.2.1, x.2.2.2.2.2.2.2.2.2.1)) fun r2 => some (r1.1, r1.2.1, r1.2.2.1, r1.2.2.2, r2.1, r2.2.1, r2.2.2.1, r2.2.2.2.1, r2.2.2.2.2.1, r2.2.2.2.2.2, x.2.2.2.2.2.2.2.2.2.2.1, x.2.2.2.2.2.2.2.2.2.2.2.1, x.2.2.2.2.2.2.2.2.2.2.2.2)
theorem ev37 : EV [q12, q21] lpN 37 Tryz.f37 sg37 qz160 qz112 F_laws_toStore := fun x => by kernel_rfl
def q37 : QF := ⟨37, F_laws_toStore, okN (n := 0) Tryz.func37 trivial ev37⟩
abbrev T_impl_joined_3 : Type := Qz161
def S_impl_joined_3 (k0 : List E_u8 → Option R) (again : T_impl_joined_3 → Option R) (t3 : T_impl_joined_3) : Option R :=
 bif (decide (t3.2.2.1 < t3.2.1)) then if (0 : Int) ≤ t3.2.2.1 then if t3.2.2.1 < ((List.length t3.1 : Nat) : Int) then if (List.length t3.2.2.2 + List.length (rd_s_u8 t3.1 t3.2.2.1)) * 1 < 140737488355328 then again (t3.1, t3.2.1, (Go.IntKind.wrap .i64 (t3.2.2.1 + (1 : Int))), (t3.2.2.2 ++ (rd_s_u8 t3.1 t3.2.2.1))) else none else none else none else k0 t3.2.2.2
def L_impl_joined_3 k0 := iter (@S_impl_joined_3 R k0) FUEL
def F_impl_joined (x : List E_s_u8) : Option (List E_u8) :=
 L_impl_joined_3 (fun x1 => some x1) (x, ((List.length x : Nat) : Int), (0 : Int), ([] : List E_u8))
def f137Q : List QF := []
def f137e3_0 (t : Qz161) : St := ⟨dd 3 (.own 10000000 :: dd 3 (v_s_u8 t.1 :: vI t.2.1 :: vI t.2.2.1 :: dd 8 [])), [(10000000, .root true 5 ts_u8 t.2.2.2)]⟩
def f137g3 : Gk T_impl_joined_3 := fun κ => S_impl_joined_3 (fun t => κ (some 0) ⟨dd 3 (.own 10000000 :: dd 14 []), [(10000000, .root true 5 ts_u8 t)]⟩)
def f137P : Lp := lpC 3 (unG qz161 f137e3_0) @f137g3 lpN
theorem f137C3 : LF f137Q f137P 137 3 Tryz.f137 0 f137e3_0 @f137g3 fun t => t := fun R κ again t => by kernel_rfl
theorem f137k3 : LK f137Q f137P 137 Tryz.f137 0 := lkN (u := (unG qz161 f137e3_0)) (unG_ok fun t => by kernel_rfl) f137C3
theorem ev137 : EV f137Q f137P 137 Tryz.f137 sg137 [(.sl 32 ts_s_u8)] [(.sl 5 ts_u8)] F_impl_joined := fun x => by kernel_rfl
def q137 : QF := ⟨137, F_impl_joined, okN (n := 1) Tryz.func137 ⟨f137k3, trivial⟩ ev137⟩
abbrev T_impl_copyDev_3 : Type := Qz162 ⊕ Qz163
def S_impl_copyDev_3 (k0 : Qz103 → Option R) (k1 : Qz104 → Option R) (again : T_impl_copyDev_3 → Option R) : T_impl_copyDev_3 → Option R
 | .inl t3 => bif (decide (t3.2.2.1 < t3.2.1)) then if (0 : Int) ≤ t3.2.2.1 then if t3.2.2.1 < ((List.length t3.1 : Nat) : Int) then Option.bind (F_impl_joined ([(rd_s_u8 t3.1 t3.2.2.1)] : List E_s_u8)) fun r1 => if List.length ([r1] : List E_s_u8) * 24 < 140737488355328 then again (Sum.inr (t3.1, t3.2.1, (Go.IntKind.wrap .i64 (t3.2.2.1 + (1 : Int))), t3.2.2.2.1, t3.2.2.2.2.1, t3.2.2.2.2.2.1, t3.2.2.2.2.2.2.1, t3.2.2.2.2.2.2.2.1, t3.2.2.2.2.2.2.2.2.1, t3.2.2.2.2.2.2.2.2.2.1, t3.2.2.2.2.2.2.2.2.2.2, ([r1] : List E_s_u8))) else none else none else none else k0 (t3.2.2.2.1, t3.2.2.2.2.1, t3.2.2.2.2.2.1, t3.2.2.2.2.2.2.1, t3.2.2.2.2.2.2.2.1, t3.2.2.2.2.2.2.2.2.1, t3.2.2.2.2.2.2.2.2.2.1, t3.2.2.2.2.2.2.2.2.2.2)
 | .inr t3 => bif (decide (t3.2.2.1 < t3.2.1)) then if (0 : Int) ≤ t3.2.2.1 then if t3.2.2.1 < ((List.length t3.1 : Nat) : Int) then Option.bind (F_impl_joined ([(rd_s_u8 t3.1 t3.2.2.1)] : List E_s_u8)) fun r2 => if (List.length t3.2.2.2.2.2.2.2.2.2.2.2 + List.length ([r2] : List E_s_u8)) * 24 < 140737488355328 then again (Sum.inr (t3.1, t3.2.1, (Go.IntKind.wrap .i64 (t3.2.2.1 + (1 : Int))), t3.2.2.2.1, t3.2.2.2.2.1, t3.2.2.2.2.2.1, t3.2.2.2.2.2.2.1, t3.2.2.2.2.2.2.2.1, t3.2.2.2.2.2.2.2.2.1, t3.2.2.2.2.2.2.2.2.2.1, t3.2.2.2.2.2.2.2.2.2.2.1, (t3.2.2.2.2.2.2.2.2.2.2.2 ++ ([r2] : List E_s_u8)))) else none else none else none else k1 (t3.2.2.2.1, t3.2.2.2.2.1, t3.2.2.2.2.2.1, t3.2.2.2.2.2.2.1, t3.2.2.2.2.2.2.2.1, t3.2.2.2.2.2.2.2.2.1, t3.2.2.2.2.2.2.2.2.2.1, t3.2.2.2.2.2.2.2.2.2.2.1, t3.2.2.2.2.2.2.2.2.2.2.2)
def L_impl_copyDev_3 k0 k1 := iter (@S_impl_copyDev_3 R k0 k1) FUEL
abbrev T_impl_copyDev_8 : Type := Qz164 ⊕ Qz165 ⊕ Qz166 ⊕ Qz167
def S_impl_copyDev_8 (k0 : Qz107 → Option R) (k1 : Qz108 → Option R) (k2 : Qz109 → Option R) (k3 : Qz110 → Option R) (again : T_impl_copyDev_8 → Option R) : T_impl_copyDev_8 → Option R
 | .inl t8 => bif (decide (t8.2.2.1 < t8.2.1)) then if (0 : Int) ≤ t8.2.2.1 then if t8.2.2.1 < ((List.length t8.1 : Nat) : Int) then Option.bind (F_impl_joined ([(rd_Wr t8.1 t8.2.2.1).2] : List E_s_u8)) fun r13 => if List.length ([((rd_Wr t8.1 t8.2.2.1).1, r13)] : List E_Wr) * 32 < 140737488355328 then again (Sum.inr (Sum.inl (t8.1, t8.2.1, (Go.IntKind.wrap .i64 (t8.2.2.1 + (1 : Int))), t8.2.2.2.1, t8.2.2.2.2.1, t8.2.2.2.2.2.1, t8.2.2.2.2.2.2, ([((rd_Wr t8.1 t8.2.2.1).1, r13)] : List E_Wr)))) else none else none else none else k0 (t8.2.2.2.1, t8.2.2.2.2.1, t8.2.2.2.2.2.1, t8.2.2.2.2.2.2)
 | .inr (.inl t8) => bif (decide (t8.2.2.1 < t8.2.1)) then if (0 : Int) ≤ t8.2.2.1 then if t8.2.2.1 < ((List.length t8.1 : Nat) : Int) then Option.bind (F_impl_joined ([(rd_Wr t8.1 t8.2.2.1).2] : List E_s_u8)) fun r14 => if (List.length t8.2.2.2.2.2.2.2 + List.length ([((rd_Wr t8.1 t8.2.2.1).1, r14)] : List E_Wr)) * 32 < 140737488355328 then again (Sum.inr (Sum.inl (t8.1, t8.2.1, (Go.IntKind.wrap .i64 (t8.2.2.1 + (1 : Int))), t8.2.2.2.1, t8.2.2.2.2.1, t8.2.2.2.2.2.1, t8.2.2.2.2.2.2.1, (t8.2.2.2.2.2.2.2 ++ ([((rd_Wr t8.1 t8.2.2.1).1, r14)] : List E_Wr))))) else none else none else none else k1 (t8.2.2.2.1, t8.2.2.2.2.1, t8.2.2.2.2.2.1, t8.2.2.2.2.2.2.1, t8.2.2.2.2.2.2.2)
 | .inr (.inr (.inl t8)) => bif (decide (t8.2.2.1 < t8.2.1)) then if (0 : Int) ≤ t8.2.2.1 then if t8.2.2.1 < ((List.length t8.1 : Nat) : Int) then Option.bind (F_impl_joined ([(rd_Wr t8.1 t8.2.2.1).2] : List E_s_u8)) fun r15 => if List.length ([((rd_Wr t8.1 t8.2.2.1).1, r15)] : List E_Wr) * 32 < 140737488355328 then again (Sum.inr (Sum.inr (Sum.inr (t8.1, t8.2.1, (Go.IntKind.wrap .i64 (t8.2.2.1 + (1 : Int))), t8.2.2.2.1, t8.2.2.2.2.1, t8.2.2.2.2.2.1, t8.2.2.2.2.2.2.1, t8.2.2.2.2.2.2.2, ([((rd_Wr t8.1 t8.2.2.1).1, r15)] : List E_Wr))))) else none else none else none else k2 (t8.2.2.2.1, t8.2.2.2.2.1, t8.2.2.2.2.2.1, t8.2.2.2.2.2.2.1, t8.2.2.2.2.2.2.2)
 | .inr (.inr (.inr t8)) => bif (decide (t8.2.2.1 < t8.2.1)) then if (0 : Int) ≤ t8.2.2.1 then if t8.2.2.1 < ((List.length t8.1 : Nat) : Int) then Option.bind (F_impl_joined ([(rd_Wr t8.1 t8.2.2.1).2] : List E_s_u8)) fun r16 => if (List.length t8.2.2.2.2.2.2.2.2 + List.length ([((rd_Wr t8.1 t8.2.2.1).1, r16)] : List E_Wr)) * 32 < 140737488355328 then again (Sum.inr (Sum.inr (Sum.inr (t8.1, t8.2.1, (Go.IntKind.wrap .i64 (t8.2.2.1 + (1 : Int))), t8.2.2.2.1, t8.2.2.2.2.1, t8.2.2.2.2.2.1, t8.2.2.2.2.2.2.1, t8.2.2.2.2.2.2.2.1, (t8.2.2.2.2.2.2.2.2 ++ ([((rd_Wr t8.1 t8.2.2.1).1, r16)] : List E_Wr)))))) else none else none else none else k3 (t8.2.2.2.1, t8.2.2.2.2.1, t8.2.2.2.2.2.1, t8.2.2.2.2.2.2.1, t8.2.2.2.2.2.2.2.1, t8.2.2.2.2.2.2.2.2)
def L_impl_copyDev_8 k0 k1 k2 k3 := iter (@S_impl_copyDev_8 R k0 k1 k2 k3) FUEL
def F_impl_copyDev (x : Qz111) : Option Qz111 :=
 L_impl_copyDev_3 (fun x3 => L_impl_copyDev_8 (fun x8 => some (([] : List E_s_u8), ([] : List E_Wr), x8.2.2.1, x8.2.2.2)) (fun x9 => some (([] : List E_s_u8), x9.2.2.2.2, x9.2.2.1, x9.2.2.2.1)) (fun x10 => some (x10.2.2.2.2, ([] : List E_Wr), x10.2.2.1, x10.2.2.2.1)) (fun x11 => some (x11.2.2.2.2.1, x11.2.2.2.2.2, x11.2.2.1, x11.2.2.2.1)) (Sum.inl (x3.2.1, ((List.length x3.2.1 : Nat) : Int), (0 : Int), x3.2.2.2.2.1, x3.2.2.2.2.2.1, x3.2.2.2.2.2.2.1, x3.2.2.2.2.2.2.2))) (fun x12 => L_impl_copyDev_8 (fun x17 => some (([] : List E_s_u8), ([] : List E_Wr), x17.2.2.1, x17.2.2.2)) (fun x18 => some (([] : List E_s_u8), x18.2.2.2.2, x18.2.2.1, x18.2.2.2.1)) (fun x19 => some (x19.2.2.2.2, ([] : List E_Wr), x19.2.2.1, x19.2.2.2.1)) (fun x20 => some (x20.2.2.2.2.1, x20.2.2.2.2.2, x20.2.2.1, x20.2.2.2.1)) (Sum.inr (Sum.inr (Sum.inl (x12.2.1, ((List.length x12.2.1 : Nat) : Int), (0 : Int), x12.2.2.2.2.1, x12.2.2.2.2.2.1, x12.2.2.2.2.2.2.1, x12.2.2.2.2.2.2.2.1, x12.2.2.2.2.2.2.2.2))))) (Sum.inl (x.1, ((List.length x.1 : Nat) : Int), (0 : Int), x.1, x.2.1, x.2.2.1, x.2.2.2, (0 : Int), false, x.2.2.1, x.2.2.2))
def f178Q : List QF := [q137]
def f178e3_0 (t : Qz162) : St := ⟨.dead :: .box 1 0 :: .box 2 0 :: .box 3 0 :: dd 10 (v_s_u8 t.1 :: vI t.2.1 :: vI t.2.2.1 :: dd 33 []), [(1, .box [v_s_u8 t.2.2.2.1, v_Wr t.2.2.2.2.1, vI t.2.2.2.2.2.1, vB t.2.2.2.2.2.2.1]), (2, .box [.nils, .nils, vI t.2.2.2.2.2.2.2.1, vB t.2.2.2.2.2.2.2.2.1]), (3, .box [.nils, .nils, vI t.2.2.2.2.2.2.2.2.2.1, vB t.2.2.2.2.2.2.2.2.2.2])]⟩
theorem f178v3_0 : ∀ s t, unG qz162 f178e3_0 s = some t → f178e3_0 t = s := unG_ok fun t => by kernel_rfl
def f178e3_1 (t : Qz163) : St := ⟨.dead :: .box 1 0 :: .box 2 0 :: .box 3 0 :: dd 10 (v_s_u8 t.1 :: vI t.2.1 :: vI t.2.2.1 :: dd 33 []), [(1, .box [v_s_u8 t.2.2.2.1, v_Wr t.2.2.2.2.1, vI t.2.2.2.2.2.1, vB t.2.2.2.2.2.2.1]), (2, .box [.nils, .nils, vI t.2.2.2.2.2.2.2.1, vB t.2.2.2.2.2.2.2.2.1]), (3, .box [.own 10000000, .nils, vI t.2.2.2.2.2.2.2.2.2.1, vB t.2.2.2.2.2.2.2.2.2.2.1]), (10000000, .deep true 0 32 ts_s_u8 t.2.2.2.2.2.2.2.2.2.2.2)]⟩
theorem f178v3_1 : ∀ s t, unG qz163 f178e3_1 s = some t → f178e3_1 t = s := unG_ok fun t => by kernel_rfl
def f178e3r0 : (Qz162 ⊕ Qz163) → St := Sum.elim f178e3_0 f178e3_1
def f178u3r0 (s : St) : Option (Qz162 ⊕ Qz163) := ((unG qz162 f178e3_0 s).map Sum.inl).or (((unG qz163 f178e3_1) s).map Sum.inr)
theorem f178v3r0 : ∀ s t, f178u3r0 s = some t → f178e3r0 t = s := or_un f178v3_0 f178v3_1
def f178g3 : Gk T_impl_copyDev_3 := fun κ => S_impl_copyDev_3 (fun t => κ (some 0) ⟨.dead :: .box 1 0 :: .box 2 0 :: .box 3 0 :: dd 46 [], [(1, .box [v_s_u8 t.1, v_Wr t.2.1, vI t.2.2.1, vB t.2.2.2.1]), (2, .box [.nils, .nils, vI t.2.2.2.2.1, vB t.2.2.2.2.2.1]), (3, .box [.nils, .nils, vI t.2.2.2.2.2.2.1, vB t.2.2.2.2.2.2.2])]⟩) (fun t => κ (some 0) ⟨.dead :: .box 1 0 :: .box 2 0 :: .box 3 0 :: dd 46 [], [(1, .box [v_s_u8 t.1, v_Wr t.2.1, vI t.2.2.1, vB t.2.2.2.1]), (2, .box [.nils, .nils, vI t.2.2.2.2.1, vB t.2.2.2.2.2.1]), (3, .box [.own 10000000, .nils, vI t.2.2.2.2.2.2.1, vB t.2.2.2.2.2.2.2.1]), (10000000, .deep true 0 32 ts_s_u8 t.2.2.2.2.2.2.2.2)]⟩)
def f178e8_0 (t : Qz164) : St := ⟨dd 2 (.box 2 0 :: .box 3 0 :: dd 26 (v_Wr t.1 :: vI t.2.1 :: vI t.2.2.1 :: dd 17 [])), [(2, .box [.nils, .nils, vI t.2.2.2.1, vB t.2.2.2.2.1]), (3, .box [.nils, .nils, vI t.2.2.2.2.2.1, vB t.2.2.2.2.2.2])]⟩
theorem f178v8_0 : ∀ s t, unG qz164 f178e8_0 s = some t → f178e8_0 t = s := unG_ok fun t => by kernel_rfl
def f178e8_1 (t : Qz165) : St := ⟨dd 2 (.box 2 0 :: .box 3 0 :: dd 26 (v_Wr t.1 :: vI t.2.1 :: vI t.2.2.1 :: dd 17 [])), [(2, .box [.nils, .nils, vI t.2.2.2.1, vB t.2.2.2.2.1]), (3, .box [.nils, .own 10000000, vI t.2.2.2.2.2.1, vB t.2.2.2.2.2.2.1]), (10000000, .deep true 0 186 ts_Wr t.2.2.2.2.2.2.2)]⟩
theorem f178v8_1 : ∀ s t, unG qz165 f178e8_1 s = some t → f178e8_1 t = s := unG_ok fun t => by kernel_rfl
def f178e8_2 (t : Qz166) : St := ⟨dd 2 (.box 2 0 :: .box 3 0 :: dd 26 (v_Wr t.1 :: vI t.2.1 :: vI t.2.2.1 :: dd 17 [])), [(2, .box [.nils, .nils, vI t.2.2.2.1, vB t.2.2.2.2.1]), (3, .box [.own 10000000, .nils, vI t.2.2.2.2.2.1, vB t.2.2.2.2.2.2.1]), (10000000, .deep true 0 32 ts_s_u8 t.2.2.2.2.2.2.2)]⟩
theorem f178v8_2 : ∀ s t, unG qz166 f178e8_2 s = some t → f178e8_2 t = s := unG_ok fun t => by kernel_rfl
def f178e8_3 (t : Qz167) : St := ⟨dd 2 (.box 2 0 :: .box 3 0 :: dd 26 (v_Wr t.1 :: vI t.2.1 :: vI t.2.2.1 :: dd 17 [])), [(2, .box [.nils, .nils, vI t.2.2.2.1, vB t.2.2.2.2.1]), (3, .box [.own 10000000, .own 10000001, vI t.2.2.2.2.2.1, vB t.2.2.2.2.2.2.1]), (10000000, .deep true 0 32 ts_s_u8 t.2.2.2.2.2.2.2.1), (10000001, .deep true 0 186 ts_Wr t.2.2.2.2.2.2.2.2)]⟩
theorem f178v8_3 : ∀ s t, unG qz167 f178e8_3 s = some t → f178e8_3 t = s := unG_ok fun t => by kernel_rfl
def f178e8r2 : (Qz166 ⊕ Qz167) → St := Sum.elim f178e8_2 f178e8_3
def f178u8r2 (s : St) : Option (Qz166 ⊕ Qz167) := ((unG qz166 f178e8_2 s).map Sum.inl).or (((unG qz167 f178e8_3) s).map Sum.inr)
theorem f178v8r2 : ∀ s t, f178u8r2 s = some t → f178e8r2 t = s := or_un f178v8_2 f178v8_3
def f178e8r1 : (Qz165 ⊕ Qz166 ⊕ Qz167) → St := Sum.elim f178e8_1 f178e8r2
def f178u8r1 (s : St) : Option (Qz165 ⊕ Qz166 ⊕ Qz167) := ((unG qz165 f178e8_1 s).map Sum.inl).or ((f178u8r2 s).map Sum.inr)
theorem f178v8r1 : ∀ s t, f178u8r1 s = some t → f178e8r1 t = s := or_un f178v8_1 f178v8r2
def f178e8r0 : (Qz164 ⊕ Qz165 ⊕ Qz166 ⊕ Qz167) → St := Sum.elim f178e8_0 f178e8r1
def f178u8r0 (s : St) : Option (Qz164 ⊕ Qz165 ⊕ Qz166 ⊕ Qz167) := ((unG qz164 f178e8_0 s).map Sum.inl).or ((f178u8r1 s).map Sum.inr)
theorem f178v8r0 : ∀ s t, f178u8r0 s = some t → f178e8r0 t = s := or_un f178v8_0 f178v8r1
def f178g8 : Gk T_impl_copyDev_8 := fun κ => S_impl_copyDev_8 (fun t => κ (some 2) ⟨dd 2 (.box 2 0 :: .box 3 0 :: dd 46 []), [(2, .box [.nils, .nils, vI t.1, vB t.2.1]), (3, .box [.nils, .nils, vI t.2.2.1, vB t.2.2.2])]⟩) (fun t => κ (some 2) ⟨dd 2 (.box 2 0 :: .box 3 0 :: dd 46 []), [(2, .box [.nils, .nils, vI t.1, vB t.2.1]), (3, .box [.nils, .own 10000000, vI t.2.2.1, vB t.2.2.2.1]), (10000000, .deep true 0 186 ts_Wr t.2.2.2.2)]⟩) (fun t => κ (some 2) ⟨dd 2 (.box 2 0 :: .box 3 0 :: dd 46 []), [(2, .box [.nils, .nils, vI t.1, vB t.2.1]), (3, .box [.own 10000000, .nils, vI t.2.2.1, vB t.2.2.2.1]), (10000000, .deep true 0 32 ts_s_u8 t.2.2.2.2)]⟩) (fun t => κ (some 2) ⟨dd 2 (.box 2 0 :: .box 3 0 :: dd 46 []), [(2, .box [.nils, .nils, vI t.1, vB t.2.1]), (3, .box [.own 10000000, .own 10000001, vI t.2.2.1, vB t.2.2.2.1]), (10000000, .deep true 0 32 ts_s_u8 t.2.2.2.2.1), (10000001, .deep true 0 186 ts_Wr t.2.2.2.2.2)]⟩)
def f178P : Lp := lpC 8 f178u8r0 @f178g8 (lpC 3 f178u3r0 @f178g3 lpN)
theorem f178C3_0 : LF f178Q f178P 178 3 Tryz.f178 0 f178e3r0 @f178g3 fun v : Qz162 => .inl v := fun R κ again v => by kernel_rfl
theorem f178C3_1 : LF f178Q f178P 178 3 Tryz.f178 0 f178e3r0 @f178g3 fun v : Qz163 => .inr v := fun R κ again v => by kernel_rfl
theorem f178C3 : LF f178Q f178P 178 3 Tryz.f178 0 f178e3r0 @f178g3 fun t => t := (LC.sum f178C3_0 f178C3_1)
theorem f178k3 : LK f178Q f178P 178 Tryz.f178 0 := lkN (u := f178u3r0) f178v3r0 f178C3
theorem f178C8_0 : LF f178Q f178P 178 8 Tryz.f178 1 f178e8r0 @f178g8 fun v : Qz164 => .inl v := fun R κ again v => by kernel_rfl
theorem f178C8_1 : LF f178Q f178P 178 8 Tryz.f178 1 f178e8r0 @f178g8 fun v : Qz165 => .inr (.inl v) := fun R κ again v => by kernel_rfl
theorem f178C8_2 : LF f178Q f178P 178 8 Tryz.f178 1 f178e8r0 @f178g8 fun v : Qz166 => .inr (.inr (.inl v)) := fun R κ again v => by kernel_rfl
theorem f178C8_3 : LF f178Q f178P 178 8 Tryz.f178 1 f178e8r0 @f178g8 fun v : Qz167 => .inr (.inr (.inr v)) := fun R κ again v => by kernel_rfl
theorem f178C8 : LF f178Q f178P 178 8 Tryz.f178 1 f178e8r0 @f178g8 fun t => t := (LC.sum f178C8_0 (LC.sum f178C8_1 (LC.sum f178C8_2 f178C8_3)))
theorem f178k8 : LK f178Q f178P 178 Tryz.f178 1 := lkN (u := f178u8r0) f178v8r0 f178C8
theorem ev178 : EV f178Q f178P 178 Tryz.f178 sg178 qz111 qz111 F_impl_copyDev := fun x => by kernel_rfl
def q178 : QF := ⟨178, F_impl_copyDev, okN (n := 2) Tryz.func178 ⟨f178k3, f178k8, trivial⟩ ev178⟩
def F_impl_copyInts (x : List E_i64) : Option (List E_i64) :=
 if (List.length ([] : List E_i64) + List.length x) * 8 < 140737488355328 then some (([] : List E_i64) ++ x) else none
theorem ev256 : EV [] lpN 256 Tryz.f256 sg256 [(.sl 3 ts_i64)] [(.sl 3 ts_i64)] F_impl_copyInts := fun x => by kernel_rfl
def q256 : QF := ⟨256, F_impl_copyInts, okN (n := 0) Tryz.func256 trivial ev256⟩
def F_impl_copyKeys (x : List E_Key) : Option (List E_Key) :=
 if (List.length ([] : List E_Key) + List.length x) * 40 < 140737488355328 then some (([] : List E_Key) ++ x) else none
theorem ev280 : EV [] lpN 280 Tryz.f280 sg280 [(.sl 106 ts_Key)] [(.sl 106 ts_Key)] F_impl_copyKeys := fun x => by kernel_rfl
def q280 : QF := ⟨280, F_impl_copyKeys, okN (n := 0) Tryz.func280 trivial ev280⟩
abbrev T_impl_copyNode_3 : Type := Qz71 ⊕ Qz168
def S_impl_copyNode_3 (k0 : Unit → Option R) (k1 : List E_s_Key → Option R) (again : T_impl_copyNode_3 → Option R) : T_impl_copyNode_3 → Option R
 | .inl t3 => bif (decide (t3.2.2 < t3.2.1)) then if (0 : Int) ≤ t3.2.2 then if t3.2.2 < ((List.length t3.1 : Nat) : Int) then Option.bind (F_impl_copyKeys (rd_s_Key t3.1 t3.2.2)) fun r1 => if List.length ([r1] : List E_s_Key) * 24 < 140737488355328 then again (Sum.inr (t3.1, t3.2.1, (Go.IntKind.wrap .i64 (t3.2.2 + (1 : Int))), ([r1] : List E_s_Key))) else none else none else none else k0 ()
 | .inr t3 => bif (decide (t3.2.2.1 < t3.2.1)) then if (0 : Int) ≤ t3.2.2.1 then if t3.2.2.1 < ((List.length t3.1 : Nat) : Int) then Option.bind (F_impl_copyKeys (rd_s_Key t3.1 t3.2.2.1)) fun r2 => if (List.length t3.2.2.2 + List.length ([r2] : List E_s_Key)) * 24 < 140737488355328 then again (Sum.inr (t3.1, t3.2.1, (Go.IntKind.wrap .i64 (t3.2.2.1 + (1 : Int))), (t3.2.2.2 ++ ([r2] : List E_s_Key)))) else none else none else none else k1 t3.2.2.2
def L_impl_copyNode_3 k0 k1 := iter (@S_impl_copyNode_3 R k0 k1) FUEL
def F_impl_copyNode (x : List E_s_Key) : Option (List E_s_Key) :=
 L_impl_copyNode_3 (fun x3 => some ([] : List E_s_Key)) (fun x4 => some x4) (Sum.inl (x, ((List.length x : Nat) : Int), (0 : Int)))
def f257Q : List QF := [q280]
def f257e3_0 (t : Qz71) : St := ⟨dd 2 (.box 2 0 :: .box 3 0 :: dd 4 (v_s_Key t.1 :: vI t.2.1 :: vI t.2.2 :: dd 12 [])), [(2, .box [.nils]), (3, .box [.nils])]⟩
theorem f257v3_0 : ∀ s t, unG qz71 f257e3_0 s = some t → f257e3_0 t = s := unG_ok fun t => by kernel_rfl
def f257e3_1 (t : Qz168) : St := ⟨dd 2 (.box 2 0 :: .box 3 0 :: dd 4 (v_s_Key t.1 :: vI t.2.1 :: vI t.2.2.1 :: dd 12 [])), [(2, .box [.nils]), (3, .box [.own 10000000]), (10000000, .deep true 0 100 ts_s_Key t.2.2.2)]⟩
theorem f257v3_1 : ∀ s t, unG qz168 f257e3_1 s = some t → f257e3_1 t = s := unG_ok fun t => by kernel_rfl
def f257e3r0 : (Qz71 ⊕ Qz168) → St := Sum.elim f257e3_0 f257e3_1
def f257u3r0 (s : St) : Option (Qz71 ⊕ Qz168) := ((unG qz71 f257e3_0 s).map Sum.inl).or (((unG qz168 f257e3_1) s).map Sum.inr)
theorem f257v3r0 : ∀ s t, f257u3r0 s = some t → f257e3r0 t = s := or_un f257v3_0 f257v3_1
def f257g3 : Gk T_impl_copyNode_3 := fun κ => S_impl_copyNode_3 (fun t => κ (some 0) ⟨dd 2 (.box 2 0 :: .box 3 0 :: dd 19 []), [(2, .box [.nils]), (3, .box [.nils])]⟩) (fun t => κ (some 0) ⟨dd 2 (.box 2 0 :: .box 3 0 :: dd 19 []), [(2, .box [.nils]), (3, .box [.own 10000000]), (10000000, .deep true 0 100 ts_s_Key t)]⟩)
def f257P : Lp := lpC 3 f257u3r0 @f257g3 lpN
theorem f257C3_0 : LF f257Q f257P 257 3 Tryz.f257 0 f257e3r0 @f257g3 fun v : Qz71 => .inl v := fun R κ again v => by kernel_rfl
theorem f257C3_1 : LF f257Q f257P 257 3 Tryz.f257 0 f257e3r0 @f257g3 fun v : Qz168 => .inr v := fun R κ again v => by kernel_rfl
theorem f257C3 : LF f257Q f257P 257 3 Tryz.f257 0 f257e3r0 @f257g3 fun t => t := (LC.sum f257C3_0 f257C3_1)
theorem f257k3 : LK f257Q f257P 257 Tryz.f257 0 := lkN (u := f257u3r0) f257v3r0 f257C3
theorem ev257 : EV f257Q f257P 257 Tryz.f257 sg257 [(.sl 100 ts_s_Key)] [(.sl 100 ts_s_Key)] F_impl_copyNode := fun x => by kernel_rfl
def q257 : QF := ⟨257, F_impl_copyNode, okN (n := 1) Tryz.func257 ⟨f257k3, trivial⟩ ev257⟩
abbrev T_impl_copyTree_3 : Type := Qz169 ⊕ Qz170
def S_impl_copyTree_3 (k0 : List E_i64 → Option R) (k1 : Qz99 → Option R) (again : T_impl_copyTree_3 → Option R) : T_impl_copyTree_3 → Option R
 | .inl t3 => bif (decide (t3.2.2.1 < t3.2.1)) then if (0 : Int) ≤ t3.2.2.1 then if t3.2.2.1 < ((List.length t3.1 : Nat) : Int) then Option.bind (F_impl_copyNode (rd_Node t3.1 t3.2.2.1)) fun r2 => if List.length ([r2] : List E_Node) * 24 < 140737488355328 then again (Sum.inr (t3.1, t3.2.1, (Go.IntKind.wrap .i64 (t3.2.2.1 + (1 : Int))), t3.2.2.2, ([r2] : List E_Node))) else none else none else none else k0 t3.2.2.2
 | .inr t3 => bif (decide (t3.2.2.1 < t3.2.1)) then if (0 : Int) ≤ t3.2.2.1 then if t3.2.2.1 < ((List.length t3.1 : Nat) : Int) then Option.bind (F_impl_copyNode (rd_Node t3.1 t3.2.2.1)) fun r3 => if (List.length t3.2.2.2.2 + List.length ([r3] : List E_Node)) * 24 < 140737488355328 then again (Sum.inr (t3.1, t3.2.1, (Go.IntKind.wrap .i64 (t3.2.2.1 + (1 : Int))), t3.2.2.2.1, (t3.2.2.2.2 ++ ([r3] : List E_Node)))) else none else none else none else k1 (t3.2.2.2.1, t3.2.2.2.2)
def L_impl_copyTree_3 k0 k1 := iter (@S_impl_copyTree_3 R k0 k1) FUEL
def F_impl_copyTree (x : Qz99) : Option Qz99 :=
 Option.bind (F_impl_copyInts x.1) fun r1 => L_impl_copyTree_3 (fun x4 => some (x4, ([] : List E_Node))) (fun x5 => some (x5.1, x5.2)) (Sum.inl (x.2, ((List.length x.2 : Nat) : Int), (0 : Int), r1))
def f223Q : List QF := [q256, q257]
def f223e3_0 (t : Qz169) : St := ⟨dd 2 (.box 2 0 :: .box 3 0 :: dd 7 (v_Node t.1 :: vI t.2.1 :: vI t.2.2.1 :: dd 12 [])), [(2, .box [.nils, .nils]), (3, .box [.own 10000000, .nils]), (10000000, .root true 3 ts_i64 t.2.2.2)]⟩
theorem f223v3_0 : ∀ s t, unG qz169 f223e3_0 s = some t → f223e3_0 t = s := unG_ok fun t => by kernel_rfl
def f223e3_1 (t : Qz170) : St := ⟨dd 2 (.box 2 0 :: .box 3 0 :: dd 7 (v_Node t.1 :: vI t.2.1 :: vI t.2.2.1 :: dd 12 [])), [(2, .box [.nils, .nils]), (3, .box [.own 10000000, .own 10000001]), (10000000, .root true 3 ts_i64 t.2.2.2.1), (10000001, .deep true 0 98 ts_Node t.2.2.2.2)]⟩
theorem f223v3_1 : ∀ s t, unG qz170 f223e3_1 s = some t → f223e3_1 t = s := unG_ok fun t => by kernel_rfl
def f223e3r0 : (Qz169 ⊕ Qz170) → St := Sum.elim f223e3_0 f223e3_1
def f223u3r0 (s : St) : Option (Qz169 ⊕ Qz170) := ((unG qz169 f223e3_0 s).map Sum.inl).or (((unG qz170 f223e3_1) s).map Sum.inr)
theorem f223v3r0 : ∀ s t, f223u3r0 s = some t → f223e3r0 t = s := or_un f223v3_0 f223v3_1
def f223g3 : Gk T_impl_copyTree_3 := fun κ => S_impl_copyTree_3 (fun t => κ (some 0) ⟨dd 2 (.box 2 0 :: .box 3 0 :: dd 22 []), [(2, .box [.nils, .nils]), (3, .box [.own 10000000, .nils]), (10000000, .root true 3 ts_i64 t)]⟩) (fun t => κ (some 0) ⟨dd 2 (.box 2 0 :: .box 3 0 :: dd 22 []), [(2, .box [.nils, .nils]), (3, .box [.own 10000000, .own 10000001]), (10000000, .root true 3 ts_i64 t.1), (10000001, .deep true 0 98 ts_Node t.2)]⟩)
def f223P : Lp := lpC 3 f223u3r0 @f223g3 lpN
theorem f223C3_0 : LF f223Q f223P 223 3 Tryz.f223 0 f223e3r0 @f223g3 fun v : Qz169 => .inl v := fun R κ again v => by kernel_rfl
theorem f223C3_1 : LF f223Q f223P 223 3 Tryz.f223 0 f223e3r0 @f223g3 fun v : Qz170 => .inr v := fun R κ again v => by kernel_rfl
theorem f223C3 : LF f223Q f223P 223 3 Tryz.f223 0 f223e3r0 @f223g3 fun t => t := (LC.sum f223C3_0 f223C3_1)
theorem f223k3 : LK f223Q f223P 223 Tryz.f223 0 := lkN (u := f223u3r0) f223v3r0 f223C3
theorem ev223 : EV f223Q f223P 223 Tryz.f223 sg223 qz99 qz99 F_impl_copyTree := fun x => by kernel_rfl
def q223 : QF := ⟨223, F_impl_copyTree, okN (n := 1) Tryz.func223 ⟨f223k3, trivial⟩ ev223⟩
def F_impl_copyAges (x : List E_Age) : Option (List E_Age) :=
 if (List.length ([] : List E_Age) + List.length x) * 16 < 140737488355328 then some (([] : List E_Age) ++ x) else none
theorem ev224 : EV [] lpN 224 Tryz.f224 sg224 [(.sl 89 ts_Age)] [(.sl 89 ts_Age)] F_impl_copyAges := fun x => by kernel_rfl
def q224 : QF := ⟨224, F_impl_copyAges, okN (n := 0) Tryz.func224 trivial ev224⟩
def F_impl_copyCells (x : List E_Cell) : Option (List E_Cell) :=
 if (List.length ([] : List E_Cell) + List.length x) * 24 < 140737488355328 then some (([] : List E_Cell) ++ x) else none
theorem ev225 : EV [] lpN 225 Tryz.f225 sg225 [(.sl 95 ts_Cell)] [(.sl 95 ts_Cell)] F_impl_copyCells := fun x => by kernel_rfl
def q225 : QF := ⟨225, F_impl_copyCells, okN (n := 0) Tryz.func225 trivial ev225⟩
def F_impl_copyPool (x : Qz100) : Option Qz100 :=
 Option.bind (F_impl_copyTree (x.1, x.2.1)) fun r1 => Option.bind (F_impl_copyAges x.2.2.1) fun r2 => Option.bind (F_impl_copyCells x.2.2.2.1) fun r3 => if (List.length ([] : List E_Vol) + List.length x.2.2.2.2.1) * 40 < 140737488355328 then some (r1.1, r1.2, r2, r3, (([] : List E_Vol) ++ x.2.2.2.2.1), x.2.2.2.2.2) else none
theorem ev179 : EV [q223, q224, q225] lpN 179 Tryz.f179 sg179 qz100 qz100 F_impl_copyPool := fun x => by kernel_rfl
def q179 : QF := ⟨179, F_impl_copyPool, okN (n := 0) Tryz.func179 trivial ev179⟩
def F_impl_copyStore (x : Qz112) : Option Qz112 :=
 Option.bind (F_impl_copyDev (x.1, x.2.1, x.2.2.1, x.2.2.2.1)) fun r1 => Option.bind (F_impl_copyPool (x.2.2.2.2.1, x.2.2.2.2.2.1, x.2.2.2.2.2.2.1, x.2.2.2.2.2.2.2.1, x.2.2.2.2.2.2.2.2.1, x.2.2.2.2.2.2.2.2.2.1)) fun r2 => some (r1.1, r1.2.1, r1.2.2.1, r1.2.2.2, r2.1, r2.2.1, r2.2.2.1, r2.2.2.2.1, r2.2.2.2.2.1, r2.2.2.2.2.2, x.2.2.2.2.2.2.2.2.2.2.1, x.2.2.2.2.2.2.2.2.2.2.2.1, x.2.2.2.2.2.2.2.2.2.2.2.2)
theorem ev103 : EV [q178, q179] lpN 103 Tryz.f103 sg103 qz112 qz112 F_impl_copyStore := fun x => by kernel_rfl
def q103 : QF := ⟨103, F_impl_copyStore, okN (n := 0) Tryz.func103 trivial ev103⟩
def F_impl_within (x : Qz113) : Option Bool :=
 Option.bind (bif (decide (x.1 ≥ x.2.1)) then some (decide (x.1 ≤ x.2.2)) else some false) fun u1 => some u1
theorem ev134 : EV [] lpN 134 Tryz.f134 sg134 qz113 [.bool] F_impl_within := fun x => by kernel_rfl
def q134 : QF := ⟨134, F_impl_within, okN (n := 0) Tryz.func134 trivial ev134⟩
def F_impl_KeyOk (x : Qz120) : Option Bool :=
 Option.bind (F_impl_within (x.1, (0 : Int), (15 : Int))) fun r1 => Option.bind (bif (!r1) then some true else Option.bind (F_impl_within (x.2.1, (1 : Int), (60 : Int))) fun r3 => some (!r3)) fun u2 => Option.bind (bif u2 then some true else Option.bind (F_impl_within (x.2.2.1, (0 : Int), (2 : Int))) fun r5 => some (!r5)) fun u4 => bif u4 then some false else bif (x.2.2.1 != (1 : Int)) then Option.bind (bif (x.2.2.2.1 == (0 : Int)) then some (x.2.2.2.2 == (0 : Int)) else some false) fun u6 => some u6 else Option.bind (F_impl_within (x.2.2.2.1, (0 : Int), (23 : Int))) fun r7 => Option.bind (bif r7 then Option.bind (F_impl_within (x.2.2.2.2, (0 : Int), (999 : Int))) fun r9 => some r9 else some false) fun u8 => some u8
theorem ev138 : EV [q134] lpN 138 Tryz.f138 sg138 qz120 [.bool] F_impl_KeyOk := fun x => by kernel_rfl
def q138 : QF := ⟨138, F_impl_KeyOk, okN (n := 0) Tryz.func138 trivial ev138⟩
def F_impl_LessKey (x : Qz2) : Option Bool :=
 Option.bind (bif (decide (x.1 < x.2.2.2.2.2.1)) then some true else Option.bind (bif (x.1 == x.2.2.2.2.2.1) then some (decide (x.2.1 < x.2.2.2.2.2.2.1)) else some false) fun u2 => some u2) fun u1 => some u1
theorem ev279 : EV [] lpN 279 Tryz.f279 sg279 qz2 [.bool] F_impl_LessKey := fun x => by kernel_rfl
def q279 : QF := ⟨279, F_impl_LessKey, okN (n := 0) Tryz.func279 trivial ev279⟩
abbrev T_impl_SetOk_2 : Type := Qz171
def S_impl_SetOk_2 (k0 : Qz121 → Option R) (k1 : List E_Key → Option R) (again : T_impl_SetOk_2 → Option R) (t2 : T_impl_SetOk_2) : Option R :=
 bif (decide (t2.2.2.2 < t2.2.2.1)) then if (0 : Int) ≤ t2.2.2.2 then if t2.2.2.2 < ((List.length t2.2.1 : Nat) : Int) then Option.bind (F_impl_KeyOk ((rd_Key t2.2.1 t2.2.2.2).1, (rd_Key t2.2.1 t2.2.2.2).2.1, (rd_Key t2.2.1 t2.2.2.2).2.2.1, (rd_Key t2.2.1 t2.2.2.2).2.2.2.1, (rd_Key t2.2.1 t2.2.2.2).2.2.2.2)) fun r1 => Option.bind (bif (!r1) then some true else Option.bind (bif (decide (t2.2.2.2 > (0 : Int))) then if (0 : Int) ≤ (Go.IntKind.wrap .i64 (t2.2.2.2 - (1 : Int))) then if (Go.IntKind.wrap .i64 (t2.2.2.2 - (1 : Int))) < ((List.length t2.1 : Nat) : Int) then Option.bind (F_impl_LessKey ((rd_Key t2.1 (Go.IntKind.wrap .i64 (t2.2.2.2 - (1 : Int)))).1, (rd_Key t2.1 (Go.IntKind.wrap .i64 (t2.2.2.2 - (1 : Int)))).2.1, (rd_Key t2.1 (Go.IntKind.wrap .i64 (t2.2.2.2 - (1 : Int)))).2.2.1, (rd_Key t2.1 (Go.IntKind.wrap .i64 (t2.2.2.2 - (1 : Int)))).2.2.2.1, (rd_Key t2.1 (Go.IntKind.wrap .i64 (t2.2.2.2 - (1 : Int)))).2.2.2.2, (rd_Key t2.2.1 t2.2.2.2).1, (rd_Key t2.2.1 t2.2.2.2).2.1, (rd_Key t2.2.1 t2.2.2.2).2.2.1, (rd_Key t2.2.1 t2.2.2.2).2.2.2.1, (rd_Key t2.2.1 t2.2.2.2).2.2.2.2)) fun r4 => some (!r4) else none else none else some false) fun u3 => some u3) fun u2 => bif u2 then k0 (t2.1, false) else again (t2.1, t2.2.1, t2.2.2.1, (Go.IntKind.wrap .i64 (t2.2.2.2 + (1 : Int)))) else none else none else k1 t2.1
def L_impl_SetOk_2 k0 k1 := iter (@S_impl_SetOk_2 R k0 k1) FUEL
def F_impl_SetOk (x : List E_Key) : Option Bool :=
 L_impl_SetOk_2 (fun x5 => some x5.2) (fun x6 => some (decide (((List.length x6 : Nat) : Int) ≤ (60 : Int)))) (x, x, ((List.length x : Nat) : Int), (0 : Int))
def f246Q : List QF := [q138, q279]
def f246e2_0 (t : Qz171) : St := ⟨v_Key t.1 :: dd 4 (v_Key t.2.1 :: vI t.2.2.1 :: vI t.2.2.2 :: dd 25 []), []⟩
def f246g2 : Gk T_impl_SetOk_2 := fun κ => S_impl_SetOk_2 (fun t => κ none ⟨v_Key t.1 :: .dead :: vB t.2 :: dd 30 [], []⟩) (fun t => κ (some 0) ⟨v_Key t :: dd 32 [], []⟩)
def f246P : Lp := lpC 2 (unG qz171 f246e2_0) @f246g2 lpN
theorem f246C2 : LF f246Q f246P 246 2 Tryz.f246 0 f246e2_0 @f246g2 fun t => t := fun R κ again t => by kernel_rfl
theorem f246k2 : LK f246Q f246P 246 Tryz.f246 0 := lkN (u := (unG qz171 f246e2_0)) (unG_ok fun t => by kernel_rfl) f246C2
theorem ev246 : EV f246Q f246P 246 Tryz.f246 sg246 [(.sl 106 ts_Key)] [.bool] F_impl_SetOk := fun x => by kernel_rfl
def q246 : QF := ⟨246, F_impl_SetOk, okN (n := 1) Tryz.func246 ⟨f246k2, trivial⟩ ev246⟩
abbrev T_impl_NodeOk_3 : Type := Qz172
def S_impl_NodeOk_3 (k0 : Qz173 → Option R) (k1 : Qz36 → Option R) (again : T_impl_NodeOk_3 → Option R) (t3 : T_impl_NodeOk_3) : Option R :=
 bif (decide (t3.2.2.2.1 < t3.2.2.1)) then if (0 : Int) ≤ t3.2.2.2.1 then if t3.2.2.2.1 < ((List.length t3.2.1 : Nat) : Int) then Option.bind (F_impl_SetOk (rd_s_Key t3.2.1 t3.2.2.2.1)) fun r1 => Option.bind (bif (!r1) then some true else some (((List.length (rd_s_Key t3.2.1 t3.2.2.2.1) : Nat) : Int) == (0 : Int))) fun u2 => bif u2 then k0 (false, t3.1, t3.2.2.2.2) else again ((Go.IntKind.wrap .i64 (t3.1 + ((List.length (rd_s_Key t3.2.1 t3.2.2.2.1) : Nat) : Int))), t3.2.1, t3.2.2.1, (Go.IntKind.wrap .i64 (t3.2.2.2.1 + (1 : Int))), t3.2.2.2.2) else none else none else k1 (t3.1, t3.2.2.2.2)
def L_impl_NodeOk_3 k0 k1 := iter (@S_impl_NodeOk_3 R k0 k1) FUEL
def F_impl_NodeOk (x : List E_s_Key) : Option Bool :=
 L_impl_NodeOk_3 (fun x3 => some x3.1) (fun x4 => Option.bind (bif (decide (((List.length x4.2 : Nat) : Int) ≤ (3 : Int))) then some (decide (x4.1 ≤ (8 : Int))) else some false) fun u5 => some u5) ((0 : Int), x, ((List.length x : Nat) : Int), (0 : Int), x)
def f204Q : List QF := [q246]
def f204e3_0 (t : Qz172) : St := ⟨.dead :: .box 1 0 :: .dead :: vI t.1 :: dd 3 (v_s_Key t.2.1 :: vI t.2.2.1 :: vI t.2.2.2.1 :: dd 24 []), [(1, .box [v_s_Key t.2.2.2.2])]⟩
def f204g3 : Gk T_impl_NodeOk_3 := fun κ => S_impl_NodeOk_3 (fun t => κ none ⟨.dead :: .box 1 0 :: vB t.1 :: vI t.2.1 :: dd 30 [], [(1, .box [v_s_Key t.2.2])]⟩) (fun t => κ (some 0) ⟨.dead :: .box 1 0 :: .dead :: vI t.1 :: dd 30 [], [(1, .box [v_s_Key t.2])]⟩)
def f204P : Lp := lpC 3 (unG qz172 f204e3_0) @f204g3 lpN
theorem f204C3 : LF f204Q f204P 204 3 Tryz.f204 0 f204e3_0 @f204g3 fun t => t := fun R κ again t => by kernel_rfl
theorem f204k3 : LK f204Q f204P 204 Tryz.f204 0 := lkN (u := (unG qz172 f204e3_0)) (unG_ok fun t => by kernel_rfl) f204C3
theorem ev204 : EV f204Q f204P 204 Tryz.f204 sg204 [(.sl 100 ts_s_Key)] [.bool] F_impl_NodeOk := fun x => by kernel_rfl
def q204 : QF := ⟨204, F_impl_NodeOk, okN (n := 1) Tryz.func204 ⟨f204k3, trivial⟩ ev204⟩
def F_impl_SpotOf (x : Qz69) : Option Int :=
 some (Go.IntKind.wrap .i64 ((Go.IntKind.wrap .i64 ((64 : Int) * x.1)) + x.2))
theorem ev247 : EV [] lpN 247 Tryz.f247 sg247 qz69 [(.int .i64)] F_impl_SpotOf := fun x => by kernel_rfl
def q247 : QF := ⟨247, F_impl_SpotOf, okN (n := 0) Tryz.func247 trivial ev247⟩
abbrev T_impl_inBounds_5 : Type := Qz174
def S_impl_inBounds_5 (k0 : Qz175 → Option R) (k1 : Qz176 → Option R) (again : T_impl_inBounds_5 → Option R) (t5 : T_impl_inBounds_5) : Option R :=
 bif (decide (t5.2.2.2.2.2.2.1 < t5.2.2.2.2.2.1)) then if (0 : Int) ≤ t5.2.2.2.2.2.2.1 then if t5.2.2.2.2.2.2.1 < ((List.length t5.2.2.2.2.1 : Nat) : Int) then Option.bind (F_impl_SpotOf ((rd_Key t5.2.2.2.2.1 t5.2.2.2.2.2.2.1).1, (rd_Key t5.2.2.2.2.1 t5.2.2.2.2.2.2.1).2.1)) fun r1 => if (0 : Int) ≤ t5.1 then if t5.1 < ((List.length t5.2.2.2.2.2.2.2.1 : Nat) : Int) then Option.bind (bif (decide (r1 < (rd_i64 t5.2.2.2.2.2.2.2.1 t5.1))) then some true else Option.bind (bif (decide ((Go.IntKind.wrap .i64 (t5.1 + (1 : Int))) < ((List.length t5.2.2.2.2.2.2.2.1 : Nat) : Int))) then if (0 : Int) ≤ (Go.IntKind.wrap .i64 (t5.1 + (1 : Int))) then if (Go.IntKind.wrap .i64 (t5.1 + (1 : Int))) < ((List.length t5.2.2.2.2.2.2.2.1 : Nat) : Int) then some (decide (r1 ≥ (rd_i64 t5.2.2.2.2.2.2.2.1 (Go.IntKind.wrap .i64 (t5.1 + (1 : Int)))))) else none else none else some false) fun u3 => some u3) fun u2 => bif u2 then k0 (t5.1, false, t5.2.1, t5.2.2.1, t5.2.2.2.1, t5.2.2.2.2.2.2.2.1, t5.2.2.2.2.2.2.2.2) else again (t5.1, t5.2.1, t5.2.2.1, t5.2.2.2.1, t5.2.2.2.2.1, t5.2.2.2.2.2.1, (Go.IntKind.wrap .i64 (t5.2.2.2.2.2.2.1 + (1 : Int))), t5.2.2.2.2.2.2.2.1, t5.2.2.2.2.2.2.2.2) else none else none else none else none else k1 (t5.1, t5.2.1, t5.2.2.1, t5.2.2.2.1, t5.2.2.2.2.2.2.2.1, t5.2.2.2.2.2.2.2.2)
def L_impl_inBounds_5 k0 k1 := iter (@S_impl_inBounds_5 R k0 k1) FUEL
abbrev T_impl_inBounds_2 : Type := Qz176
def S_impl_inBounds_2 (k0 : Bool → Option R) (k1 : Unit → Option R) (again : T_impl_inBounds_2 → Option R) (t2 : T_impl_inBounds_2) : Option R :=
 bif (decide (t2.2.2.2.1 < t2.2.2.1)) then if (0 : Int) ≤ t2.2.2.2.1 then if t2.2.2.2.1 < ((List.length t2.2.1 : Nat) : Int) then L_impl_inBounds_5 (fun x4 => k0 x4.2.1) (fun x5 => again (x5.1, x5.2.1, x5.2.2.1, (Go.IntKind.wrap .i64 (x5.2.2.2.1 + (1 : Int))), x5.2.2.2.2.1, x5.2.2.2.2.2)) (t2.1, t2.2.1, t2.2.2.1, t2.2.2.2.1, (rd_s_Key t2.2.1 t2.2.2.2.1), ((List.length (rd_s_Key t2.2.1 t2.2.2.2.1) : Nat) : Int), (0 : Int), t2.2.2.2.2.1, t2.2.2.2.2.2) else none else none else k1 ()
def L_impl_inBounds_2 k0 k1 := iter (@S_impl_inBounds_2 R k0 k1) FUEL
def F_impl_inBounds (x : Qz41) : Option Bool :=
 if (0 : Int) ≤ x.2.2 then if x.2.2 < ((List.length x.2.1 : Nat) : Int) then L_impl_inBounds_2 (fun x6 => some x6) (fun x7 => some true) (x.2.2, (rd_Node x.2.1 x.2.2), ((List.length (rd_Node x.2.1 x.2.2) : Nat) : Int), (0 : Int), x.1, x.2.1) else none else none
def f205Q : List QF := [q247]
def f205e5_0 (t : Qz174) : St := ⟨.dead :: vI t.1 :: .box 2 0 :: dd 12 (v_s_Key t.2.1 :: vI t.2.2.1 :: vI t.2.2.2.1 :: dd 3 (v_Key t.2.2.2.2.1 :: vI t.2.2.2.2.2.1 :: vI t.2.2.2.2.2.2.1 :: dd 35 [])), [(2, .box [v_i64 t.2.2.2.2.2.2.2.1, v_Node t.2.2.2.2.2.2.2.2])]⟩
def f205g5 : Gk T_impl_inBounds_5 := fun κ => S_impl_inBounds_5 (fun t => κ none ⟨.dead :: vI t.1 :: .box 2 0 :: .dead :: vB t.2.1 :: dd 10 (v_s_Key t.2.2.1 :: vI t.2.2.2.1 :: vI t.2.2.2.2.1 :: dd 41 []), [(2, .box [v_i64 t.2.2.2.2.2.1, v_Node t.2.2.2.2.2.2])]⟩) (fun t => κ (some 2) ⟨.dead :: vI t.1 :: .box 2 0 :: dd 12 (v_s_Key t.2.1 :: vI t.2.2.1 :: vI t.2.2.2.1 :: dd 41 []), [(2, .box [v_i64 t.2.2.2.2.1, v_Node t.2.2.2.2.2])]⟩)
def f205e2_0 (t : Qz176) : St := ⟨.dead :: vI t.1 :: .box 2 0 :: dd 12 (v_s_Key t.2.1 :: vI t.2.2.1 :: vI t.2.2.2.1 :: dd 41 []), [(2, .box [v_i64 t.2.2.2.2.1, v_Node t.2.2.2.2.2])]⟩
def f205g2 : Gk T_impl_inBounds_2 := fun κ => S_impl_inBounds_2 (fun t => κ none ⟨dd 4 (vB t :: dd 54 []), []⟩) (fun t => κ (some 0) ⟨dd 59 [], []⟩)
def f205P : Lp := lpC 2 (unG qz176 f205e2_0) @f205g2 (lpC 5 (unG qz174 f205e5_0) @f205g5 lpN)
theorem f205C5 : LF f205Q f205P 205 5 Tryz.f205 1 f205e5_0 @f205g5 fun t => t := fun R κ again t => by kernel_rfl
theorem f205k5 : LK f205Q f205P 205 Tryz.f205 1 := lkN (u := (unG qz174 f205e5_0)) (unG_ok fun t => by kernel_rfl) f205C5
theorem f205C2 : LF f205Q f205P 205 2 Tryz.f205 0 f205e2_0 @f205g2 fun t => t := fun R κ again t => by kernel_rfl
theorem f205k2 : LK f205Q f205P 205 Tryz.f205 0 := lkN (u := (unG qz176 f205e2_0)) (unG_ok fun t => by kernel_rfl) f205C2
theorem ev205 : EV f205Q f205P 205 Tryz.f205 sg205 qz41 [.bool] F_impl_inBounds := fun x => by kernel_rfl
def q205 : QF := ⟨205, F_impl_inBounds, okN (n := 2) Tryz.func205 ⟨f205k2, f205k5, trivial⟩ ev205⟩
def F_impl_SameSpot (x : Qz2) : Option Bool :=
 Option.bind (bif (x.1 == x.2.2.2.2.2.1) then some (x.2.1 == x.2.2.2.2.2.2.1) else some false) fun u1 => some u1
theorem ev302 : EV [] lpN 302 Tryz.f302 sg302 qz2 [.bool] F_impl_SameSpot := fun x => by kernel_rfl
def q302 : QF := ⟨302, F_impl_SameSpot, okN (n := 0) Tryz.func302 trivial ev302⟩
abbrev T_impl_SetPut_4 : Type := Qz177
def S_impl_SetPut_4 (k0 : Qz116 → Option R) (again : T_impl_SetPut_4 → Option R) (t4 : T_impl_SetPut_4) : Option R :=
 bif (decide (t4.2.2.2.1 < t4.2.2.1)) then if (0 : Int) ≤ t4.2.2.2.1 then if t4.2.2.2.1 < ((List.length t4.2.1 : Nat) : Int) then Option.bind (bif (!t4.1) then Option.bind (F_impl_LessKey ((rd_Key t4.2.1 t4.2.2.2.1).1, (rd_Key t4.2.1 t4.2.2.2.1).2.1, (rd_Key t4.2.1 t4.2.2.2.1).2.2.1, (rd_Key t4.2.1 t4.2.2.2.1).2.2.2.1, (rd_Key t4.2.1 t4.2.2.2.1).2.2.2.2, t4.2.2.2.2.1, t4.2.2.2.2.2.1, t4.2.2.2.2.2.2.1, t4.2.2.2.2.2.2.2.1, t4.2.2.2.2.2.2.2.2.1)) fun r2 => some (!r2) else some false) fun u1 => bif u1 then if (List.length t4.2.2.2.2.2.2.2.2.2 + List.length ([(t4.2.2.2.2.1, t4.2.2.2.2.2.1, t4.2.2.2.2.2.2.1, t4.2.2.2.2.2.2.2.1, t4.2.2.2.2.2.2.2.2.1)] : List E_Key)) * 40 < 140737488355328 then Option.bind (F_impl_SameSpot ((rd_Key t4.2.1 t4.2.2.2.1).1, (rd_Key t4.2.1 t4.2.2.2.1).2.1, (rd_Key t4.2.1 t4.2.2.2.1).2.2.1, (rd_Key t4.2.1 t4.2.2.2.1).2.2.2.1, (rd_Key t4.2.1 t4.2.2.2.1).2.2.2.2, t4.2.2.2.2.1, t4.2.2.2.2.2.1, t4.2.2.2.2.2.2.1, t4.2.2.2.2.2.2.2.1, t4.2.2.2.2.2.2.2.2.1)) fun r3 => bif (!r3) then if (List.length (t4.2.2.2.2.2.2.2.2.2 ++ ([(t4.2.2.2.2.1, t4.2.2.2.2.2.1, t4.2.2.2.2.2.2.1, t4.2.2.2.2.2.2.2.1, t4.2.2.2.2.2.2.2.2.1)] : List E_Key)) + List.length ([((rd_Key t4.2.1 t4.2.2.2.1).1, (rd_Key t4.2.1 t4.2.2.2.1).2.1, (rd_Key t4.2.1 t4.2.2.2.1).2.2.1, (rd_Key t4.2.1 t4.2.2.2.1).2.2.2.1, (rd_Key t4.2.1 t4.2.2.2.1).2.2.2.2)] : List E_Key)) * 40 < 140737488355328 then again (true, t4.2.1, t4.2.2.1, (Go.IntKind.wrap .i64 (t4.2.2.2.1 + (1 : Int))), t4.2.2.2.2.1, t4.2.2.2.2.2.1, t4.2.2.2.2.2.2.1, t4.2.2.2.2.2.2.2.1, t4.2.2.2.2.2.2.2.2.1, ((t4.2.2.2.2.2.2.2.2.2 ++ ([(t4.2.2.2.2.1, t4.2.2.2.2.2.1, t4.2.2.2.2.2.2.1, t4.2.2.2.2.2.2.2.1, t4.2.2.2.2.2.2.2.2.1)] : List E_Key)) ++ ([((rd_Key t4.2.1 t4.2.2.2.1).1, (rd_Key t4.2.1 t4.2.2.2.1).2.1, (rd_Key t4.2.1 t4.2.2.2.1).2.2.1, (rd_Key t4.2.1 t4.2.2.2.1).2.2.2.1, (rd_Key t4.2.1 t4.2.2.2.1).2.2.2.2)] : List E_Key))) else none else again (true, t4.2.1, t4.2.2.1, (Go.IntKind.wrap .i64 (t4.2.2.2.1 + (1 : Int))), t4.2.2.2.2.1, t4.2.2.2.2.2.1, t4.2.2.2.2.2.2.1, t4.2.2.2.2.2.2.2.1, t4.2.2.2.2.2.2.2.2.1, (t4.2.2.2.2.2.2.2.2.2 ++ ([(t4.2.2.2.2.1, t4.2.2.2.2.2.1, t4.2.2.2.2.2.2.1, t4.2.2.2.2.2.2.2.1, t4.2.2.2.2.2.2.2.2.1)] : List E_Key))) else none else Option.bind (F_impl_SameSpot ((rd_Key t4.2.1 t4.2.2.2.1).1, (rd_Key t4.2.1 t4.2.2.2.1).2.1, (rd_Key t4.2.1 t4.2.2.2.1).2.2.1, (rd_Key t4.2.1 t4.2.2.2.1).2.2.2.1, (rd_Key t4.2.1 t4.2.2.2.1).2.2.2.2, t4.2.2.2.2.1, t4.2.2.2.2.2.1, t4.2.2.2.2.2.2.1, t4.2.2.2.2.2.2.2.1, t4.2.2.2.2.2.2.2.2.1)) fun r4 => bif (!r4) then if (List.length t4.2.2.2.2.2.2.2.2.2 + List.length ([((rd_Key t4.2.1 t4.2.2.2.1).1, (rd_Key t4.2.1 t4.2.2.2.1).2.1, (rd_Key t4.2.1 t4.2.2.2.1).2.2.1, (rd_Key t4.2.1 t4.2.2.2.1).2.2.2.1, (rd_Key t4.2.1 t4.2.2.2.1).2.2.2.2)] : List E_Key)) * 40 < 140737488355328 then again (t4.1, t4.2.1, t4.2.2.1, (Go.IntKind.wrap .i64 (t4.2.2.2.1 + (1 : Int))), t4.2.2.2.2.1, t4.2.2.2.2.2.1, t4.2.2.2.2.2.2.1, t4.2.2.2.2.2.2.2.1, t4.2.2.2.2.2.2.2.2.1, (t4.2.2.2.2.2.2.2.2.2 ++ ([((rd_Key t4.2.1 t4.2.2.2.1).1, (rd_Key t4.2.1 t4.2.2.2.1).2.1, (rd_Key t4.2.1 t4.2.2.2.1).2.2.1, (rd_Key t4.2.1 t4.2.2.2.1).2.2.2.1, (rd_Key t4.2.1 t4.2.2.2.1).2.2.2.2)] : List E_Key))) else none else again (t4.1, t4.2.1, t4.2.2.1, (Go.IntKind.wrap .i64 (t4.2.2.2.1 + (1 : Int))), t4.2.2.2.2.1, t4.2.2.2.2.2.1, t4.2.2.2.2.2.2.1, t4.2.2.2.2.2.2.2.1, t4.2.2.2.2.2.2.2.2.1, t4.2.2.2.2.2.2.2.2.2) else none else none else k0 (t4.1, t4.2.2.2.2.1, t4.2.2.2.2.2.1, t4.2.2.2.2.2.2.1, t4.2.2.2.2.2.2.2.1, t4.2.2.2.2.2.2.2.2.1, t4.2.2.2.2.2.2.2.2.2)
def L_impl_SetPut_4 k0 := iter (@S_impl_SetPut_4 R k0) FUEL
def F_impl_SetPut (x : Qz117) : Option (List E_Key) :=
 L_impl_SetPut_4 (fun x5 => bif (!x5.1) then if (List.length x5.2.2.2.2.2.2 + List.length ([(x5.2.1, x5.2.2.1, x5.2.2.2.1, x5.2.2.2.2.1, x5.2.2.2.2.2.1)] : List E_Key)) * 40 < 140737488355328 then some (x5.2.2.2.2.2.2 ++ ([(x5.2.1, x5.2.2.1, x5.2.2.2.1, x5.2.2.2.2.1, x5.2.2.2.2.2.1)] : List E_Key)) else none else some x5.2.2.2.2.2.2) (false, x.1, ((List.length x.1 : Nat) : Int), (0 : Int), x.2.1, x.2.2.1, x.2.2.2.1, x.2.2.2.2.1, x.2.2.2.2.2, ([] : List E_Key))
def f281Q : List QF := [q279, q302]
def f281e4_0 (t : Qz177) : St := ⟨dd 3 (.box 3 0 :: .dead :: .own 10000000 :: vB t.1 :: dd 3 (v_Key t.2.1 :: vI t.2.2.1 :: vI t.2.2.2.1 :: dd 31 [])), [(3, .box [vI t.2.2.2.2.1, vI t.2.2.2.2.2.1, vI t.2.2.2.2.2.2.1, vI t.2.2.2.2.2.2.2.1, vI t.2.2.2.2.2.2.2.2.1]), (10000000, .root true 106 ts_Key t.2.2.2.2.2.2.2.2.2)]⟩
def f281g4 : Gk T_impl_SetPut_4 := fun κ => S_impl_SetPut_4 (fun t => κ (some 0) ⟨dd 3 (.box 3 0 :: .dead :: .own 10000000 :: vB t.1 :: dd 37 []), [(3, .box [vI t.2.1, vI t.2.2.1, vI t.2.2.2.1, vI t.2.2.2.2.1, vI t.2.2.2.2.2.1]), (10000000, .root true 106 ts_Key t.2.2.2.2.2.2)]⟩)
def f281P : Lp := lpC 4 (unG qz177 f281e4_0) @f281g4 lpN
theorem f281C4 : LF f281Q f281P 281 4 Tryz.f281 0 f281e4_0 @f281g4 fun t => t := fun R κ again t => by kernel_rfl
theorem f281k4 : LK f281Q f281P 281 Tryz.f281 0 := lkN (u := (unG qz177 f281e4_0)) (unG_ok fun t => by kernel_rfl) f281C4
theorem ev281 : EV f281Q f281P 281 Tryz.f281 sg281 qz117 [(.sl 106 ts_Key)] F_impl_SetPut := fun x => by kernel_rfl
def q281 : QF := ⟨281, F_impl_SetPut, okN (n := 1) Tryz.func281 ⟨f281k4, trivial⟩ ev281⟩
abbrev T_impl_MergeSets_3 : Type := Qz178
def S_impl_MergeSets_3 (k0 : List E_Key → Option R) (again : T_impl_MergeSets_3 → Option R) (t3 : T_impl_MergeSets_3) : Option R :=
 bif (decide (t3.2.2.1 < t3.2.1)) then if (0 : Int) ≤ t3.2.2.1 then if t3.2.2.1 < ((List.length t3.1 : Nat) : Int) then Option.bind (F_impl_SetPut (t3.2.2.2, (rd_Key t3.1 t3.2.2.1).1, (rd_Key t3.1 t3.2.2.1).2.1, (rd_Key t3.1 t3.2.2.1).2.2.1, (rd_Key t3.1 t3.2.2.1).2.2.2.1, (rd_Key t3.1 t3.2.2.1).2.2.2.2)) fun r2 => again (t3.1, t3.2.1, (Go.IntKind.wrap .i64 (t3.2.2.1 + (1 : Int))), r2) else none else none else k0 t3.2.2.2
def L_impl_MergeSets_3 k0 := iter (@S_impl_MergeSets_3 R k0) FUEL
def F_impl_MergeSets (x : Qz4) : Option (List E_Key) :=
 Option.bind (F_impl_copyKeys x.1) fun r1 => L_impl_MergeSets_3 (fun x3 => some x3) (x.2, ((List.length x.2 : Nat) : Int), (0 : Int), r1)
def f248Q : List QF := [q280, q281]
def f248e3_0 (t : Qz178) : St := ⟨dd 5 (.own 10000000 :: dd 4 (v_Key t.1 :: vI t.2.1 :: vI t.2.2.1 :: dd 8 [])), [(10000000, .root true 106 ts_Key t.2.2.2)]⟩
def f248g3 : Gk T_impl_MergeSets_3 := fun κ => S_impl_MergeSets_3 (fun t => κ (some 0) ⟨dd 5 (.own 10000000 :: dd 15 []), [(10000000, .root true 106 ts_Key t)]⟩)
def f248P : Lp := lpC 3 (unG qz178 f248e3_0) @f248g3 lpN
theorem f248C3 : LF f248Q f248P 248 3 Tryz.f248 0 f248e3_0 @f248g3 fun t => t := fun R κ again t => by kernel_rfl
theorem f248k3 : LK f248Q f248P 248 Tryz.f248 0 := lkN (u := (unG qz178 f248e3_0)) (unG_ok fun t => by kernel_rfl) f248C3
theorem ev248 : EV f248Q f248P 248 Tryz.f248 sg248 qz4 [(.sl 106 ts_Key)] F_impl_MergeSets := fun x => by kernel_rfl
def q248 : QF := ⟨248, F_impl_MergeSets, okN (n := 1) Tryz.func248 ⟨f248k3, trivial⟩ ev248⟩
abbrev T_impl_Drop_3 : Type := Qz178
def S_impl_Drop_3 (k0 : List E_Key → Option R) (again : T_impl_Drop_3 → Option R) (t3 : T_impl_Drop_3) : Option R :=
 bif (decide (t3.2.2.1 < t3.2.1)) then if (0 : Int) ≤ t3.2.2.1 then if t3.2.2.1 < ((List.length t3.1 : Nat) : Int) then bif ((rd_Key t3.1 t3.2.2.1).2.2.1 != (0 : Int)) then if (List.length t3.2.2.2 + List.length ([((rd_Key t3.1 t3.2.2.1).1, (rd_Key t3.1 t3.2.2.1).2.1, (rd_Key t3.1 t3.2.2.1).2.2.1, (rd_Key t3.1 t3.2.2.1).2.2.2.1, (rd_Key t3.1 t3.2.2.1).2.2.2.2)] : List E_Key)) * 40 < 140737488355328 then again (t3.1, t3.2.1, (Go.IntKind.wrap .i64 (t3.2.2.1 + (1 : Int))), (t3.2.2.2 ++ ([((rd_Key t3.1 t3.2.2.1).1, (rd_Key t3.1 t3.2.2.1).2.1, (rd_Key t3.1 t3.2.2.1).2.2.1, (rd_Key t3.1 t3.2.2.1).2.2.2.1, (rd_Key t3.1 t3.2.2.1).2.2.2.2)] : List E_Key))) else none else again (t3.1, t3.2.1, (Go.IntKind.wrap .i64 (t3.2.2.1 + (1 : Int))), t3.2.2.2) else none else none else k0 t3.2.2.2
def L_impl_Drop_3 k0 := iter (@S_impl_Drop_3 R k0) FUEL
def F_impl_Drop (x : List E_Key) : Option (List E_Key) :=
 L_impl_Drop_3 (fun x1 => some x1) (x, ((List.length x : Nat) : Int), (0 : Int), ([] : List E_Key))
def f249Q : List QF := []
def f249e3_0 (t : Qz178) : St := ⟨dd 3 (.own 10000000 :: dd 3 (v_Key t.1 :: vI t.2.1 :: vI t.2.2.1 :: dd 12 [])), [(10000000, .root true 106 ts_Key t.2.2.2)]⟩
def f249g3 : Gk T_impl_Drop_3 := fun κ => S_impl_Drop_3 (fun t => κ (some 0) ⟨dd 3 (.own 10000000 :: dd 18 []), [(10000000, .root true 106 ts_Key t)]⟩)
def f249P : Lp := lpC 3 (unG qz178 f249e3_0) @f249g3 lpN
theorem f249C3 : LF f249Q f249P 249 3 Tryz.f249 0 f249e3_0 @f249g3 fun t => t := fun R κ again t => by kernel_rfl
theorem f249k3 : LK f249Q f249P 249 Tryz.f249 0 := lkN (u := (unG qz178 f249e3_0)) (unG_ok fun t => by kernel_rfl) f249C3
theorem ev249 : EV f249Q f249P 249 Tryz.f249 sg249 [(.sl 106 ts_Key)] [(.sl 106 ts_Key)] F_impl_Drop := fun x => by kernel_rfl
def q249 : QF := ⟨249, F_impl_Drop, okN (n := 1) Tryz.func249 ⟨f249k3, trivial⟩ ev249⟩
abbrev T_impl_NodeKeys_3 : Type := Qz179
def S_impl_NodeKeys_3 (k0 : List E_Key → Option R) (again : T_impl_NodeKeys_3 → Option R) (t3 : T_impl_NodeKeys_3) : Option R :=
 bif (decide (t3.2.2.1 < t3.2.1)) then if (0 : Int) ≤ t3.2.2.1 then if t3.2.2.1 < ((List.length t3.1 : Nat) : Int) then Option.bind (F_impl_MergeSets (t3.2.2.2, (rd_s_Key t3.1 t3.2.2.1))) fun r1 => again (t3.1, t3.2.1, (Go.IntKind.wrap .i64 (t3.2.2.1 + (1 : Int))), r1) else none else none else k0 t3.2.2.2
def L_impl_NodeKeys_3 k0 := iter (@S_impl_NodeKeys_3 R k0) FUEL
def F_impl_NodeKeys (x : List E_s_Key) : Option (List E_Key) :=
 L_impl_NodeKeys_3 (fun x2 => Option.bind (F_impl_Drop x2) fun r3 => some r3) (x, ((List.length x : Nat) : Int), (0 : Int), ([] : List E_Key))
def f206Q : List QF := [q248, q249]
def f206e3_0 (t : Qz179) : St := ⟨dd 3 (.own 10000000 :: dd 4 (v_s_Key t.1 :: vI t.2.1 :: vI t.2.2.1 :: dd 9 [])), [(10000000, .root true 106 ts_Key t.2.2.2)]⟩
def f206g3 : Gk T_impl_NodeKeys_3 := fun κ => S_impl_NodeKeys_3 (fun t => κ (some 0) ⟨dd 3 (.own 10000000 :: dd 16 []), [(10000000, .root true 106 ts_Key t)]⟩)
def f206P : Lp := lpC 3 (unG qz179 f206e3_0) @f206g3 lpN
theorem f206C3 : LF f206Q f206P 206 3 Tryz.f206 0 f206e3_0 @f206g3 fun t => t := fun R κ again t => by kernel_rfl
theorem f206k3 : LK f206Q f206P 206 Tryz.f206 0 := lkN (u := (unG qz179 f206e3_0)) (unG_ok fun t => by kernel_rfl) f206C3
theorem ev206 : EV f206Q f206P 206 Tryz.f206 sg206 [(.sl 100 ts_s_Key)] [(.sl 106 ts_Key)] F_impl_NodeKeys := fun x => by kernel_rfl
def q206 : QF := ⟨206, F_impl_NodeKeys, okN (n := 1) Tryz.func206 ⟨f206k3, trivial⟩ ev206⟩
abbrev T_impl_TreeOk_5 : Type := Qz180
def S_impl_TreeOk_5 (k0 : Qz181 → Option R) (k1 : Int → Option R) (again : T_impl_TreeOk_5 → Option R) (t5 : T_impl_TreeOk_5) : Option R :=
 bif (decide (t5.2.2.2.1 < t5.2.2.1)) then if (0 : Int) ≤ t5.2.2.2.1 then if t5.2.2.2.1 < ((List.length t5.2.1 : Nat) : Int) then Option.bind (bif (decide (t5.2.2.2.1 > (0 : Int))) then if (0 : Int) ≤ (Go.IntKind.wrap .i64 (t5.2.2.2.1 - (1 : Int))) then if (Go.IntKind.wrap .i64 (t5.2.2.2.1 - (1 : Int))) < ((List.length t5.2.2.2.2.1 : Nat) : Int) then if (0 : Int) ≤ t5.2.2.2.1 then if t5.2.2.2.1 < ((List.length t5.2.2.2.2.1 : Nat) : Int) then some (decide ((rd_i64 t5.2.2.2.2.1 (Go.IntKind.wrap .i64 (t5.2.2.2.1 - (1 : Int)))) ≥ (rd_i64 t5.2.2.2.2.1 t5.2.2.2.1))) else none else none else none else none else some false) fun u4 => Option.bind (bif u4 then some true else Option.bind (F_impl_NodeOk (rd_Node t5.2.1 t5.2.2.2.1)) fun r6 => some (!r6)) fun u5 => Option.bind (bif u5 then some true else Option.bind (F_impl_inBounds (t5.2.2.2.2.1, t5.2.2.2.2.2, t5.2.2.2.1)) fun r8 => some (!r8)) fun u7 => bif u7 then k0 (false, t5.1) else Option.bind (F_impl_NodeKeys (rd_Node t5.2.1 t5.2.2.2.1)) fun r9 => Option.bind (bif (decide (t5.2.2.2.1 > (0 : Int))) then some (((List.length r9 : Nat) : Int) == (0 : Int)) else some false) fun u10 => bif u10 then k0 (false, t5.1) else again ((Go.IntKind.wrap .i64 (t5.1 + ((List.length r9 : Nat) : Int))), t5.2.1, t5.2.2.1, (Go.IntKind.wrap .i64 (t5.2.2.2.1 + (1 : Int))), t5.2.2.2.2.1, t5.2.2.2.2.2) else none else none else k1 t5.1
def L_impl_TreeOk_5 k0 k1 := iter (@S_impl_TreeOk_5 R k0 k1) FUEL
def F_impl_TreeOk (x : Qz99) : Option Bool :=
 Option.bind (F_impl_within (((List.length x.2 : Nat) : Int), (1 : Int), (20 : Int))) fun r1 => Option.bind (bif (!r1) then some true else some (((List.length x.1 : Nat) : Int) != ((List.length x.2 : Nat) : Int))) fun u2 => Option.bind (bif u2 then some true else if (0 : Int) ≤ (0 : Int) then if (0 : Int) < ((List.length x.1 : Nat) : Int) then some ((rd_i64 x.1 (0 : Int)) != (0 : Int)) else none else none) fun u3 => bif u3 then some false else L_impl_TreeOk_5 (fun x11 => some x11.1) (fun x12 => some (decide (x12 ≤ (60 : Int)))) ((0 : Int), x.2, ((List.length x.2 : Nat) : Int), (0 : Int), x.1, x.2)
def f131Q : List QF := [q134, q204, q205, q206]
def f131e5_0 (t : Qz180) : St := ⟨.dead :: .box 1 0 :: .dead :: vI t.1 :: dd 25 (v_Node t.2.1 :: vI t.2.2.1 :: vI t.2.2.2.1 :: dd 46 []), [(1, .box [v_i64 t.2.2.2.2.1, v_Node t.2.2.2.2.2])]⟩
def f131g5 : Gk T_impl_TreeOk_5 := fun κ => S_impl_TreeOk_5 (fun t => κ none ⟨dd 2 (vB t.1 :: vI t.2 :: dd 74 []), []⟩) (fun t => κ (some 0) ⟨dd 3 (vI t :: dd 74 []), []⟩)
def f131P : Lp := lpC 5 (unG qz180 f131e5_0) @f131g5 lpN
theorem f131C5 : LF f131Q f131P 131 5 Tryz.f131 0 f131e5_0 @f131g5 fun t => t := fun R κ again t => by kernel_rfl
theorem f131k5 : LK f131Q f131P 131 Tryz.f131 0 := lkN (u := (unG qz180 f131e5_0)) (unG_ok fun t => by kernel_rfl) f131C5
theorem ev131 : EV f131Q f131P 131 Tryz.f131 sg131 qz99 [.bool] F_impl_TreeOk := fun x => by kernel_rfl
def q131 : QF := ⟨131, F_impl_TreeOk, okN (n := 1) Tryz.func131 ⟨f131k5, trivial⟩ ev131⟩
def F_impl_AgeAt_1 (x : Qz113) : Option Qz181 :=
 some ((x.1 == x.2.2), x.2.2)
theorem ev251 : EV [] lpN 251 Tryz.f251 sg251 qz113 qz181 F_impl_AgeAt_1 := fun x => by kernel_rfl
def q251 : QF := ⟨251, F_impl_AgeAt_1, okN (n := 0) Tryz.func251 trivial ev251⟩
abbrev T_slices_IndexFunc_Age_impl_AgeAt_1_2 : Type := Qz182
def S_slices_IndexFunc_Age_impl_AgeAt_1_2 (k0 : Qz69 → Option R) (k1 : Int → Option R) (again : T_slices_IndexFunc_Age_impl_AgeAt_1_2 → Option R) (t2 : T_slices_IndexFunc_Age_impl_AgeAt_1_2) : Option R :=
 bif (decide (t2.2.2.1 < t2.2.1)) then if (0 : Int) ≤ t2.2.2.1 then if t2.2.2.1 < ((List.length t2.1 : Nat) : Int) then Option.bind (F_impl_AgeAt_1 ((rd_Age t2.1 t2.2.2.1).1, (rd_Age t2.1 t2.2.2.1).2, t2.2.2.2)) fun r1 => bif r1.1 then k0 (t2.2.2.1, r1.2) else again (t2.1, t2.2.1, (Go.IntKind.wrap .i64 (t2.2.2.1 + (1 : Int))), r1.2) else none else none else k1 t2.2.2.2
def L_slices_IndexFunc_Age_impl_AgeAt_1_2 k0 k1 := iter (@S_slices_IndexFunc_Age_impl_AgeAt_1_2 R k0 k1) FUEL
def F_slices_IndexFunc_Age_impl_AgeAt_1 (x : Qz45) : Option Qz69 :=
 L_slices_IndexFunc_Age_impl_AgeAt_1_2 (fun x2 => some (x2.1, x2.2)) (fun x3 => some ((-1 : Int), x3)) (x.1, ((List.length x.1 : Nat) : Int), (0 : Int), x.2)
def f100002Q : List QF := [q251]
def f100002e2_0 (t : Qz182) : St := ⟨v_Age t.1 :: .clo 251 901 :: dd 5 (vI t.2.1 :: vI t.2.2.1 :: dd 10 []), [(901, .box [vI t.2.2.2])]⟩
def f100002g2 : Gk T_slices_IndexFunc_Age_impl_AgeAt_1_2 := fun κ => S_slices_IndexFunc_Age_impl_AgeAt_1_2 (fun t => κ none ⟨.dead :: .clo 251 901 :: dd 2 (vI t.1 :: dd 14 []), [(901, .box [vI t.2])]⟩) (fun t => κ (some 0) ⟨.dead :: .clo 251 901 :: dd 17 [], [(901, .box [vI t])]⟩)
def f100002P : Lp := lpC 2 (unG qz182 f100002e2_0) @f100002g2 lpN
theorem f100002C2 : LF f100002Q f100002P 100002 2 Tryz.f250 0 f100002e2_0 @f100002g2 fun t => t := fun R κ again t => by kernel_rfl
theorem f100002k2 : LK f100002Q f100002P 100002 Tryz.f250 0 := lkN (u := (unG qz182 f100002e2_0)) (unG_ok fun t => by kernel_rfl) f100002C2
theorem ev100002 : EV f100002Q f100002P 100002 Tryz.f250 sg100002 qz45 qz69 F_slices_IndexFunc_Age_impl_AgeAt_1 := fun x => by kernel_rfl
def q100002 : QF := ⟨100002, F_slices_IndexFunc_Age_impl_AgeAt_1, okN (n := 1) Tryz.func250 ⟨f100002k2, trivial⟩ ev100002⟩
def F_impl_AgeAt (x : Qz45) : Option Int :=
 Option.bind (F_slices_IndexFunc_Age_impl_AgeAt_1 (x.1, x.2)) fun r1 => some r1.1
theorem ev207 : EV [q100002] lpN 207 Tryz.f207 sg207 qz45 [(.int .i64)] F_impl_AgeAt := fun x => by kernel_rfl
def q207 : QF := ⟨207, F_impl_AgeAt, okN (n := 0) Tryz.func207 trivial ev207⟩
abbrev T_impl_AgesOk_2 : Type := Qz183
def S_impl_AgesOk_2 (k0 : Qz127 → Option R) (k1 : List E_Age → Option R) (again : T_impl_AgesOk_2 → Option R) (t2 : T_impl_AgesOk_2) : Option R :=
 bif (decide (t2.2.2.2 < t2.2.2.1)) then if (0 : Int) ≤ t2.2.2.2 then if t2.2.2.2 < ((List.length t2.2.1 : Nat) : Int) then Option.bind (F_impl_within ((rd_Age t2.2.1 t2.2.2.2).1, (1 : Int), (60 : Int))) fun r1 => Option.bind (bif (!r1) then some true else Option.bind (bif (decide (t2.2.2.2 > (0 : Int))) then if (0 : Int) ≤ (Go.IntKind.wrap .i64 (t2.2.2.2 - (1 : Int))) then if (Go.IntKind.wrap .i64 (t2.2.2.2 - (1 : Int))) < ((List.length t2.1 : Nat) : Int) then some (decide ((rd_Age t2.1 (Go.IntKind.wrap .i64 (t2.2.2.2 - (1 : Int)))).1 ≥ (rd_Age t2.2.1 t2.2.2.2).1)) else none else none else some false) fun u3 => some u3) fun u2 => Option.bind (bif u2 then some true else Option.bind (bif ((rd_Age t2.2.1 t2.2.2.2).2 != (0 : Int)) then if (0 : Int) ≤ (0 : Int) then if (0 : Int) ≤ t2.2.2.2 then if t2.2.2.2 ≤ ((List.length t2.1 : Nat) : Int) then Option.bind (F_impl_AgeAt ((List.drop (Int.toNat (0 : Int)) (List.take (Int.toNat t2.2.2.2) t2.1)), (rd_Age t2.2.1 t2.2.2.2).2)) fun r6 => some (decide (r6 < (0 : Int))) else none else none else none else some false) fun u5 => some u5) fun u4 => bif u4 then k0 (t2.1, false) else again (t2.1, t2.2.1, t2.2.2.1, (Go.IntKind.wrap .i64 (t2.2.2.2 + (1 : Int)))) else none else none else k1 t2.1
def L_impl_AgesOk_2 k0 k1 := iter (@S_impl_AgesOk_2 R k0 k1) FUEL
def F_impl_AgesOk (x : List E_Age) : Option Bool :=
 L_impl_AgesOk_2 (fun x7 => some x7.2) (fun x8 => some (decide (((List.length x8 : Nat) : Int) ≤ (16 : Int)))) (x, x, ((List.length x : Nat) : Int), (0 : Int))
def f132Q : List QF := [q134, q207]
def f132e2_0 (t : Qz183) : St := ⟨v_Age t.1 :: dd 4 (v_Age t.2.1 :: vI t.2.2.1 :: vI t.2.2.2 :: dd 41 []), []⟩
def f132g2 : Gk T_impl_AgesOk_2 := fun κ => S_impl_AgesOk_2 (fun t => κ none ⟨v_Age t.1 :: .dead :: vB t.2 :: dd 46 [], []⟩) (fun t => κ (some 0) ⟨v_Age t :: dd 48 [], []⟩)
def f132P : Lp := lpC 2 (unG qz183 f132e2_0) @f132g2 lpN
theorem f132C2 : LF f132Q f132P 132 2 Tryz.f132 0 f132e2_0 @f132g2 fun t => t := fun R κ again t => by kernel_rfl
theorem f132k2 : LK f132Q f132P 132 Tryz.f132 0 := lkN (u := (unG qz183 f132e2_0)) (unG_ok fun t => by kernel_rfl) f132C2
theorem ev132 : EV f132Q f132P 132 Tryz.f132 sg132 [(.sl 89 ts_Age)] [.bool] F_impl_AgesOk := fun x => by kernel_rfl
def q132 : QF := ⟨132, F_impl_AgesOk, okN (n := 1) Tryz.func132 ⟨f132k2, trivial⟩ ev132⟩
def F_impl_isWord (x : Int) : Option Bool :=
 Option.bind (F_impl_within (x, (0 : Int), (65535 : Int))) fun r1 => some r1
theorem ev208 : EV [q134] lpN 208 Tryz.f208 sg208 [(.int .i64)] [.bool] F_impl_isWord := fun x => by kernel_rfl
def q208 : QF := ⟨208, F_impl_isWord, okN (n := 0) Tryz.func208 trivial ev208⟩
abbrev T_impl_CellsOk_2 : Type := Qz184
def S_impl_CellsOk_2 (k0 : Qz128 → Option R) (k1 : List E_Cell → Option R) (again : T_impl_CellsOk_2 → Option R) (t2 : T_impl_CellsOk_2) : Option R :=
 bif (decide (t2.2.2.2 < t2.2.2.1)) then if (0 : Int) ≤ t2.2.2.2 then if t2.2.2.2 < ((List.length t2.2.1 : Nat) : Int) then Option.bind (F_impl_within ((rd_Cell t2.2.1 t2.2.2.2).1, (0 : Int), (999 : Int))) fun r1 => Option.bind (bif (!r1) then some true else Option.bind (F_impl_isWord ((rd_Cell t2.2.1 t2.2.2.2).2.2)) fun r3 => some (!r3)) fun u2 => Option.bind (bif u2 then some true else Option.bind (bif ((rd_Cell t2.2.1 t2.2.2.2).2.2 != (0 : Int)) then some (!((rd_Cell t2.2.1 t2.2.2.2).2.1)) else some false) fun u5 => some u5) fun u4 => bif u4 then k0 (t2.1, false) else again (t2.1, t2.2.1, t2.2.2.1, (Go.IntKind.wrap .i64 (t2.2.2.2 + (1 : Int)))) else none else none else k1 t2.1
def L_impl_CellsOk_2 k0 k1 := iter (@S_impl_CellsOk_2 R k0 k1) FUEL
def F_impl_CellsOk (x : List E_Cell) : Option Bool :=
 L_impl_CellsOk_2 (fun x6 => some x6.2) (fun x7 => some (((List.length x7 : Nat) : Int) == (24 : Int))) (x, x, ((List.length x : Nat) : Int), (0 : Int))
def f133Q : List QF := [q134, q208]
def f133e2_0 (t : Qz184) : St := ⟨v_Cell t.1 :: dd 4 (v_Cell t.2.1 :: vI t.2.2.1 :: vI t.2.2.2 :: dd 27 []), []⟩
def f133g2 : Gk T_impl_CellsOk_2 := fun κ => S_impl_CellsOk_2 (fun t => κ none ⟨v_Cell t.1 :: .dead :: vB t.2 :: dd 32 [], []⟩) (fun t => κ (some 0) ⟨v_Cell t :: dd 34 [], []⟩)
def f133P : Lp := lpC 2 (unG qz184 f133e2_0) @f133g2 lpN
theorem f133C2 : LF f133Q f133P 133 2 Tryz.f133 0 f133e2_0 @f133g2 fun t => t := fun R κ again t => by kernel_rfl
theorem f133k2 : LK f133Q f133P 133 Tryz.f133 0 := lkN (u := (unG qz184 f133e2_0)) (unG_ok fun t => by kernel_rfl) f133C2
theorem ev133 : EV f133Q f133P 133 Tryz.f133 sg133 [(.sl 95 ts_Cell)] [.bool] F_impl_CellsOk := fun x => by kernel_rfl
def q133 : QF := ⟨133, F_impl_CellsOk, okN (n := 1) Tryz.func133 ⟨f133k2, trivial⟩ ev133⟩
abbrev T_impl_NameOk_2 : Type := Qz129
def S_impl_NameOk_2 (k0 : Qz130 → Option R) (k1 : ByteArray → Option R) (again : T_impl_NameOk_2 → Option R) (t2 : T_impl_NameOk_2) : Option R :=
 bif (decide (t2.2 < ((ByteArray.size t2.1 : Nat) : Int))) then if (0 : Int) ≤ t2.2 then if h1 : Int.toNat t2.2 < ByteArray.size t2.1 then Option.bind (F_impl_within ((Go.IntKind.wrap .i64 ((UInt8.toNat (ByteArray.get t2.1 (Int.toNat t2.2) h1) : Nat) : Int)), (97 : Int), (122 : Int))) fun r2 => Option.bind (bif (!r2) then if (0 : Int) ≤ t2.2 then if h4 : Int.toNat t2.2 < ByteArray.size t2.1 then Option.bind (F_impl_within ((Go.IntKind.wrap .i64 ((UInt8.toNat (ByteArray.get t2.1 (Int.toNat t2.2) h4) : Nat) : Int)), (48 : Int), (57 : Int))) fun r5 => some (!r5) else none else none else some false) fun u3 => bif u3 then k0 (t2.1, false) else again (t2.1, (Go.IntKind.wrap .i64 (t2.2 + (1 : Int)))) else none else none else k1 t2.1
def L_impl_NameOk_2 k0 k1 := iter (@S_impl_NameOk_2 R k0 k1) FUEL
def F_impl_NameOk (x : ByteArray) : Option Bool :=
 L_impl_NameOk_2 (fun x6 => some x6.2) (fun x7 => Option.bind (F_impl_within (((ByteArray.size x7 : Nat) : Int), (1 : Int), (6 : Int))) fun r8 => some r8) (x, (0 : Int))
def f209Q : List QF := [q134]
def f209e2_0 (t : Qz129) : St := ⟨vS t.1 :: dd 2 (vI t.2 :: dd 23 []), []⟩
def f209g2 : Gk T_impl_NameOk_2 := fun κ => S_impl_NameOk_2 (fun t => κ none ⟨vS t.1 :: .dead :: vB t.2 :: dd 24 [], []⟩) (fun t => κ (some 0) ⟨vS t :: dd 26 [], []⟩)
def f209P : Lp := lpC 2 (unG qz129 f209e2_0) @f209g2 lpN
theorem f209C2 : LF f209Q f209P 209 2 Tryz.f209 0 f209e2_0 @f209g2 fun t => t := fun R κ again t => by kernel_rfl
theorem f209k2 : LK f209Q f209P 209 Tryz.f209 0 := lkN (u := (unG qz129 f209e2_0)) (unG_ok fun t => by kernel_rfl) f209C2
theorem ev209 : EV f209Q f209P 209 Tryz.f209 sg209 [.str] [.bool] F_impl_NameOk := fun x => by kernel_rfl
def q209 : QF := ⟨209, F_impl_NameOk, okN (n := 1) Tryz.func209 ⟨f209k2, trivial⟩ ev209⟩
abbrev T_impl_KidsOf_5 : Type := Qz185
def S_impl_KidsOf_5 (k0 : List E_i64 → Option R) (again : T_impl_KidsOf_5 → Option R) (t5 : T_impl_KidsOf_5) : Option R :=
 bif (decide (t5.2.2.2.1 < t5.2.2.1)) then if (0 : Int) ≤ t5.2.2.2.1 then if t5.2.2.2.1 < ((List.length t5.2.1 : Nat) : Int) then bif ((rd_Age t5.2.1 t5.2.2.2.1).2 == t5.1) then if (List.length t5.2.2.2.2 + List.length ([(rd_Age t5.2.1 t5.2.2.2.1).1] : List E_i64)) * 8 < 140737488355328 then again (t5.1, t5.2.1, t5.2.2.1, (Go.IntKind.wrap .i64 (t5.2.2.2.1 + (1 : Int))), (t5.2.2.2.2 ++ ([(rd_Age t5.2.1 t5.2.2.2.1).1] : List E_i64))) else none else again (t5.1, t5.2.1, t5.2.2.1, (Go.IntKind.wrap .i64 (t5.2.2.2.1 + (1 : Int))), t5.2.2.2.2) else none else none else k0 t5.2.2.2.2
def L_impl_KidsOf_5 k0 := iter (@S_impl_KidsOf_5 R k0) FUEL
def F_impl_KidsOf (x : Qz45) : Option (List E_i64) :=
 bif (x.2 == (0 : Int)) then some ([] : List E_i64) else L_impl_KidsOf_5 (fun x1 => some x1) (x.2, x.1, ((List.length x.1 : Nat) : Int), (0 : Int), ([] : List E_i64))
def f210Q : List QF := []
def f210e5_0 (t : Qz185) : St := ⟨.dead :: vI t.1 :: dd 3 (.own 10000000 :: dd 6 (v_Age t.2.1 :: vI t.2.2.1 :: vI t.2.2.2.1 :: dd 14 [])), [(10000000, .root true 3 ts_i64 t.2.2.2.2)]⟩
def f210g5 : Gk T_impl_KidsOf_5 := fun κ => S_impl_KidsOf_5 (fun t => κ (some 0) ⟨dd 5 (.own 10000000 :: dd 23 []), [(10000000, .root true 3 ts_i64 t)]⟩)
def f210P : Lp := lpC 5 (unG qz185 f210e5_0) @f210g5 lpN
theorem f210C5 : LF f210Q f210P 210 5 Tryz.f210 0 f210e5_0 @f210g5 fun t => t := fun R κ again t => by kernel_rfl
theorem f210k5 : LK f210Q f210P 210 Tryz.f210 0 := lkN (u := (unG qz185 f210e5_0)) (unG_ok fun t => by kernel_rfl) f210C5
theorem ev210 : EV f210Q f210P 210 Tryz.f210 sg210 qz45 [(.sl 3 ts_i64)] F_impl_KidsOf := fun x => by kernel_rfl
def q210 : QF := ⟨210, F_impl_KidsOf, okN (n := 1) Tryz.func210 ⟨f210k5, trivial⟩ ev210⟩
def F_impl_volsOk_1 (x : Qz16) : Option Qz186 :=
 some ((x.2.1 == x.2.2.2.2.2.1), x.2.2.2.2.1, x.2.2.2.2.2.1, x.2.2.2.2.2.2.1, x.2.2.2.2.2.2.2)
theorem ev212 : EV [] lpN 212 Tryz.f212 sg212 qz16 qz186 F_impl_volsOk_1 := fun x => by kernel_rfl
def q212 : QF := ⟨212, F_impl_volsOk_1, okN (n := 0) Tryz.func212 trivial ev212⟩
abbrev T_slices_IndexFunc_Vol_impl_volsOk_1_2 : Type := Qz187
def S_slices_IndexFunc_Vol_impl_volsOk_1_2 (k0 : Qz188 → Option R) (k1 : Qz153 → Option R) (again : T_slices_IndexFunc_Vol_impl_volsOk_1_2 → Option R) (t2 : T_slices_IndexFunc_Vol_impl_volsOk_1_2) : Option R :=
 bif (decide (t2.2.2.1 < t2.2.1)) then if (0 : Int) ≤ t2.2.2.1 then if t2.2.2.1 < ((List.length t2.1 : Nat) : Int) then Option.bind (F_impl_volsOk_1 ((rd_Vol t2.1 t2.2.2.1).1, (rd_Vol t2.1 t2.2.2.1).2.1, (rd_Vol t2.1 t2.2.2.1).2.2.1, (rd_Vol t2.1 t2.2.2.1).2.2.2, t2.2.2.2.1, t2.2.2.2.2.1, t2.2.2.2.2.2.1, t2.2.2.2.2.2.2)) fun r1 => bif r1.1 then k0 (t2.2.2.1, r1.2.1, r1.2.2.1, r1.2.2.2.1, r1.2.2.2.2) else again (t2.1, t2.2.1, (Go.IntKind.wrap .i64 (t2.2.2.1 + (1 : Int))), r1.2.1, r1.2.2.1, r1.2.2.2.1, r1.2.2.2.2) else none else none else k1 (t2.2.2.2.1, t2.2.2.2.2.1, t2.2.2.2.2.2.1, t2.2.2.2.2.2.2)
def L_slices_IndexFunc_Vol_impl_volsOk_1_2 k0 k1 := iter (@S_slices_IndexFunc_Vol_impl_volsOk_1_2 R k0 k1) FUEL
def F_slices_IndexFunc_Vol_impl_volsOk_1 (x : Qz189) : Option Qz188 :=
 L_slices_IndexFunc_Vol_impl_volsOk_1_2 (fun x2 => some (x2.1, x2.2.1, x2.2.2.1, x2.2.2.2.1, x2.2.2.2.2)) (fun x3 => some ((-1 : Int), x3.1, x3.2.1, x3.2.2.1, x3.2.2.2)) (x.1, ((List.length x.1 : Nat) : Int), (0 : Int), x.2.1, x.2.2.1, x.2.2.2.1, x.2.2.2.2)
def f100004Q : List QF := [q212]
def f100004e2_0 (t : Qz187) : St := ⟨v_Vol t.1 :: .clo 212 901 :: dd 5 (vI t.2.1 :: vI t.2.2.1 :: dd 10 []), [(901, .box [vS t.2.2.2.1, vI t.2.2.2.2.1, vI t.2.2.2.2.2.1, vB t.2.2.2.2.2.2])]⟩
def f100004g2 : Gk T_slices_IndexFunc_Vol_impl_volsOk_1_2 := fun κ => S_slices_IndexFunc_Vol_impl_volsOk_1_2 (fun t => κ none ⟨.dead :: .clo 212 901 :: dd 2 (vI t.1 :: dd 14 []), [(901, .box [vS t.2.1, vI t.2.2.1, vI t.2.2.2.1, vB t.2.2.2.2])]⟩) (fun t => κ (some 0) ⟨.dead :: .clo 212 901 :: dd 17 [], [(901, .box [vS t.1, vI t.2.1, vI t.2.2.1, vB t.2.2.2])]⟩)
def f100004P : Lp := lpC 2 (unG qz187 f100004e2_0) @f100004g2 lpN
theorem f100004C2 : LF f100004Q f100004P 100004 2 Tryz.f252 0 f100004e2_0 @f100004g2 fun t => t := fun R κ again t => by kernel_rfl
theorem f100004k2 : LK f100004Q f100004P 100004 Tryz.f252 0 := lkN (u := (unG qz187 f100004e2_0)) (unG_ok fun t => by kernel_rfl) f100004C2
theorem ev100004 : EV f100004Q f100004P 100004 Tryz.f252 sg100004 qz189 qz188 F_slices_IndexFunc_Vol_impl_volsOk_1 := fun x => by kernel_rfl
def q100004 : QF := ⟨100004, F_slices_IndexFunc_Vol_impl_volsOk_1, okN (n := 1) Tryz.func252 ⟨f100004k2, trivial⟩ ev100004⟩
def F_slices_ContainsFunc_Vol_impl_volsOk_1 (x : Qz189) : Option Qz186 :=
 Option.bind (F_slices_IndexFunc_Vol_impl_volsOk_1 (x.1, x.2.1, x.2.2.1, x.2.2.2.1, x.2.2.2.2)) fun r1 => some ((decide (r1.1 ≥ (0 : Int))), r1.2.1, r1.2.2.1, r1.2.2.2.1, r1.2.2.2.2)
theorem ev100003 : EV [q100004] lpN 100003 Tryz.f211 sg100003 qz189 qz186 F_slices_ContainsFunc_Vol_impl_volsOk_1 := fun x => by kernel_rfl
def q100003 : QF := ⟨100003, F_slices_ContainsFunc_Vol_impl_volsOk_1, okN (n := 0) Tryz.func211 trivial ev100003⟩
abbrev T_impl_volsOk_2 : Type := Qz190
def S_impl_volsOk_2 (k0 : Qz135 → Option R) (k1 : Qz100 → Option R) (again : T_impl_volsOk_2 → Option R) (t2 : T_impl_volsOk_2) : Option R :=
 bif (decide (t2.2.2.1 < t2.2.1)) then if (0 : Int) ≤ t2.2.2.1 then if t2.2.2.1 < ((List.length t2.1 : Nat) : Int) then Option.bind (F_impl_NameOk ((rd_Vol t2.1 t2.2.2.1).1)) fun r1 => Option.bind (bif (!r1) then some true else Option.bind (bif (decide (t2.2.2.1 > (0 : Int))) then if (0 : Int) ≤ (Go.IntKind.wrap .i64 (t2.2.2.1 - (1 : Int))) then if (Go.IntKind.wrap .i64 (t2.2.2.1 - (1 : Int))) < ((List.length t2.2.2.2.2.2.2.2.1 : Nat) : Int) then some (!Go.Op.bytesLess (ByteArray.toList ((rd_Vol t2.2.2.2.2.2.2.2.1 (Go.IntKind.wrap .i64 (t2.2.2.1 - (1 : Int)))).1)) (ByteArray.toList ((rd_Vol t2.1 t2.2.2.1).1))) else none else none else some false) fun u3 => some u3) fun u2 => Option.bind (bif u2 then some true else Option.bind (F_impl_within ((rd_Vol t2.1 t2.2.2.1).2.2.1, (1 : Int), (12 : Int))) fun r5 => some (!r5)) fun u4 => bif u4 then k0 (false, t2.2.2.2.1, t2.2.2.2.2.1, t2.2.2.2.2.2.1, t2.2.2.2.2.2.2.1, t2.2.2.2.2.2.2.2.1, t2.2.2.2.2.2.2.2.2) else Option.bind (F_impl_AgeAt (t2.2.2.2.2.2.1, (rd_Vol t2.1 t2.2.2.1).2.1)) fun r6 => Option.bind (bif (decide (r6 < (0 : Int))) then some true else Option.bind (F_impl_KidsOf (t2.2.2.2.2.2.1, (rd_Vol t2.1 t2.2.2.1).2.1)) fun r8 => some (decide (((List.length r8 : Nat) : Int) > (0 : Int)))) fun u7 => bif u7 then k0 (false, t2.2.2.2.1, t2.2.2.2.2.1, t2.2.2.2.2.2.1, t2.2.2.2.2.2.2.1, t2.2.2.2.2.2.2.2.1, t2.2.2.2.2.2.2.2.2) else if (0 : Int) ≤ (0 : Int) then if (0 : Int) ≤ t2.2.2.1 then if t2.2.2.1 ≤ ((List.length t2.2.2.2.2.2.2.2.1 : Nat) : Int) then Option.bind (F_slices_ContainsFunc_Vol_impl_volsOk_1 ((List.drop (Int.toNat (0 : Int)) (List.take (Int.toNat t2.2.2.1) t2.2.2.2.2.2.2.2.1)), (rd_Vol t2.1 t2.2.2.1).1, (rd_Vol t2.1 t2.2.2.1).2.1, (rd_Vol t2.1 t2.2.2.1).2.2.1, (rd_Vol t2.1 t2.2.2.1).2.2.2)) fun r9 => bif r9.1 then k0 (false, t2.2.2.2.1, t2.2.2.2.2.1, t2.2.2.2.2.2.1, t2.2.2.2.2.2.2.1, t2.2.2.2.2.2.2.2.1, t2.2.2.2.2.2.2.2.2) else again (t2.1, t2.2.1, (Go.IntKind.wrap .i64 (t2.2.2.1 + (1 : Int))), t2.2.2.2.1, t2.2.2.2.2.1, t2.2.2.2.2.2.1, t2.2.2.2.2.2.2.1, t2.2.2.2.2.2.2.2.1, t2.2.2.2.2.2.2.2.2) else none else none else none else none else none else k1 (t2.2.2.2.1, t2.2.2.2.2.1, t2.2.2.2.2.2.1, t2.2.2.2.2.2.2.1, t2.2.2.2.2.2.2.2.1, t2.2.2.2.2.2.2.2.2)
def L_impl_volsOk_2 k0 k1 := iter (@S_impl_volsOk_2 R k0 k1) FUEL
def F_impl_volsOk (x : Qz100) : Option Bool :=
 L_impl_volsOk_2 (fun x10 => some x10.1) (fun x11 => some (decide (((List.length x11.2.2.2.2.1 : Nat) : Int) ≤ (6 : Int)))) (x.2.2.2.2.1, ((List.length x.2.2.2.2.1 : Nat) : Int), (0 : Int), x.1, x.2.1, x.2.2.1, x.2.2.2.1, x.2.2.2.2.1, x.2.2.2.2.2)
def f135Q : List QF := [q134, q207, q209, q210, q100003]
def f135e2_0 (t : Qz190) : St := ⟨.dead :: .box 1 0 :: dd 4 (v_Vol t.1 :: vI t.2.1 :: vI t.2.2.1 :: dd 56 []), [(1, .box [v_i64 t.2.2.2.1, v_Node t.2.2.2.2.1, v_Age t.2.2.2.2.2.1, v_Cell t.2.2.2.2.2.2.1, v_Vol t.2.2.2.2.2.2.2.1, vI t.2.2.2.2.2.2.2.2])]⟩
def f135g2 : Gk T_impl_volsOk_2 := fun κ => S_impl_volsOk_2 (fun t => κ none ⟨.dead :: .box 1 0 :: vB t.1 :: dd 62 [], [(1, .box [v_i64 t.2.1, v_Node t.2.2.1, v_Age t.2.2.2.1, v_Cell t.2.2.2.2.1, v_Vol t.2.2.2.2.2.1, vI t.2.2.2.2.2.2])]⟩) (fun t => κ (some 0) ⟨.dead :: .box 1 0 :: dd 63 [], [(1, .box [v_i64 t.1, v_Node t.2.1, v_Age t.2.2.1, v_Cell t.2.2.2.1, v_Vol t.2.2.2.2.1, vI t.2.2.2.2.2])]⟩)
def f135P : Lp := lpC 2 (unG qz190 f135e2_0) @f135g2 lpN
theorem f135C2 : LF f135Q f135P 135 2 Tryz.f135 0 f135e2_0 @f135g2 fun t => t := fun R κ again t => by kernel_rfl
theorem f135k2 : LK f135Q f135P 135 Tryz.f135 0 := lkN (u := (unG qz190 f135e2_0)) (unG_ok fun t => by kernel_rfl) f135C2
theorem ev135 : EV f135Q f135P 135 Tryz.f135 sg135 qz100 [.bool] F_impl_volsOk := fun x => by kernel_rfl
def q135 : QF := ⟨135, F_impl_volsOk, okN (n := 1) Tryz.func135 ⟨f135k2, trivial⟩ ev135⟩
abbrev T_impl_TreeKeys_3 : Type := Qz191
def S_impl_TreeKeys_3 (k0 : List E_Key → Option R) (again : T_impl_TreeKeys_3 → Option R) (t3 : T_impl_TreeKeys_3) : Option R :=
 bif (decide (t3.2.2.1 < t3.2.1)) then if (0 : Int) ≤ t3.2.2.1 then if t3.2.2.1 < ((List.length t3.1 : Nat) : Int) then Option.bind (F_impl_NodeKeys (rd_Node t3.1 t3.2.2.1)) fun r1 => if (List.length t3.2.2.2 + List.length r1) * 40 < 140737488355328 then again (t3.1, t3.2.1, (Go.IntKind.wrap .i64 (t3.2.2.1 + (1 : Int))), (t3.2.2.2 ++ r1)) else none else none else none else k0 t3.2.2.2
def L_impl_TreeKeys_3 k0 := iter (@S_impl_TreeKeys_3 R k0) FUEL
def F_impl_TreeKeys (x : Qz99) : Option (List E_Key) :=
 L_impl_TreeKeys_3 (fun x2 => some x2) (x.2, ((List.length x.2 : Nat) : Int), (0 : Int), ([] : List E_Key))
def f213Q : List QF := [q206]
def f213e3_0 (t : Qz191) : St := ⟨dd 3 (.own 10000000 :: dd 4 (v_Node t.1 :: vI t.2.1 :: vI t.2.2.1 :: dd 9 [])), [(10000000, .root true 106 ts_Key t.2.2.2)]⟩
def f213g3 : Gk T_impl_TreeKeys_3 := fun κ => S_impl_TreeKeys_3 (fun t => κ (some 0) ⟨dd 3 (.own 10000000 :: dd 16 []), [(10000000, .root true 106 ts_Key t)]⟩)
def f213P : Lp := lpC 3 (unG qz191 f213e3_0) @f213g3 lpN
theorem f213C3 : LF f213Q f213P 213 3 Tryz.f213 0 f213e3_0 @f213g3 fun t => t := fun R κ again t => by kernel_rfl
theorem f213k3 : LK f213Q f213P 213 Tryz.f213 0 := lkN (u := (unG qz191 f213e3_0)) (unG_ok fun t => by kernel_rfl) f213C3
theorem ev213 : EV f213Q f213P 213 Tryz.f213 sg213 qz99 [(.sl 106 ts_Key)] F_impl_TreeKeys := fun x => by kernel_rfl
def q213 : QF := ⟨213, F_impl_TreeKeys, okN (n := 1) Tryz.func213 ⟨f213k3, trivial⟩ ev213⟩
def F_impl_CellAt (x : Qz74) : Option Qz136 :=
 Option.bind (F_impl_within (x.2.1, (0 : Int), (Go.IntKind.wrap .i64 (((List.length x.1 : Nat) : Int) - (1 : Int))))) fun r1 => Option.bind (bif (!r1) then some true else if (0 : Int) ≤ x.2.1 then if x.2.1 < ((List.length x.1 : Nat) : Int) then some (!((rd_Cell x.1 x.2.1).2.1)) else none else none) fun u2 => Option.bind (bif u2 then some true else if (0 : Int) ≤ x.2.1 then if x.2.1 < ((List.length x.1 : Nat) : Int) then some ((rd_Cell x.1 x.2.1).1 != x.2.2) else none else none) fun u3 => bif u3 then some ((0 : Int), false) else if (0 : Int) ≤ x.2.1 then if x.2.1 < ((List.length x.1 : Nat) : Int) then some ((rd_Cell x.1 x.2.1).2.2, true) else none else none
theorem ev214 : EV [q134] lpN 214 Tryz.f214 sg214 qz74 qz136 F_impl_CellAt := fun x => by kernel_rfl
def q214 : QF := ⟨214, F_impl_CellAt, okN (n := 0) Tryz.func214 trivial ev214⟩
abbrev T_impl_UsedCells_3 : Type := Qz192
def S_impl_UsedCells_3 (k0 : Int → Option R) (again : T_impl_UsedCells_3 → Option R) (t3 : T_impl_UsedCells_3) : Option R :=
 bif (decide (t3.2.2.2 < t3.2.2.1)) then if (0 : Int) ≤ t3.2.2.2 then if t3.2.2.2 < ((List.length t3.2.1 : Nat) : Int) then bif (rd_Cell t3.2.1 t3.2.2.2).2.1 then again ((Go.IntKind.wrap .i64 (t3.1 + (1 : Int))), t3.2.1, t3.2.2.1, (Go.IntKind.wrap .i64 (t3.2.2.2 + (1 : Int)))) else again (t3.1, t3.2.1, t3.2.2.1, (Go.IntKind.wrap .i64 (t3.2.2.2 + (1 : Int)))) else none else none else k0 t3.1
def L_impl_UsedCells_3 k0 := iter (@S_impl_UsedCells_3 R k0) FUEL
def F_impl_UsedCells (x : List E_Cell) : Option Int :=
 L_impl_UsedCells_3 (fun x1 => some x1) ((0 : Int), x, ((List.length x : Nat) : Int), (0 : Int))
def f215Q : List QF := []
def f215e3_0 (t : Qz192) : St := ⟨dd 3 (vI t.1 :: dd 2 (v_Cell t.2.1 :: vI t.2.2.1 :: vI t.2.2.2 :: dd 9 [])), []⟩
def f215g3 : Gk T_impl_UsedCells_3 := fun κ => S_impl_UsedCells_3 (fun t => κ (some 0) ⟨dd 3 (vI t :: dd 14 []), []⟩)
def f215P : Lp := lpC 3 (unG qz192 f215e3_0) @f215g3 lpN
theorem f215C3 : LF f215Q f215P 215 3 Tryz.f215 0 f215e3_0 @f215g3 fun t => t := fun R κ again t => by kernel_rfl
theorem f215k3 : LK f215Q f215P 215 Tryz.f215 0 := lkN (u := (unG qz192 f215e3_0)) (unG_ok fun t => by kernel_rfl) f215C3
theorem ev215 : EV f215Q f215P 215 Tryz.f215 sg215 [(.sl 95 ts_Cell)] [(.int .i64)] F_impl_UsedCells := fun x => by kernel_rfl
def q215 : QF := ⟨215, F_impl_UsedCells, okN (n := 1) Tryz.func215 ⟨f215k3, trivial⟩ ev215⟩
abbrev T_impl_keysFit_4 : Type := Qz193
def S_impl_keysFit_4 (k0 : Qz133 → Option R) (k1 : Qz134 → Option R) (again : T_impl_keysFit_4 → Option R) (t4 : T_impl_keysFit_4) : Option R :=
 bif (decide (t4.2.2.1 < t4.2.1)) then if (0 : Int) ≤ t4.2.2.1 then if t4.2.2.1 < ((List.length t4.2.2.2.2.2.2.2.2.2.2 : Nat) : Int) then Option.bind (F_impl_AgeAt (t4.2.2.2.2.2.1, (rd_Key t4.2.2.2.2.2.2.2.2.2.2 t4.2.2.1).2.1)) fun r2 => bif (decide (r2 < (0 : Int))) then k0 (false, t4.1, t4.2.2.2.1, t4.2.2.2.2.1, t4.2.2.2.2.2.1, t4.2.2.2.2.2.2.1, t4.2.2.2.2.2.2.2.1, t4.2.2.2.2.2.2.2.2.1) else bif ((rd_Key t4.2.2.2.2.2.2.2.2.2.2 t4.2.2.1).2.2.1 != (1 : Int)) then again (t4.1, t4.2.1, (Go.IntKind.wrap .i64 (t4.2.2.1 + (1 : Int))), t4.2.2.2.1, t4.2.2.2.2.1, t4.2.2.2.2.2.1, t4.2.2.2.2.2.2.1, t4.2.2.2.2.2.2.2.1, t4.2.2.2.2.2.2.2.2.1, t4.2.2.2.2.2.2.2.2.2.1, t4.2.2.2.2.2.2.2.2.2.2) else Option.bind (F_impl_CellAt (t4.2.2.2.2.2.2.1, (rd_Key t4.2.2.2.2.2.2.2.2.2.2 t4.2.2.1).2.2.2.1, (rd_Key t4.2.2.2.2.2.2.2.2.2.2 t4.2.2.1).2.2.2.2)) fun r3 => Option.bind (bif (!r3.2) then some true else if (0 : Int) ≤ (rd_Key t4.2.2.2.2.2.2.2.2.2.2 t4.2.2.1).2.2.2.1 then if (rd_Key t4.2.2.2.2.2.2.2.2.2.2 t4.2.2.1).2.2.2.1 < ((List.length t4.2.2.2.2.2.2.2.2.2.1 : Nat) : Int) then some (rd_bool t4.2.2.2.2.2.2.2.2.2.1 ((rd_Key t4.2.2.2.2.2.2.2.2.2.2 t4.2.2.1).2.2.2.1)) else none else none) fun u4 => bif u4 then k0 (false, t4.1, t4.2.2.2.1, t4.2.2.2.2.1, t4.2.2.2.2.2.1, t4.2.2.2.2.2.2.1, t4.2.2.2.2.2.2.2.1, t4.2.2.2.2.2.2.2.2.1) else if (0 : Int) ≤ (rd_Key t4.2.2.2.2.2.2.2.2.2.2 t4.2.2.1).2.2.2.1 then if (rd_Key t4.2.2.2.2.2.2.2.2.2.2 t4.2.2.1).2.2.2.1 < ((List.length t4.2.2.2.2.2.2.2.2.2.1 : Nat) : Int) then again ((Go.IntKind.wrap .i64 (t4.1 + (1 : Int))), t4.2.1, (Go.IntKind.wrap .i64 (t4.2.2.1 + (1 : Int))), t4.2.2.2.1, t4.2.2.2.2.1, t4.2.2.2.2.2.1, t4.2.2.2.2.2.2.1, t4.2.2.2.2.2.2.2.1, t4.2.2.2.2.2.2.2.2.1, (List.set t4.2.2.2.2.2.2.2.2.2.1 (Int.toNat ((rd_Key t4.2.2.2.2.2.2.2.2.2.2 t4.2.2.1).2.2.2.1)) true), t4.2.2.2.2.2.2.2.2.2.2) else none else none else none else none else k1 (t4.1, t4.2.2.2.1, t4.2.2.2.2.1, t4.2.2.2.2.2.1, t4.2.2.2.2.2.2.1, t4.2.2.2.2.2.2.2.1, t4.2.2.2.2.2.2.2.2.1)
def L_impl_keysFit_4 k0 k1 := iter (@S_impl_keysFit_4 R k0 k1) FUEL
def F_impl_keysFit (x : Qz100) : Option Bool :=
 if (0 : Int) ≤ (24 : Int) then if (24 : Int) ≤ (24 : Int) then if (24 : Int) * ((1 : Nat) : Int) ≤ 140737488351232 then Option.bind (F_impl_TreeKeys (x.1, x.2.1)) fun r1 => L_impl_keysFit_4 (fun x5 => some x5.1) (fun x6 => Option.bind (F_impl_UsedCells x6.2.2.2.2.1) fun r7 => some (r7 == x6.1)) ((0 : Int), ((List.length r1 : Nat) : Int), (0 : Int), x.1, x.2.1, x.2.2.1, x.2.2.2.1, x.2.2.2.2.1, x.2.2.2.2.2, (List.replicate (Int.toNat (24 : Int)) z_bool), r1) else none else none else none
def f136Q : List QF := [q207, q213, q214, q215]
def f136e4_0 (t : Qz193) : St := ⟨.dead :: .box 1 0 :: .dead :: .own 10000000 :: vI t.1 :: dd 7 (.own 10000001 :: vI t.2.1 :: vI t.2.2.1 :: dd 43 []), [(1, .box [v_i64 t.2.2.2.1, v_Node t.2.2.2.2.1, v_Age t.2.2.2.2.2.1, v_Cell t.2.2.2.2.2.2.1, v_Vol t.2.2.2.2.2.2.2.1, vI t.2.2.2.2.2.2.2.2.1]), (10000000, .root true 4 ts_bool t.2.2.2.2.2.2.2.2.2.1), (10000001, .root true 106 ts_Key t.2.2.2.2.2.2.2.2.2.2)]⟩
def f136g4 : Gk T_impl_keysFit_4 := fun κ => S_impl_keysFit_4 (fun t => κ none ⟨.dead :: .box 1 0 :: vB t.1 :: .dead :: vI t.2.1 :: dd 53 [], [(1, .box [v_i64 t.2.2.1, v_Node t.2.2.2.1, v_Age t.2.2.2.2.1, v_Cell t.2.2.2.2.2.1, v_Vol t.2.2.2.2.2.2.1, vI t.2.2.2.2.2.2.2])]⟩) (fun t => κ (some 0) ⟨.dead :: .box 1 0 :: dd 2 (vI t.1 :: dd 53 []), [(1, .box [v_i64 t.2.1, v_Node t.2.2.1, v_Age t.2.2.2.1, v_Cell t.2.2.2.2.1, v_Vol t.2.2.2.2.2.1, vI t.2.2.2.2.2.2])]⟩)
def f136P : Lp := lpC 4 (unG qz193 f136e4_0) @f136g4 lpN
theorem f136C4 : LF f136Q f136P 136 4 Tryz.f136 0 f136e4_0 @f136g4 fun t => t := fun R κ again t => by kernel_rfl
theorem f136k4 : LK f136Q f136P 136 Tryz.f136 0 := lkN (u := (unG qz193 f136e4_0)) (unG_ok fun t => by kernel_rfl) f136C4
theorem ev136 : EV f136Q f136P 136 Tryz.f136 sg136 qz100 [.bool] F_impl_keysFit := fun x => by kernel_rfl
def q136 : QF := ⟨136, F_impl_keysFit, okN (n := 1) Tryz.func136 ⟨f136k4, trivial⟩ ev136⟩
abbrev T_impl_PoolOk_4 : Type := Qz194
def S_impl_PoolOk_4 (k0 : Qz135 → Option R) (k1 : Qz100 → Option R) (again : T_impl_PoolOk_4 → Option R) (t4 : T_impl_PoolOk_4) : Option R :=
 bif (decide (t4.2.2.1 < t4.2.1)) then if (0 : Int) ≤ t4.2.2.1 then if t4.2.2.1 < ((List.length t4.1 : Nat) : Int) then bif (decide ((rd_Age t4.1 t4.2.2.1).1 ≥ t4.2.2.2.2.2.2.2.2)) then k0 (false, t4.2.2.2.1, t4.2.2.2.2.1, t4.2.2.2.2.2.1, t4.2.2.2.2.2.2.1, t4.2.2.2.2.2.2.2.1, t4.2.2.2.2.2.2.2.2) else again (t4.1, t4.2.1, (Go.IntKind.wrap .i64 (t4.2.2.1 + (1 : Int))), t4.2.2.2.1, t4.2.2.2.2.1, t4.2.2.2.2.2.1, t4.2.2.2.2.2.2.1, t4.2.2.2.2.2.2.2.1, t4.2.2.2.2.2.2.2.2) else none else none else k1 (t4.2.2.2.1, t4.2.2.2.2.1, t4.2.2.2.2.2.1, t4.2.2.2.2.2.2.1, t4.2.2.2.2.2.2.2.1, t4.2.2.2.2.2.2.2.2)
def L_impl_PoolOk_4 k0 k1 := iter (@S_impl_PoolOk_4 R k0 k1) FUEL
def F_impl_PoolOk (x : Qz100) : Option Bool :=
 Option.bind (F_impl_TreeOk (x.1, x.2.1)) fun r1 => Option.bind (bif (!r1) then some true else Option.bind (F_impl_AgesOk x.2.2.1) fun r3 => some (!r3)) fun u2 => Option.bind (bif u2 then some true else Option.bind (F_impl_CellsOk x.2.2.2.1) fun r5 => some (!r5)) fun u4 => Option.bind (bif u4 then some true else Option.bind (F_impl_within (x.2.2.2.2.2, (1 : Int), (61 : Int))) fun r7 => some (!r7)) fun u6 => bif u6 then some false else L_impl_PoolOk_4 (fun x8 => some x8.1) (fun x9 => Option.bind (F_impl_volsOk (x9.1, x9.2.1, x9.2.2.1, x9.2.2.2.1, x9.2.2.2.2.1, x9.2.2.2.2.2)) fun r10 => Option.bind (bif r10 then Option.bind (F_impl_keysFit (x9.1, x9.2.1, x9.2.2.1, x9.2.2.2.1, x9.2.2.2.2.1, x9.2.2.2.2.2)) fun r12 => some r12 else some false) fun u11 => some u11) (x.2.2.1, ((List.length x.2.2.1 : Nat) : Int), (0 : Int), x.1, x.2.1, x.2.2.1, x.2.2.2.1, x.2.2.2.2.1, x.2.2.2.2.2)
def f56Q : List QF := [q131, q132, q133, q134, q135, q136]
def f56e4_0 (t : Qz194) : St := ⟨.dead :: .box 1 0 :: dd 26 (v_Age t.1 :: vI t.2.1 :: vI t.2.2.1 :: dd 15 []), [(1, .box [v_i64 t.2.2.2.1, v_Node t.2.2.2.2.1, v_Age t.2.2.2.2.2.1, v_Cell t.2.2.2.2.2.2.1, v_Vol t.2.2.2.2.2.2.2.1, vI t.2.2.2.2.2.2.2.2])]⟩
def f56g4 : Gk T_impl_PoolOk_4 := fun κ => S_impl_PoolOk_4 (fun t => κ none ⟨.dead :: .box 1 0 :: vB t.1 :: dd 43 [], [(1, .box [v_i64 t.2.1, v_Node t.2.2.1, v_Age t.2.2.2.1, v_Cell t.2.2.2.2.1, v_Vol t.2.2.2.2.2.1, vI t.2.2.2.2.2.2])]⟩) (fun t => κ (some 0) ⟨.dead :: .box 1 0 :: dd 44 [], [(1, .box [v_i64 t.1, v_Node t.2.1, v_Age t.2.2.1, v_Cell t.2.2.2.1, v_Vol t.2.2.2.2.1, vI t.2.2.2.2.2])]⟩)
def f56P : Lp := lpC 4 (unG qz194 f56e4_0) @f56g4 lpN
theorem f56C4 : LF f56Q f56P 56 4 Tryz.f56 0 f56e4_0 @f56g4 fun t => t := fun R κ again t => by kernel_rfl
theorem f56k4 : LK f56Q f56P 56 Tryz.f56 0 := lkN (u := (unG qz194 f56e4_0)) (unG_ok fun t => by kernel_rfl) f56C4
theorem ev56 : EV f56Q f56P 56 Tryz.f56 sg56 qz100 [.bool] F_impl_PoolOk := fun x => by kernel_rfl
def q56 : QF := ⟨56, F_impl_PoolOk, okN (n := 1) Tryz.func56 ⟨f56k4, trivial⟩ ev56⟩
abbrev T_impl_DevOk_4 : Type := Qz195
def S_impl_DevOk_4 (k0 : Qz141 → Option R) (k1 : Qz111 → Option R) (again : T_impl_DevOk_4 → Option R) (t4 : T_impl_DevOk_4) : Option R :=
 bif (decide (t4.2.2.1 < t4.2.1)) then if (0 : Int) ≤ t4.2.2.1 then if t4.2.2.1 < ((List.length t4.1 : Nat) : Int) then bif (decide (((List.length (rd_s_u8 t4.1 t4.2.2.1) : Nat) : Int) > (80 : Int))) then k0 (false, t4.2.2.2.1, t4.2.2.2.2.1, t4.2.2.2.2.2.1, t4.2.2.2.2.2.2) else again (t4.1, t4.2.1, (Go.IntKind.wrap .i64 (t4.2.2.1 + (1 : Int))), t4.2.2.2.1, t4.2.2.2.2.1, t4.2.2.2.2.2.1, t4.2.2.2.2.2.2) else none else none else k1 (t4.2.2.2.1, t4.2.2.2.2.1, t4.2.2.2.2.2.1, t4.2.2.2.2.2.2)
def L_impl_DevOk_4 k0 k1 := iter (@S_impl_DevOk_4 R k0 k1) FUEL
abbrev T_impl_DevOk_10 : Type := Qz196
def S_impl_DevOk_10 (k0 : Bool → Option R) (k1 : Unit → Option R) (again : T_impl_DevOk_10 → Option R) (t10 : T_impl_DevOk_10) : Option R :=
 bif (decide (t10.2.2.1 < t10.2.1)) then if (0 : Int) ≤ t10.2.2.1 then if t10.2.2.1 < ((List.length t10.1 : Nat) : Int) then Option.bind (F_impl_within ((rd_Wr t10.1 t10.2.2.1).1, (0 : Int), (Go.IntKind.wrap .i64 (((List.length t10.2.2.2.1 : Nat) : Int) - (1 : Int))))) fun r7 => Option.bind (bif (!r7) then some true else some (decide (((List.length ((rd_Wr t10.1 t10.2.2.1).2) : Nat) : Int) > (80 : Int)))) fun u8 => bif u8 then k0 false else again (t10.1, t10.2.1, (Go.IntKind.wrap .i64 (t10.2.2.1 + (1 : Int))), t10.2.2.2.1, t10.2.2.2.2.1, t10.2.2.2.2.2.1, t10.2.2.2.2.2.2) else none else none else k1 ()
def L_impl_DevOk_10 k0 k1 := iter (@S_impl_DevOk_10 R k0 k1) FUEL
def F_impl_DevOk (x : Qz111) : Option Bool :=
 Option.bind (F_impl_within (((List.length x.1 : Nat) : Int), (1 : Int), (60 : Int))) fun r1 => Option.bind (bif (!r1) then some true else some (decide (((List.length x.2.1 : Nat) : Int) > (60 : Int)))) fun u2 => Option.bind (bif u2 then some true else Option.bind (F_impl_within (x.2.2.1, (-1 : Int), (1000 : Int))) fun r4 => some (!r4)) fun u3 => bif u3 then some false else L_impl_DevOk_4 (fun x5 => some x5.1) (fun x6 => L_impl_DevOk_10 (fun x9 => some x9) (fun x10 => some true) (x6.2.1, ((List.length x6.2.1 : Nat) : Int), (0 : Int), x6.1, x6.2.1, x6.2.2.1, x6.2.2.2)) (x.1, ((List.length x.1 : Nat) : Int), (0 : Int), x.1, x.2.1, x.2.2.1, x.2.2.2)
def f160Q : List QF := [q134]
def f160e4_0 (t : Qz195) : St := ⟨.dead :: .box 1 0 :: dd 23 (v_s_u8 t.1 :: vI t.2.1 :: vI t.2.2.1 :: dd 29 []), [(1, .box [v_s_u8 t.2.2.2.1, v_Wr t.2.2.2.2.1, vI t.2.2.2.2.2.1, vB t.2.2.2.2.2.2])]⟩
def f160g4 : Gk T_impl_DevOk_4 := fun κ => S_impl_DevOk_4 (fun t => κ none ⟨.dead :: .box 1 0 :: vB t.1 :: dd 54 [], [(1, .box [v_s_u8 t.2.1, v_Wr t.2.2.1, vI t.2.2.2.1, vB t.2.2.2.2])]⟩) (fun t => κ (some 0) ⟨.dead :: .box 1 0 :: dd 55 [], [(1, .box [v_s_u8 t.1, v_Wr t.2.1, vI t.2.2.1, vB t.2.2.2])]⟩)
def f160e10_0 (t : Qz196) : St := ⟨.dead :: .box 1 0 :: dd 34 (v_Wr t.1 :: vI t.2.1 :: vI t.2.2.1 :: dd 18 []), [(1, .box [v_s_u8 t.2.2.2.1, v_Wr t.2.2.2.2.1, vI t.2.2.2.2.2.1, vB t.2.2.2.2.2.2])]⟩
def f160g10 : Gk T_impl_DevOk_10 := fun κ => S_impl_DevOk_10 (fun t => κ none ⟨dd 2 (vB t :: dd 54 []), []⟩) (fun t => κ (some 2) ⟨dd 57 [], []⟩)
def f160P : Lp := lpC 10 (unG qz196 f160e10_0) @f160g10 (lpC 4 (unG qz195 f160e4_0) @f160g4 lpN)
theorem f160C4 : LF f160Q f160P 160 4 Tryz.f160 0 f160e4_0 @f160g4 fun t => t := fun R κ again t => by kernel_rfl
theorem f160k4 : LK f160Q f160P 160 Tryz.f160 0 := lkN (u := (unG qz195 f160e4_0)) (unG_ok fun t => by kernel_rfl) f160C4
theorem f160C10 : LF f160Q f160P 160 10 Tryz.f160 1 f160e10_0 @f160g10 fun t => t := fun R κ again t => by kernel_rfl
theorem f160k10 : LK f160Q f160P 160 Tryz.f160 1 := lkN (u := (unG qz196 f160e10_0)) (unG_ok fun t => by kernel_rfl) f160C10
theorem ev160 : EV f160Q f160P 160 Tryz.f160 sg160 qz111 [.bool] F_impl_DevOk := fun x => by kernel_rfl
def q160 : QF := ⟨160, F_impl_DevOk, okN (n := 2) Tryz.func160 ⟨f160k4, f160k10, trivial⟩ ev160⟩
end
end Go.Proofs.YtmapoakbdgpamaaGreat.XM
