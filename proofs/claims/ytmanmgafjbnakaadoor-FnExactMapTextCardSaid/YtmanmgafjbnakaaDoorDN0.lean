/- What functions compute, and that they do; part 0 of N; by a program (dec.py). No condition. -/
import Derived.Test.YtmanmgafjbnakaaDoorXN
set_option linter.all false
namespace Go.Proofs.YtmanmgafjbnakaaDoor.XN
open Go.Proofs.YtmanmgafjbnakaaDoor.R
set_option maxRecDepth 100000
abbrev T_spec_NumText_5 : Type := Qz0
noncomputable def S_spec_NumText_5 {R : Type} (k0 : Qz1 → Option R) (again : T_spec_NumText_5 → Option R) (t5 : T_spec_NumText_5) : Option R :=
  bif (t5.2.2 != (0 : Int)) then bif (decide ((Int.tmod t5.2.2 (10 : Int)) < (0 : Int))) then if ByteArray.size (textOf ([(Go.IntKind.wrap .u8 (Go.IntKind.wrap .i64 ((48 : Int) + (Go.IntKind.wrap .i64 (0 - (Int.tmod t5.2.2 (10 : Int)))))))] : List E_u8)) + ByteArray.size t5.2.1 < 140737488355328 then again (t5.1, (show ByteArray from (show ByteArray from (textOf ([(Go.IntKind.wrap .u8 (Go.IntKind.wrap .i64 ((48 : Int) + (Go.IntKind.wrap .i64 (0 - (Int.tmod t5.2.2 (10 : Int)))))))] : List E_u8))) ++ (show ByteArray from t5.2.1)), (Go.IntKind.wrap .i64 (Int.tdiv t5.2.2 (10 : Int)))) else none else if ByteArray.size (textOf ([(Go.IntKind.wrap .u8 (Go.IntKind.wrap .i64 ((48 : Int) + (Int.tmod t5.2.2 (10 : Int)))))] : List E_u8)) + ByteArray.size t5.2.1 < 140737488355328 then again (t5.1, (show ByteArray from (show ByteArray from (textOf ([(Go.IntKind.wrap .u8 (Go.IntKind.wrap .i64 ((48 : Int) + (Int.tmod t5.2.2 (10 : Int)))))] : List E_u8))) ++ (show ByteArray from t5.2.1)), (Go.IntKind.wrap .i64 (Int.tdiv t5.2.2 (10 : Int)))) else none else k0 (t5.1, t5.2.1)
noncomputable def L_spec_NumText_5 {R : Type} (k0 : Qz1 → Option R) (t : T_spec_NumText_5) : Option R := iter (S_spec_NumText_5 k0) FUEL t
noncomputable def F_spec_NumText (x : Int) : Option ByteArray :=
  bif (x == (0 : Int)) then some ({ data := #[48] }) else L_spec_NumText_5 (fun x1 => bif (decide (x1.1 < (0 : Int))) then if ByteArray.size ({ data := #[45] }) + ByteArray.size x1.2 < 140737488355328 then some (show ByteArray from (show ByteArray from { data := #[45] }) ++ (show ByteArray from x1.2)) else none else some x1.2) (x, { data := #[] }, x)
noncomputable def f7Q : List QF := []
def f7e5_0 (t : Qz0) : St := ⟨vI t.1 :: dd 2 (vS t.2.1 :: vI t.2.2 :: dd 26 []), []⟩
noncomputable def f7g5 : Gk T_spec_NumText_5 := fun κ => S_spec_NumText_5 (fun t => κ (some 0) ⟨vI t.1 :: dd 2 (vS t.2 :: dd 27 []), []⟩)
noncomputable def f7P : Lp := lpC 5 (unG qz0 f7e5_0) @f7g5 lpN
theorem f7C5 : LF f7Q f7P 7 5 Tryd.f7 0 f7e5_0 @f7g5 fun t => t := fun R κ again t => by kernel_rfl
theorem f7k5 : LK f7Q f7P 7 Tryd.f7 0 := loop_okG (u := (unG qz0 f7e5_0)) (by kernel_rfl) (unG_ok fun t => by kernel_rfl) (fun R κ s => by kernel_rfl) f7C5
theorem ev7 : EV f7Q f7P 7 Tryd.f7 sg7 [(.int .i64)] [.str] F_spec_NumText := fun x => by kernel_rfl
noncomputable def q7 : QF := ⟨7, F_spec_NumText, okN (n := 1) Tryd.func7 (by kernel_rfl) (by kernel_rfl) ⟨f7k5, trivial⟩ ev7⟩
/-- strconv.Itoa: the decimal numeral. -/
def itoaB (n : Int) : ByteArray := ⟨(Lib.itoa n).toArray⟩
def F_strconv_Itoa (n : Int) : Option ByteArray := if -9223372036854775808 ≤ n then if n ≤ 9223372036854775807 then some (itoaB n) else none else none
theorem sig19 : C.sig 19 = some sg19 := by kernel_rfl
theorem ok19 : ContractAt C Tryd.prog 19 F_strconv_Itoa := by
  intro sg x y hs hF w H args vs bs pb hgl hH hc ha hsp hp hx hd
  obtain rfl := Option.some.inj (hs.symm.trans sig19)
  have hF' : F_strconv_Itoa x = some y := hF
  unfold F_strconv_Itoa at hF'
  split at hF'
  · rename_i h0
    split at hF'
    · rename_i h1
      injection hF' with hF'
      refine hand_core (ins := [.int .i64]) (outs := [.str]) (x := x) (y := y) (g := 19) (by kernel_rfl) (by kernel_rfl) Tryd.func19 (by decide) (Option.ne_none_iff_isSome.2 (by kernel_rfl)) hH hc hsp fun hr hl hs' => ?_
      obtain ⟨arg, vs1, args', vs', rfl, rfl, hl1, e1, rfl, rfl, _⟩ := hs'
      obtain rfl : vs1 = [arg] := e1
      obtain ⟨v, hv, hrv⟩ := hr
      obtain rfl : arg = v := by simpa using hv
      obtain rfl : arg = .int .i64 x := hrv
      exact (Tryd.strconv_Itoa x h0 h1 w (id (hgl w hH))).mono fun e w' ⟨he, k, os, hw⟩ => ⟨[.string (itoaB x)], he, ⟨[.string (itoaB x)], [], _, [], by rw [← hF']; rfl, rfl, rfl, rfl, rfl, rfl⟩, by rw [hw]; exact Lib.below_grow _ w (Nat.le_refl _) k os⟩
    · cases hF'
  · cases hF'
noncomputable def q19 : QF := ⟨19, F_strconv_Itoa, ok19⟩
noncomputable def F_impl_NumText (x : Int) : Option ByteArray :=
  Option.bind (F_strconv_Itoa x) fun r1 => some r1
theorem ev8 : EV [q19] lpN 8 Tryd.f8 sg8 [(.int .i64)] [.str] F_impl_NumText := fun x => by kernel_rfl
noncomputable def q8 : QF := ⟨8, F_impl_NumText, okN (n := 0) Tryd.func8 (by kernel_rfl) (by kernel_rfl) trivial ev8⟩
noncomputable def F_laws_FnExactNumText (x : Int) : Option Bool :=
  Option.bind (F_spec_NumText x) fun r1 => Option.bind (F_impl_NumText x) fun r2 => bif (!((ByteArray.toList r2) == (ByteArray.toList r1))) then some false else some true
theorem ev3 : EV [q7, q8] lpN 3 Tryd.f3 sg3 [(.int .i64)] [.bool] F_laws_FnExactNumText := fun x => by kernel_rfl
noncomputable def q3 : QF := ⟨3, F_laws_FnExactNumText, okN (n := 0) Tryd.func3 (by kernel_rfl) (by kernel_rfl) trivial ev3⟩
noncomputable def F_spec_KeyText (x : Qz2) : Option ByteArray :=
  Option.bind (F_spec_NumText x.1) fun r1 => if ByteArray.size r1 + ByteArray.size ({ data := #[46] }) < 140737488355328 then Option.bind (F_spec_NumText x.2.1) fun r2 => if ByteArray.size (show ByteArray from (show ByteArray from r1) ++ (show ByteArray from { data := #[46] })) + ByteArray.size r2 < 140737488355328 then bif (x.2.2.1 == (1 : Int)) then if ByteArray.size (show ByteArray from (show ByteArray from (show ByteArray from (show ByteArray from r1) ++ (show ByteArray from { data := #[46] }))) ++ (show ByteArray from r2)) + ByteArray.size ({ data := #[61] }) < 140737488355328 then Option.bind (F_spec_NumText x.2.2.2.1) fun r3 => if ByteArray.size (show ByteArray from (show ByteArray from (show ByteArray from (show ByteArray from (show ByteArray from (show ByteArray from r1) ++ (show ByteArray from { data := #[46] }))) ++ (show ByteArray from r2))) ++ (show ByteArray from { data := #[61] })) + ByteArray.size r3 < 140737488355328 then some (show ByteArray from (show ByteArray from (show ByteArray from (show ByteArray from (show ByteArray from (show ByteArray from (show ByteArray from (show ByteArray from r1) ++ (show ByteArray from { data := #[46] }))) ++ (show ByteArray from r2))) ++ (show ByteArray from { data := #[61] }))) ++ (show ByteArray from r3)) else none else none else bif (x.2.2.1 == (2 : Int)) then if ByteArray.size (show ByteArray from (show ByteArray from (show ByteArray from (show ByteArray from r1) ++ (show ByteArray from { data := #[46] }))) ++ (show ByteArray from r2)) + ByteArray.size ({ data := #[45] }) < 140737488355328 then some (show ByteArray from (show ByteArray from (show ByteArray from (show ByteArray from (show ByteArray from (show ByteArray from r1) ++ (show ByteArray from { data := #[46] }))) ++ (show ByteArray from r2))) ++ (show ByteArray from { data := #[45] })) else none else if ByteArray.size (show ByteArray from (show ByteArray from (show ByteArray from (show ByteArray from r1) ++ (show ByteArray from { data := #[46] }))) ++ (show ByteArray from r2)) + ByteArray.size ({ data := #[63] }) < 140737488355328 then some (show ByteArray from (show ByteArray from (show ByteArray from (show ByteArray from (show ByteArray from (show ByteArray from r1) ++ (show ByteArray from { data := #[46] }))) ++ (show ByteArray from r2))) ++ (show ByteArray from { data := #[63] })) else none else none else none
theorem ev9 : EV [q7] lpN 9 Tryd.f9 sg9 qz2 [.str] F_spec_KeyText := fun x => by kernel_rfl
noncomputable def q9 : QF := ⟨9, F_spec_KeyText, okN (n := 0) Tryd.func9 (by kernel_rfl) (by kernel_rfl) trivial ev9⟩
noncomputable def F_laws_toKey (x : Qz2) : Option Qz2 :=
  some (x.1, x.2.1, x.2.2.1, x.2.2.2.1, x.2.2.2.2)
theorem ev10 : EV [] lpN 10 Tryd.f10 sg10 qz2 qz2 F_laws_toKey := fun x => by kernel_rfl
noncomputable def q10 : QF := ⟨10, F_laws_toKey, okN (n := 0) Tryd.func10 (by kernel_rfl) (by kernel_rfl) trivial ev10⟩
noncomputable def F_impl_KeyText (x : Qz2) : Option ByteArray :=
  Option.bind (F_impl_NumText x.1) fun r1 => if ByteArray.size r1 + ByteArray.size ({ data := #[46] }) < 140737488355328 then Option.bind (F_impl_NumText x.2.1) fun r2 => if ByteArray.size (show ByteArray from (show ByteArray from r1) ++ (show ByteArray from { data := #[46] })) + ByteArray.size r2 < 140737488355328 then bif (x.2.2.1 == (1 : Int)) then if ByteArray.size (show ByteArray from (show ByteArray from (show ByteArray from (show ByteArray from r1) ++ (show ByteArray from { data := #[46] }))) ++ (show ByteArray from r2)) + ByteArray.size ({ data := #[61] }) < 140737488355328 then Option.bind (F_impl_NumText x.2.2.2.1) fun r3 => if ByteArray.size (show ByteArray from (show ByteArray from (show ByteArray from (show ByteArray from (show ByteArray from (show ByteArray from r1) ++ (show ByteArray from { data := #[46] }))) ++ (show ByteArray from r2))) ++ (show ByteArray from { data := #[61] })) + ByteArray.size r3 < 140737488355328 then some (show ByteArray from (show ByteArray from (show ByteArray from (show ByteArray from (show ByteArray from (show ByteArray from (show ByteArray from (show ByteArray from r1) ++ (show ByteArray from { data := #[46] }))) ++ (show ByteArray from r2))) ++ (show ByteArray from { data := #[61] }))) ++ (show ByteArray from r3)) else none else none else bif (x.2.2.1 == (2 : Int)) then if ByteArray.size (show ByteArray from (show ByteArray from (show ByteArray from (show ByteArray from r1) ++ (show ByteArray from { data := #[46] }))) ++ (show ByteArray from r2)) + ByteArray.size ({ data := #[45] }) < 140737488355328 then some (show ByteArray from (show ByteArray from (show ByteArray from (show ByteArray from (show ByteArray from (show ByteArray from r1) ++ (show ByteArray from { data := #[46] }))) ++ (show ByteArray from r2))) ++ (show ByteArray from { data := #[45] })) else none else if ByteArray.size (show ByteArray from (show ByteArray from (show ByteArray from (show ByteArray from r1) ++ (show ByteArray from { data := #[46] }))) ++ (show ByteArray from r2)) + ByteArray.size ({ data := #[63] }) < 140737488355328 then some (show ByteArray from (show ByteArray from (show ByteArray from (show ByteArray from (show ByteArray from (show ByteArray from r1) ++ (show ByteArray from { data := #[46] }))) ++ (show ByteArray from r2))) ++ (show ByteArray from { data := #[63] })) else none else none else none
theorem ev11 : EV [q8] lpN 11 Tryd.f11 sg11 qz2 [.str] F_impl_KeyText := fun x => by kernel_rfl
noncomputable def q11 : QF := ⟨11, F_impl_KeyText, okN (n := 0) Tryd.func11 (by kernel_rfl) (by kernel_rfl) trivial ev11⟩
noncomputable def F_laws_FnExactKeyText (x : Qz2) : Option Bool :=
  Option.bind (F_laws_toKey (x.1, x.2.1, x.2.2.1, x.2.2.2.1, x.2.2.2.2)) fun r1 => Option.bind (F_spec_KeyText (r1.1, r1.2.1, r1.2.2.1, r1.2.2.2.1, r1.2.2.2.2)) fun r2 => Option.bind (F_laws_toKey (x.1, x.2.1, x.2.2.1, x.2.2.2.1, x.2.2.2.2)) fun r3 => Option.bind (F_impl_KeyText (r3.1, r3.2.1, r3.2.2.1, r3.2.2.2.1, r3.2.2.2.2)) fun r4 => bif (!((ByteArray.toList r4) == (ByteArray.toList r2))) then some false else some true
theorem ev4 : EV [q9, q10, q11] lpN 4 Tryd.f4 sg4 qz2 [.bool] F_laws_FnExactKeyText := fun x => by kernel_rfl
noncomputable def q4 : QF := ⟨4, F_laws_FnExactKeyText, okN (n := 0) Tryd.func4 (by kernel_rfl) (by kernel_rfl) trivial ev4⟩
noncomputable def F_laws_szIntS (x : Qz3) : Option Int :=
  bif (decide ((Go.IntKind.wrap .i64 (x.2 - ((List.length x.1 : Nat) : Int))) < (0 : Int))) then some (-1 : Int) else some (Go.IntKind.wrap .i64 (x.2 - ((List.length x.1 : Nat) : Int)))
theorem ev20 : EV [] lpN 20 Tryd.f20 sg20 qz3 [(.int .i64)] F_laws_szIntS := fun x => by kernel_rfl
noncomputable def q20 : QF := ⟨20, F_laws_szIntS, okN (n := 0) Tryd.func20 (by kernel_rfl) (by kernel_rfl) trivial ev20⟩
noncomputable def F_laws_szMap (x : Qz4) : Option Int :=
  bif (decide ((Go.IntKind.wrap .i64 (x.2.2.2 - ((ByteArray.size x.1 : Nat) : Int))) < (0 : Int))) then some (-1 : Int) else Option.bind (F_laws_szIntS (x.2.2.1, (Go.IntKind.wrap .i64 (x.2.2.2 - ((ByteArray.size x.1 : Nat) : Int))))) fun r1 => bif (decide (r1 < (0 : Int))) then some (-1 : Int) else some r1
theorem ev12 : EV [q20] lpN 12 Tryd.f12 sg12 qz4 [(.int .i64)] F_laws_szMap := fun x => by kernel_rfl
noncomputable def q12 : QF := ⟨12, F_laws_szMap, okN (n := 0) Tryd.func12 (by kernel_rfl) (by kernel_rfl) trivial ev12⟩
abbrev T_spec_MapText_6 : Type := Qz5
noncomputable def S_spec_MapText_6 {R : Type} (k0 : ByteArray → Option R) (again : T_spec_MapText_6 → Option R) (t6 : T_spec_MapText_6) : Option R :=
  bif (decide (t6.2.1 < ((List.length t6.2.2.2.2 : Nat) : Int))) then bif (decide (t6.2.1 > (0 : Int))) then if ByteArray.size t6.1 + ByteArray.size ({ data := #[44] }) < 140737488355328 then if (0 : Int) ≤ t6.2.1 then if t6.2.1 < ((List.length t6.2.2.2.2 : Nat) : Int) then Option.bind (F_spec_NumText (rd_i64 t6.2.2.2.2 t6.2.1)) fun r4 => if ByteArray.size (show ByteArray from (show ByteArray from t6.1) ++ (show ByteArray from { data := #[44] })) + ByteArray.size r4 < 140737488355328 then again ((show ByteArray from (show ByteArray from (show ByteArray from (show ByteArray from t6.1) ++ (show ByteArray from { data := #[44] }))) ++ (show ByteArray from r4)), (Go.IntKind.wrap .i64 (t6.2.1 + (1 : Int))), t6.2.2.1, t6.2.2.2.1, t6.2.2.2.2) else none else none else none else none else if (0 : Int) ≤ t6.2.1 then if t6.2.1 < ((List.length t6.2.2.2.2 : Nat) : Int) then Option.bind (F_spec_NumText (rd_i64 t6.2.2.2.2 t6.2.1)) fun r5 => if ByteArray.size t6.1 + ByteArray.size r5 < 140737488355328 then again ((show ByteArray from (show ByteArray from t6.1) ++ (show ByteArray from r5)), (Go.IntKind.wrap .i64 (t6.2.1 + (1 : Int))), t6.2.2.1, t6.2.2.2.1, t6.2.2.2.2) else none else none else none else k0 t6.1
noncomputable def L_spec_MapText_6 {R : Type} (k0 : ByteArray → Option R) (t : T_spec_MapText_6) : Option R := iter (S_spec_MapText_6 k0) FUEL t
noncomputable def F_spec_MapText (x : Qz6) : Option ByteArray :=
  bif x.2.1 then if ByteArray.size x.1 + ByteArray.size ({ data := #[33] }) < 140737488355328 then if ByteArray.size (show ByteArray from (show ByteArray from x.1) ++ (show ByteArray from { data := #[33] })) + ByteArray.size ({ data := #[58] }) < 140737488355328 then L_spec_MapText_6 (fun x3 => some x3) ((show ByteArray from (show ByteArray from (show ByteArray from (show ByteArray from x.1) ++ (show ByteArray from { data := #[33] }))) ++ (show ByteArray from { data := #[58] })), (0 : Int), x.1, x.2.1, x.2.2) else none else none else if ByteArray.size x.1 + ByteArray.size ({ data := #[58] }) < 140737488355328 then L_spec_MapText_6 (fun x6 => some x6) ((show ByteArray from (show ByteArray from x.1) ++ (show ByteArray from { data := #[58] })), (0 : Int), x.1, x.2.1, x.2.2) else none
noncomputable def f13Q : List QF := [q7]
def f13e6_0 (t : Qz5) : St := ⟨.dead :: .box 1 0 :: .dead :: vS t.1 :: vI t.2.1 :: dd 28 [], [(1, .box [vS t.2.2.1, vB t.2.2.2.1, v_i64 t.2.2.2.2])]⟩
noncomputable def f13g6 : Gk T_spec_MapText_6 := fun κ => S_spec_MapText_6 (fun t => κ (some 0) ⟨dd 3 (vS t :: dd 29 []), []⟩)
noncomputable def f13P : Lp := lpC 6 (unG qz5 f13e6_0) @f13g6 lpN
theorem f13C6 : LF f13Q f13P 13 6 Tryd.f13 0 f13e6_0 @f13g6 fun t => t := fun R κ again t => by kernel_rfl
theorem f13k6 : LK f13Q f13P 13 Tryd.f13 0 := loop_okG (u := (unG qz5 f13e6_0)) (by kernel_rfl) (unG_ok fun t => by kernel_rfl) (fun R κ s => by kernel_rfl) f13C6
theorem ev13 : EV f13Q f13P 13 Tryd.f13 sg13 qz6 [.str] F_spec_MapText := fun x => by kernel_rfl
noncomputable def q13 : QF := ⟨13, F_spec_MapText, okN (n := 1) Tryd.func13 (by kernel_rfl) (by kernel_rfl) ⟨f13k6, trivial⟩ ev13⟩
abbrev T_laws_toIntS_3 : Type := Qz7
noncomputable def S_laws_toIntS_3 {R : Type} (k0 : List E_i64 → Option R) (again : T_laws_toIntS_3 → Option R) (t3 : T_laws_toIntS_3) : Option R :=
  bif (decide (t3.2.1 < ((List.length t3.1 : Nat) : Int))) then if (0 : Int) ≤ t3.2.1 then if t3.2.1 < ((List.length t3.1 : Nat) : Int) then if (0 : Int) ≤ t3.2.1 then if t3.2.1 < ((List.length t3.2.2 : Nat) : Int) then again (t3.1, (Go.IntKind.wrap .i64 (t3.2.1 + (1 : Int))), (List.set t3.2.2 (Int.toNat t3.2.1) (rd_i64 t3.1 t3.2.1))) else none else none else none else none else k0 t3.2.2
noncomputable def L_laws_toIntS_3 {R : Type} (k0 : List E_i64 → Option R) (t : T_laws_toIntS_3) : Option R := iter (S_laws_toIntS_3 k0) FUEL t
noncomputable def F_laws_toIntS (x : List E_i64) : Option (List E_i64) :=
  if (0 : Int) ≤ ((List.length x : Nat) : Int) then if ((List.length x : Nat) : Int) ≤ ((List.length x : Nat) : Int) then if ((List.length x : Nat) : Int) * ((8 : Nat) : Int) ≤ 140737488351232 then L_laws_toIntS_3 (fun x1 => some x1) (x, (0 : Int), (List.replicate (Int.toNat ((List.length x : Nat) : Int)) z_i64)) else none else none else none
noncomputable def f21Q : List QF := []
def f21e3_0 (t : Qz7) : St := ⟨v_i64 t.1 :: dd 2 (.own 10000000 :: vI t.2.1 :: dd 17 []), [(10000000, .root true 3 ts_i64 t.2.2)]⟩
noncomputable def f21g3 : Gk T_laws_toIntS_3 := fun κ => S_laws_toIntS_3 (fun t => κ (some 0) ⟨dd 3 (.own 10000000 :: dd 18 []), [(10000000, .root true 3 ts_i64 t)]⟩)
noncomputable def f21P : Lp := lpC 3 (unG qz7 f21e3_0) @f21g3 lpN
theorem f21C3 : LF f21Q f21P 21 3 Tryd.f21 0 f21e3_0 @f21g3 fun t => t := fun R κ again t => by kernel_rfl
theorem f21k3 : LK f21Q f21P 21 Tryd.f21 0 := loop_okG (u := (unG qz7 f21e3_0)) (by kernel_rfl) (unG_ok fun t => by kernel_rfl) (fun R κ s => by kernel_rfl) f21C3
theorem ev21 : EV f21Q f21P 21 Tryd.f21 sg21 [(.sl 3 ts_i64)] [(.sl 3 ts_i64)] F_laws_toIntS := fun x => by kernel_rfl
noncomputable def q21 : QF := ⟨21, F_laws_toIntS, okN (n := 1) Tryd.func21 (by kernel_rfl) (by kernel_rfl) ⟨f21k3, trivial⟩ ev21⟩
noncomputable def F_laws_toMap (x : Qz6) : Option Qz6 :=
  Option.bind (F_laws_toIntS x.2.2) fun r1 => some (x.1, x.2.1, r1)
theorem ev14 : EV [q21] lpN 14 Tryd.f14 sg14 qz6 qz6 F_laws_toMap := fun x => by kernel_rfl
noncomputable def q14 : QF := ⟨14, F_laws_toMap, okN (n := 0) Tryd.func14 (by kernel_rfl) (by kernel_rfl) trivial ev14⟩
/-- strings.Join. -/
def joinB (xs : List ByteArray) (sep : ByteArray) : ByteArray := ⟨(Lib.join (xs.map (·.data.toList)) sep.data.toList).toArray⟩
def F_strings_Join (x : List ByteArray × ByteArray) : Option ByteArray := if x.1.length = 0 then some ⟨#[]⟩ else if x.1.length ≤ 140737488355328 then if (joinB x.1 x.2).size ≤ 140737488355328 then some (joinB x.1 x.2) else none else none
theorem join_call (xs : List ByteArray) (sep y : ByteArray) (hF : F_strings_Join (xs, sep) = some y) (w : World) (H : Hp) (hH : H.le (heapOf w)) (A : Option Addr) (c : Nat) (hcap : xs.length ≤ c) (hrd : 0 < xs.length → ∃ ad, A = some ad ∧ ∀ (j : Nat) (x : ByteArray), xs[j]? = some x → RdE H [.str] x (fun i => cellH H (ad.add (j * 1 + i)))) :
    Calls Tryd.prog 22 #[.slice A xs.length c, .string sep] w fun e w' => e = .returned (.string y) ∧ Go.RowKit.Below w.heap.size w w' := by
  unfold F_strings_Join at hF
  simp only at hF
  by_cases h0 : xs.length = 0
  · rw [if_pos h0] at hF
    injection hF with hF
    subst hF
    rw [h0]
    exact (Tryd.strings_Join_none A c sep w).mono fun e w' ⟨he, hw⟩ => ⟨he, by rw [hw]; exact Go.RowKit.Below.refl _ w⟩
  · rw [if_neg h0] at hF
    split at hF
    · rename_i h1
      split at hF
      · rename_i h2
        injection hF with hF
        subst hF
        obtain ⟨ad, rfl, hcell⟩ := hrd (by omega)
        have hcell' : ∀ (j : Nat) (z : ByteArray), xs[j]? = some z → cellH H (ad.add j) = some (.string z) := fun j z hz => by
          obtain ⟨v, hv, hr⟩ := hcell j z hz
          have hr' : v = .string z := hr
          subst hr'
          simpa using hv
        obtain ⟨b, o, sp⟩ := ad
        cases sp with
        | some q =>
          have := hcell' 0 (xs[0]'(by omega)) (List.getElem?_eq_getElem (by omega))
          have e : (⟨b, o, some q⟩ : Addr).add 0 = ⟨b, o, some q⟩ := by simp [Addr.add]
          rw [e] at this
          unfold cellH at this
          split at this <;> simp at this
        | none =>
          have hw : ∀ (j : Nat) (z : ByteArray), xs[j]? = some z → w.cell? ⟨b, o + j, none⟩ = some (.string z) := fun j z hz => by
            have := cellH_le hH (hcell' j z hz)
            rw [cellH_heap, add_at] at this
            exact this
          have hb : b < w.heap.size := by
            have hc0 := hw 0 (xs[0]'(by omega)) (List.getElem?_eq_getElem (by omega))
            cases hk : w.heap[b]? with
            | none => simp [World.cell?, hk] at hc0
            | some ob => exact (Array.getElem?_eq_some_iff.1 hk).1
          have hz : (joinB xs sep).size = (Lib.join (xs.map (·.data.toList)) sep.data.toList).length := by simp [joinB, ByteArray.size]
          exact Tryd.strings_Join b o c xs sep w hw hb h1 hcap (by omega)
      · cases hF
    · cases hF
theorem sig22 : C.sig 22 = some sg22 := by kernel_rfl
theorem ok22 : ContractAt C Tryd.prog 22 F_strings_Join := by
  intro sg x y hs hF w H args vs bs pb hgl hH hc ha hsp hp hx hd
  obtain rfl := Option.some.inj (hs.symm.trans sig22)
  refine hand_core (ins := [.sl 9 ts_string, .str]) (outs := [.str]) (x := x) (y := y) (g := 22) (by kernel_rfl) (by kernel_rfl) Tryd.func22 (by decide) (Option.ne_none_iff_isSome.2 (by kernel_rfl)) hH hc hsp fun hr hl hs' => ?_
  obtain ⟨arg, vs1, args1, vs2, rfl, rfl, hl1, e1, hs1⟩ := hs'
  obtain ⟨arg2, vs3, args3, vs4, rfl, rfl, hl3, e3, rfl, rfl, _⟩ := hs1
  obtain rfl : vs1 = [arg] := e1
  obtain rfl : vs3 = [arg2] := e3
  obtain ⟨⟨v, hv, hrv⟩, u, hu, hru⟩ := hr
  obtain rfl : arg = v := by simpa using hv
  obtain rfl : arg2 = u := by simpa using hu
  obtain rfl : arg2 = .string x.2 := hru
  obtain ⟨A, c, rfl, hcap, hlen, hrd⟩ := hrv
  exact (join_call x.1 x.2 y hF w H hH A c hcap hrd).mono fun e w' ⟨he, hb⟩ => ⟨[.string y], he, ⟨[.string y], [], _, [], rfl, rfl, rfl, rfl, rfl, rfl⟩, hb⟩
noncomputable def q22 : QF := ⟨22, F_strings_Join, ok22⟩
abbrev T_impl_MapText_6 : Type := Qz8
noncomputable def S_impl_MapText_6 {R : Type} (k0 : Qz9 → Option R) (again : T_impl_MapText_6 → Option R) (t6 : T_impl_MapText_6) : Option R :=
  bif (decide (t6.2.2.2.1 < t6.2.2.1)) then if (0 : Int) ≤ t6.2.2.2.1 then if t6.2.2.2.1 < ((List.length t6.2.1 : Nat) : Int) then Option.bind (F_impl_NumText (rd_i64 t6.2.1 t6.2.2.2.1)) fun r4 => if (List.length t6.2.2.2.2 + List.length ([r4] : List E_string)) * 16 < 140737488355328 then again (t6.1, t6.2.1, t6.2.2.1, (Go.IntKind.wrap .i64 (t6.2.2.2.1 + (1 : Int))), (t6.2.2.2.2 ++ ([r4] : List E_string))) else none else none else none else k0 (t6.1, t6.2.2.2.2)
noncomputable def L_impl_MapText_6 {R : Type} (k0 : Qz9 → Option R) (t : T_impl_MapText_6) : Option R := iter (S_impl_MapText_6 k0) FUEL t
noncomputable def F_impl_MapText (x : Qz6) : Option ByteArray :=
  bif x.2.1 then if ByteArray.size x.1 + ByteArray.size ({ data := #[33] }) < 140737488355328 then L_impl_MapText_6 (fun x2 => if ByteArray.size x2.1 + ByteArray.size ({ data := #[58] }) < 140737488355328 then Option.bind (F_strings_Join (x2.2, { data := #[44] })) fun r3 => if ByteArray.size (show ByteArray from (show ByteArray from x2.1) ++ (show ByteArray from { data := #[58] })) + ByteArray.size r3 < 140737488355328 then some (show ByteArray from (show ByteArray from (show ByteArray from (show ByteArray from x2.1) ++ (show ByteArray from { data := #[58] }))) ++ (show ByteArray from r3)) else none else none) ((show ByteArray from (show ByteArray from x.1) ++ (show ByteArray from { data := #[33] })), x.2.2, ((List.length x.2.2 : Nat) : Int), (0 : Int), ([] : List E_string)) else none else L_impl_MapText_6 (fun x5 => if ByteArray.size x5.1 + ByteArray.size ({ data := #[58] }) < 140737488355328 then Option.bind (F_strings_Join (x5.2, { data := #[44] })) fun r6 => if ByteArray.size (show ByteArray from (show ByteArray from x5.1) ++ (show ByteArray from { data := #[58] })) + ByteArray.size r6 < 140737488355328 then some (show ByteArray from (show ByteArray from (show ByteArray from (show ByteArray from x5.1) ++ (show ByteArray from { data := #[58] }))) ++ (show ByteArray from r6)) else none else none) (x.1, x.2.2, ((List.length x.2.2 : Nat) : Int), (0 : Int), ([] : List E_string))
noncomputable def f15Q : List QF := [q8, q22]
def f15e6_0 (t : Qz8) : St := ⟨dd 3 (vS t.1 :: .own 10000000 :: dd 10 (v_i64 t.2.1 :: vI t.2.2.1 :: vI t.2.2.2.1 :: dd 14 [])), [(10000000, .root true 9 ts_string t.2.2.2.2)]⟩
noncomputable def f15g6 : Gk T_impl_MapText_6 := fun κ => S_impl_MapText_6 (fun t => κ (some 0) ⟨dd 3 (vS t.1 :: .own 10000000 :: dd 27 []), [(10000000, .root true 9 ts_string t.2)]⟩)
noncomputable def f15P : Lp := lpC 6 (unG qz8 f15e6_0) @f15g6 lpN
theorem f15C6 : LF f15Q f15P 15 6 Tryd.f15 0 f15e6_0 @f15g6 fun t => t := fun R κ again t => by kernel_rfl
theorem f15k6 : LK f15Q f15P 15 Tryd.f15 0 := loop_okG (u := (unG qz8 f15e6_0)) (by kernel_rfl) (unG_ok fun t => by kernel_rfl) (fun R κ s => by kernel_rfl) f15C6
theorem ev15 : EV f15Q f15P 15 Tryd.f15 sg15 qz6 [.str] F_impl_MapText := fun x => by kernel_rfl
noncomputable def q15 : QF := ⟨15, F_impl_MapText, okN (n := 1) Tryd.func15 (by kernel_rfl) (by kernel_rfl) ⟨f15k6, trivial⟩ ev15⟩
abbrev T_laws_eqIntS_4 : Type := Qz10
noncomputable def S_laws_eqIntS_4 {R : Type} (k0 : Bool → Option R) (k1 : Unit → Option R) (again : T_laws_eqIntS_4 → Option R) (t4 : T_laws_eqIntS_4) : Option R :=
  bif (decide (t4.2.2 < ((List.length t4.1 : Nat) : Int))) then if (0 : Int) ≤ t4.2.2 then if t4.2.2 < ((List.length t4.1 : Nat) : Int) then if (0 : Int) ≤ t4.2.2 then if t4.2.2 < ((List.length t4.2.1 : Nat) : Int) then bif ((rd_i64 t4.1 t4.2.2) != (rd_i64 t4.2.1 t4.2.2)) then k0 false else again (t4.1, t4.2.1, (Go.IntKind.wrap .i64 (t4.2.2 + (1 : Int)))) else none else none else none else none else k1 ()
noncomputable def L_laws_eqIntS_4 {R : Type} (k0 : Bool → Option R) (k1 : Unit → Option R) (t : T_laws_eqIntS_4) : Option R := iter (S_laws_eqIntS_4 k0 k1) FUEL t
noncomputable def F_laws_eqIntS (x : Qz11) : Option Bool :=
  bif (((List.length x.1 : Nat) : Int) != ((List.length x.2 : Nat) : Int)) then some false else L_laws_eqIntS_4 (fun x1 => some x1) (fun x2 => some true) (x.1, x.2, (0 : Int))
noncomputable def f23Q : List QF := []
def f23e4_0 (t : Qz10) : St := ⟨v_i64 t.1 :: v_i64 t.2.1 :: dd 3 (vI t.2.2 :: dd 20 []), []⟩
noncomputable def f23g4 : Gk T_laws_eqIntS_4 := fun κ => S_laws_eqIntS_4 (fun t => κ none ⟨dd 4 (vB t :: dd 21 []), []⟩) (fun t => κ (some 0) ⟨dd 26 [], []⟩)
noncomputable def f23P : Lp := lpC 4 (unG qz10 f23e4_0) @f23g4 lpN
theorem f23C4 : LF f23Q f23P 23 4 Tryd.f23 0 f23e4_0 @f23g4 fun t => t := fun R κ again t => by kernel_rfl
theorem f23k4 : LK f23Q f23P 23 Tryd.f23 0 := loop_okG (u := (unG qz10 f23e4_0)) (by kernel_rfl) (unG_ok fun t => by kernel_rfl) (fun R κ s => by kernel_rfl) f23C4
theorem ev23 : EV f23Q f23P 23 Tryd.f23 sg23 qz11 [.bool] F_laws_eqIntS := fun x => by kernel_rfl
noncomputable def q23 : QF := ⟨23, F_laws_eqIntS, okN (n := 1) Tryd.func23 (by kernel_rfl) (by kernel_rfl) ⟨f23k4, trivial⟩ ev23⟩
noncomputable def F_laws_eqMap (x : Qz12) : Option Bool :=
  bif (!((ByteArray.toList x.1) == (ByteArray.toList x.2.2.2.1))) then some false else bif (!(x.2.1 == x.2.2.2.2.1)) then some false else Option.bind (F_laws_eqIntS (x.2.2.1, x.2.2.2.2.2)) fun r1 => bif (!r1) then some false else some true
theorem ev16 : EV [q23] lpN 16 Tryd.f16 sg16 qz12 [.bool] F_laws_eqMap := fun x => by kernel_rfl
noncomputable def q16 : QF := ⟨16, F_laws_eqMap, okN (n := 0) Tryd.func16 (by kernel_rfl) (by kernel_rfl) trivial ev16⟩
noncomputable def F_laws_FnExactMapText (x : Qz6) : Option Bool :=
  Option.bind (F_laws_szMap (x.1, x.2.1, x.2.2, (1048576 : Int))) fun r1 => bif (decide (r1 < (0 : Int))) then some true else Option.bind (F_laws_toMap (x.1, x.2.1, x.2.2)) fun r2 => Option.bind (F_spec_MapText (r2.1, r2.2.1, r2.2.2)) fun r3 => Option.bind (F_laws_toMap (x.1, x.2.1, x.2.2)) fun r4 => Option.bind (F_impl_MapText (r4.1, r4.2.1, r4.2.2)) fun r5 => bif (!((ByteArray.toList r5) == (ByteArray.toList r3))) then some false else Option.bind (F_laws_toMap (x.1, x.2.1, x.2.2)) fun r6 => Option.bind (F_laws_eqMap (r4.1, r4.2.1, r4.2.2, r6.1, r6.2.1, r6.2.2)) fun r7 => bif (!r7) then some false else some true
theorem ev5 : EV [q12, q13, q14, q15, q16] lpN 5 Tryd.f5 sg5 qz6 [.bool] F_laws_FnExactMapText := fun x => by kernel_rfl
noncomputable def q5 : QF := ⟨5, F_laws_FnExactMapText, okN (n := 0) Tryd.func5 (by kernel_rfl) (by kernel_rfl) trivial ev5⟩
end Go.Proofs.YtmanmgafjbnakaaDoor.XN
