/- What functions compute, and that they do; part 1 of Q; by a program (dec.py). No condition. -/
import Derived.Test.YtmofdkmggfdciaaDQ0
namespace Go.Proofs.Ytmofdkmggfdciaa.XQ
open Go.Proofs.Ytmofdkmggfdciaa.R
set_option linter.unusedVariables false
set_option maxRecDepth 100000

/-! ### 52: laws.eqVolS -/
abbrev T_laws_eqVolS_4 : Type := List E_Vol × List E_Vol × Int
noncomputable def S_laws_eqVolS_4 {R : Type} (k0 : Bool → Option R) (k1 : Unit → Option R) (again : T_laws_eqVolS_4 → Option R) (t4 : T_laws_eqVolS_4) : Option R :=
  bif (decide (t4.2.2 < ((List.length t4.1 : Nat) : Int))) then if (0 : Int) ≤ t4.2.2 then if t4.2.2 < ((List.length t4.1 : Nat) : Int) then if (0 : Int) ≤ t4.2.2 then if t4.2.2 < ((List.length t4.2.1 : Nat) : Int) then Option.bind (F_laws_eqVol ((rd_Vol t4.1 t4.2.2).1, (rd_Vol t4.1 t4.2.2).2.1, (rd_Vol t4.1 t4.2.2).2.2.1, (rd_Vol t4.1 t4.2.2).2.2.2, (rd_Vol t4.2.1 t4.2.2).1, (rd_Vol t4.2.1 t4.2.2).2.1, (rd_Vol t4.2.1 t4.2.2).2.2.1, (rd_Vol t4.2.1 t4.2.2).2.2.2)) fun r1 => bif (!r1) then k0 false else again (t4.1, t4.2.1, (Go.IntKind.wrap .i64 (t4.2.2 + (1 : Int)))) else none else none else none else none else k1 ()
noncomputable def L_laws_eqVolS_4 {R : Type} (k0 : Bool → Option R) (k1 : Unit → Option R) (t : T_laws_eqVolS_4) : Option R := iter (S_laws_eqVolS_4 k0 k1) FUEL t
noncomputable def F_laws_eqVolS (x : List E_Vol × List E_Vol) : Option (Bool) :=
  bif (((List.length x.1 : Nat) : Int) != ((List.length x.2 : Nat) : Int)) then some false else L_laws_eqVolS_4 (fun x2 => some x2) (fun x3 => some true) (x.1, x.2, (0 : Int))
noncomputable def f52B : Code := match Try.f52.body with
  | some c => c
  | none => .skip
noncomputable def f52K : C.Sem := tab [⟨91, F_laws_eqVol⟩]
def f52h4_0 : List Sh := [.v (.sl 129 ts_Vol), .v (.sl 129 ts_Vol), .dead, .dead, .dead, .v (.int .i64), .dead, .dead, .dead, .dead, .dead, .dead, .dead, .dead, .dead, .dead, .dead, .dead, .dead, .dead, .dead, .dead, .dead, .dead, .dead, .dead, .dead]
def f52o4_0 : List (Nat × OSh) := []
def f52e4_0 (t : List E_Vol × List E_Vol × Int) : St := ⟨[.val (.sl 129 ts_Vol) t.1, .val (.sl 129 ts_Vol) t.2.1, .dead, .dead, .dead, .val (.int .i64) t.2.2, .dead, .dead, .dead, .dead, .dead, .dead, .dead, .dead, .dead, .dead, .dead, .dead, .dead, .dead, .dead, .dead, .dead, .dead, .dead, .dead, .dead], []⟩
def f52x4_0 (t : Bool) : St := ⟨[.dead, .dead, .dead, .dead, .val .bool t, .dead, .dead, .dead, .dead, .dead, .dead, .dead, .dead, .dead, .dead, .dead, .dead, .dead, .dead, .dead, .dead, .dead, .dead, .dead, .dead, .dead, .dead], []⟩
def f52x4_1 (t : Unit) : St := ⟨[.dead, .dead, .dead, .dead, .dead, .dead, .dead, .dead, .dead, .dead, .dead, .dead, .dead, .dead, .dead, .dead, .dead, .dead, .dead, .dead, .dead, .dead, .dead, .dead, .dead, .dead, .dead], []⟩
def f52u4_0 (s : St) : Option (List E_Vol × List E_Vol × Int) := (unS f52h4_0 f52o4_0 s).map fun v => (v.1.1, v.1.2.1, v.1.2.2.2.2.2.1)
theorem f52un4_0 : ∀ (s : St) (t : List E_Vol × List E_Vol × Int), f52u4_0 s = some t → f52e4_0 t = s := fun s v h => by
  obtain ⟨u, hu, rfl⟩ := Option.map_eq_some_iff.1 h
  exact (show f52e4_0 (u.1.1, u.1.2.1, u.1.2.2.2.2.2.1) = mkS f52h4_0 f52o4_0 u by kernel_rfl).trans (mkS_un f52h4_0 f52o4_0 s u hu)
def f52u4 : St → Option (List E_Vol × List E_Vol × Int) := f52u4_0
def f52e4 : (List E_Vol × List E_Vol × Int) → St := f52e4_0
theorem f52un4 : ∀ (s : St) (t : List E_Vol × List E_Vol × Int), f52u4 s = some t → f52e4 t = s := f52un4_0
noncomputable def f52P : Lp := fun i s {_R} κ => bif Nat.beq i 4 then (f52u4 s).bind fun t => L_laws_eqVolS_4 (fun t => κ (none) (f52x4_0 t)) (fun t => κ (some 0) (f52x4_1 t)) t else none
noncomputable def f52c4 : Code := (loopsOf f52B).getD 0 .skip
theorem f52A4 : C.live 52 (firstRegion f52c4) = some ([0, 1, 5], [4]) := by kernel_rfl
theorem f52B4 {R : Type} (κ : Option Nat → St → Option R) (s : St) : f52P (firstRegion f52c4) s κ = (f52u4 s).bind fun t => iter (S_laws_eqVolS_4 (fun t => κ (none) (f52x4_0 t)) (fun t => κ (some 0) (f52x4_1 t))) FUEL t := by kernel_rfl
theorem f52C4 {R : Type} (κ : Option Nat → St → Option R) (again : St → Option R) (t : T_laws_eqVolS_4) : stepL C f52K f52P 52 f52c4 [0, 1, 5] [4] κ again (f52e4 t) = S_laws_eqVolS_4 (fun t => κ (none) (f52x4_0 t)) (fun t => κ (some 0) (f52x4_1 t)) (fun t => again (f52e4 t)) t := by kernel_rfl
theorem f52ok4 : LoopOk C f52K f52P 52 f52c4 := loop_ok f52A4 f52e4 f52u4 f52un4 (fun {_R} κ => S_laws_eqVolS_4 (fun t => κ (none) (f52x4_0 t)) (fun t => κ (some 0) (f52x4_1 t))) (fun {_R} κ s => f52B4 κ s) (fun {_R} κ again t => f52C4 κ again t)
theorem k52 : Contract C Try.prog f52K := contract_tab _ (fun p hp => by
    simp only [List.mem_cons, List.mem_nil_iff, or_false] at hp
    rcases hp with rfl
    · exact ok91)
theorem ev52 (x : List E_Vol × List E_Vol) : evalB C f52K f52P 52 Try.f52 f52B ⟨[.v false [(.sl 129 ts_Vol)] [false], .v false [(.sl 129 ts_Vol)] [false]], [⟨false, [.bool], [false]⟩], false⟩ [(.sl 129 ts_Vol), (.sl 129 ts_Vol)] [.bool] x = F_laws_eqVolS x := by kernel_rfl
theorem ok52 : ContractAt C Try.prog 52 F_laws_eqVolS := fn_sound (lp := f52P) tok mixed k52 (by kernel_rfl) (fn := Try.f52) (c := f52B) (sg := ⟨[.v false [(.sl 129 ts_Vol)] [false], .v false [(.sl 129 ts_Vol)] [false]], [⟨false, [.bool], [false]⟩], false⟩) Try.func52 (by decide) (by kernel_rfl) (by kernel_rfl) (by kernel_rfl) (fun c' hc' => by
    rw [show loopsOf f52B = [f52c4] by kernel_rfl] at hc'
    simp only [List.mem_cons, List.mem_nil_iff, or_false] at hc'
    rcases hc' with rfl
    · exact f52ok4) (by decide) (by decide) (fun x y h => (ev52 x).trans h)

/-! ### 18: laws.eqPool -/
noncomputable def F_laws_eqPool (x : List E_i64 × List E_Node × List E_Age × List E_Cell × List E_Vol × Int × List E_i64 × List E_Node × List E_Age × List E_Cell × List E_Vol × Int) : Option (Bool) :=
  Option.bind (F_laws_eqTree (x.1, x.2.1, x.2.2.2.2.2.2.1, x.2.2.2.2.2.2.2.1)) fun r1 => bif (!r1) then some false else Option.bind (F_laws_eqAgeS (x.2.2.1, x.2.2.2.2.2.2.2.2.1)) fun r2 => bif (!r2) then some false else Option.bind (F_laws_eqCellS (x.2.2.2.1, x.2.2.2.2.2.2.2.2.2.1)) fun r3 => bif (!r3) then some false else Option.bind (F_laws_eqVolS (x.2.2.2.2.1, x.2.2.2.2.2.2.2.2.2.2.1)) fun r4 => bif (!r4) then some false else bif (x.2.2.2.2.2.1 != x.2.2.2.2.2.2.2.2.2.2.2) then some false else some true
noncomputable def f18B : Code := match Try.f18.body with
  | some c => c
  | none => .skip
noncomputable def f18K : C.Sem := tab [⟨49, F_laws_eqTree⟩, ⟨50, F_laws_eqAgeS⟩, ⟨51, F_laws_eqCellS⟩, ⟨52, F_laws_eqVolS⟩]
noncomputable def f18P : Lp := fun i s {_R} κ => none
theorem k18 : Contract C Try.prog f18K := contract_tab _ (fun p hp => by
    simp only [List.mem_cons, List.mem_nil_iff, or_false] at hp
    rcases hp with rfl | rfl | rfl | rfl
    · exact ok49
    · exact ok50
    · exact ok51
    · exact ok52)
theorem ev18 (x : List E_i64 × List E_Node × List E_Age × List E_Cell × List E_Vol × Int × List E_i64 × List E_Node × List E_Age × List E_Cell × List E_Vol × Int) : evalB C f18K f18P 18 Try.f18 f18B ⟨[.v true [(.sl 3 ts_i64), (.sl 128 ts_Node), (.sl 134 ts_Age), (.sl 138 ts_Cell), (.sl 129 ts_Vol), (.int .i64)] [false, false, false, false, false, false], .v true [(.sl 3 ts_i64), (.sl 128 ts_Node), (.sl 134 ts_Age), (.sl 138 ts_Cell), (.sl 129 ts_Vol), (.int .i64)] [false, false, false, false, false, false]], [⟨false, [.bool], [false]⟩], false⟩ [(.sl 3 ts_i64), (.sl 128 ts_Node), (.sl 134 ts_Age), (.sl 138 ts_Cell), (.sl 129 ts_Vol), (.int .i64), (.sl 3 ts_i64), (.sl 128 ts_Node), (.sl 134 ts_Age), (.sl 138 ts_Cell), (.sl 129 ts_Vol), (.int .i64)] [.bool] x = F_laws_eqPool x := by kernel_rfl
theorem ok18 : ContractAt C Try.prog 18 F_laws_eqPool := fn_sound (lp := f18P) tok mixed k18 (by kernel_rfl) (fn := Try.f18) (c := f18B) (sg := ⟨[.v true [(.sl 3 ts_i64), (.sl 128 ts_Node), (.sl 134 ts_Age), (.sl 138 ts_Cell), (.sl 129 ts_Vol), (.int .i64)] [false, false, false, false, false, false], .v true [(.sl 3 ts_i64), (.sl 128 ts_Node), (.sl 134 ts_Age), (.sl 138 ts_Cell), (.sl 129 ts_Vol), (.int .i64)] [false, false, false, false, false, false]], [⟨false, [.bool], [false]⟩], false⟩) Try.func18 (by decide) (by kernel_rfl) (by kernel_rfl) (by kernel_rfl) (fun c' hc' => by
    rw [show loopsOf f18B = [] by kernel_rfl] at hc'
    cases hc') (by decide) (by decide) (fun x y h => (ev18 x).trans h)

/-! ### 4: laws.FnExactDistinct -/
noncomputable def F_laws_FnExactDistinct (x : List E_i64 × List E_LNode × List E_LAge × List E_LCell × List E_LVol × Int) : Option (Bool) :=
  Option.bind (F_laws_szPool (x.1, x.2.1, x.2.2.1, x.2.2.2.1, x.2.2.2.2.1, x.2.2.2.2.2, (1048576 : Int))) fun r1 => bif (decide (r1 < (0 : Int))) then some true else Option.bind (F_laws_toPool (x.1, x.2.1, x.2.2.1, x.2.2.2.1, x.2.2.2.2.1, x.2.2.2.2.2)) fun r2 => Option.bind (F_spec_Distinct (r2.1, r2.2.1, r2.2.2.1, r2.2.2.2.1, r2.2.2.2.2.1, r2.2.2.2.2.2)) fun r3 => Option.bind (F_laws_toPool (x.1, x.2.1, x.2.2.1, x.2.2.2.1, x.2.2.2.2.1, x.2.2.2.2.2)) fun r4 => Option.bind (F_impl_Distinct (r4.1, r4.2.1, r4.2.2.1, r4.2.2.2.1, r4.2.2.2.2.1, r4.2.2.2.2.2)) fun r5 => bif (r5 != r3) then some false else Option.bind (F_laws_toPool (x.1, x.2.1, x.2.2.1, x.2.2.2.1, x.2.2.2.2.1, x.2.2.2.2.2)) fun r6 => Option.bind (F_laws_eqPool (r4.1, r4.2.1, r4.2.2.1, r4.2.2.2.1, r4.2.2.2.2.1, r4.2.2.2.2.2, r6.1, r6.2.1, r6.2.2.1, r6.2.2.2.1, r6.2.2.2.2.1, r6.2.2.2.2.2)) fun r7 => bif (!r7) then some false else some true
noncomputable def f4B : Code := match Try.f4.body with
  | some c => c
  | none => .skip
noncomputable def f4K : C.Sem := tab [⟨14, F_laws_szPool⟩, ⟨15, F_spec_Distinct⟩, ⟨16, F_laws_toPool⟩, ⟨17, F_impl_Distinct⟩, ⟨18, F_laws_eqPool⟩]
noncomputable def f4P : Lp := fun i s {_R} κ => none
theorem k4 : Contract C Try.prog f4K := contract_tab _ (fun p hp => by
    simp only [List.mem_cons, List.mem_nil_iff, or_false] at hp
    rcases hp with rfl | rfl | rfl | rfl | rfl
    · exact ok14
    · exact ok15
    · exact ok16
    · exact ok17
    · exact ok18)
theorem ev4 (x : List E_i64 × List E_LNode × List E_LAge × List E_LCell × List E_LVol × Int) : evalB C f4K f4P 4 Try.f4 f4B ⟨[.v true [(.sl 3 ts_i64), (.sl 155 ts_LNode), (.sl 136 ts_LAge), (.sl 140 ts_LCell), (.sl 124 ts_LVol), (.int .i64)] [false, false, false, false, false, false]], [⟨false, [.bool], [false]⟩], false⟩ [(.sl 3 ts_i64), (.sl 155 ts_LNode), (.sl 136 ts_LAge), (.sl 140 ts_LCell), (.sl 124 ts_LVol), (.int .i64)] [.bool] x = F_laws_FnExactDistinct x := by kernel_rfl
theorem ok4 : ContractAt C Try.prog 4 F_laws_FnExactDistinct := fn_sound (lp := f4P) tok mixed k4 (by kernel_rfl) (fn := Try.f4) (c := f4B) (sg := ⟨[.v true [(.sl 3 ts_i64), (.sl 155 ts_LNode), (.sl 136 ts_LAge), (.sl 140 ts_LCell), (.sl 124 ts_LVol), (.int .i64)] [false, false, false, false, false, false]], [⟨false, [.bool], [false]⟩], false⟩) Try.func4 (by decide) (by kernel_rfl) (by kernel_rfl) (by kernel_rfl) (fun c' hc' => by
    rw [show loopsOf f4B = [] by kernel_rfl] at hc'
    cases hc') (by decide) (by decide) (fun x y h => (ev4 x).trans h)
end Go.Proofs.Ytmofdkmggfdciaa.XQ
